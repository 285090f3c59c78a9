/- Texts of the claim, in one: OpenF. -/
import Derived.Lib.SmallJoins
import Derived.Test.YtcglokippflioaaSm6
import Derived.Test.YtcglokippflioaaSm10

/-! A formula that came in. -/
namespace Go.Proofs.Ytcglokippflioaa
open Go Go.RowKit Go.WideShapes Go.ChangeShapes Go.Deep YLib
instance : Inhabited Cl := ⟨⟨[], 0⟩⟩
section
variable {H : Type} {enc : TypeId × Value → H} {W : World}
theorem open_intsR {t : TypeId} (ht : Try.prog.underlying t = some (.slice 3)) {spare : Nat → Bool} {held : Bool} {fuel : Nat} {cs : List Value} {x : DataW H × List MemPlace} (h : DataW.trod enc Try.prog W 0 spare held fuel t cs = some x) :
    ∃ A c xs, cs = [.slice A xs.length c] ∧ xs.length ≤ c ∧ c ≤ 9223372036854775807 ∧ RowAt Kind.int W (fun _ => True) A xs ∧ ∀ a ∈ xs, (Lit.int .i64 a).wf = true :=
  open_row (d := Kind.int) ht (by kernel_rfl) (by decide) (fun n c y hy => by
    obtain ⟨a, rfl, hw⟩ := YLib.trod_int Try.underlying3 hy
    exact ⟨a, rfl, hw⟩) h
theorem open_clause {spare : Nat → Bool} {held : Bool} {fuel : Nat} {cs : List Value} {x : DataW H × List MemPlace} (h : DataW.trod enc Try.prog W 0 spare held fuel 32 cs = some x) :
    ∃ c : Cl, cK.rd W (fun _ => True) cs c ∧ c.lits.length ≤ 9223372036854775807 ∧ (∀ a ∈ c.lits, (Lit.int .i64 a).wf = true) ∧ (Lit.int .i64 c.tag).wf = true := by
  obtain ⟨y0, y1, n, rfl, hl, h0, h1⟩ := trod_struct2 Try.underlying32 h
  have hl2 : cs.length = 2 := by rw [hl]; kernel_rfl
  have k0 : Try.prog.cellsOf 26 = 1 := by kernel_rfl
  have k1 : Try.prog.cellsOf 3 = 1 := by kernel_rfl
  simp only [k0, k1] at h0 h1
  match cs, hl2 with
  | [c0, c1], _ =>
    obtain ⟨A, c, xs, e0, hle, hc, hr, hw⟩ := open_intsR Try.underlying26 h0
    obtain ⟨a, e1, hw1⟩ := YLib.trod_int Try.underlying3 h1
    have e0 : [c0] = [.slice A xs.length c] := e0
    have e1 : [c1] = [.int .i64 a] := e1
    cases e0
    cases e1
    exact ⟨⟨xs, a⟩, ⟨[.slice A xs.length c], [.int .i64 a], rfl, ⟨A, c, rfl, hle, hr⟩, rfl⟩, Nat.le_trans hle hc, hw, hw1⟩
set_option maxRecDepth 100000 in
theorem open_formula {r : Reach} {b0 : Nat} {spare : Nat → Bool} {held : Bool} {v : Value} {dd : DataW H} {p : List MemPlace} (hv : Value.okWide Try.prog W r b0 28 v) (h : DataW.Trod enc Try.prog W 0 spare held 28 v dd p) :
    ∃ (vars : Int) (Ac Ao : Option Addr) (cc co : Nat) (fcl : List Cl) (order : List Int), v = .agg #[.int .i64 vars, .slice Ac fcl.length cc, .slice Ao order.length co] ∧ RowAt cK W (fun _ => True) Ac fcl ∧ RowAt Kind.int W (fun _ => True) Ao order ∧
      (∀ c ∈ fcl, c.lits.length ≤ 9223372036854775807) ∧ fcl.length ≤ 9223372036854775807 ∧ order.length ≤ 9223372036854775807 ∧ (Lit.int .i64 vars).wf = true ∧ (∀ c ∈ fcl, (∀ a ∈ c.lits, (Lit.int .i64 a).wf = true) ∧ (Lit.int .i64 c.tag).wf = true) ∧ (∀ a ∈ order, (Lit.int .i64 a).wf = true) ∧ fcl.length ≤ cc ∧ order.length ≤ co := by
  obtain ⟨v0, v1, v2, y0, y1, y2, n, rfl, _, _, h0, h1, h2⟩ := Joins.open_agg3 Try.underlying28 (by kernel_rfl) (by kernel_rfl) hv h
  obtain ⟨a, e0, hw0⟩ := YLib.trod_int Try.underlying3 h0
  obtain ⟨Ac, cc, fcl, e1, hle1, hc1, hr1, hb1⟩ := open_row (d := cK) (Bd := fun c => c.lits.length ≤ 9223372036854775807 ∧ (∀ a ∈ c.lits, (Lit.int .i64 a).wf = true) ∧ (Lit.int .i64 c.tag).wf = true) Try.underlying25 (by kernel_rfl) (by decide) (fun n c y hy => open_clause hy) h1
  obtain ⟨Ao, co, order, e2, hle2, hc2, hr2, hw2⟩ := open_intsR Try.underlying26 h2
  cases e0
  cases e1
  cases e2
  exact ⟨a, Ac, Ao, cc, co, fcl, order, rfl, hr1, hr2, fun c hc => (hb1 c hc).1, Nat.le_trans hle1 hc1, Nat.le_trans hle2 hc2, hw0, fun c hc => (hb1 c hc).2, hw2, hle1, hle2⟩
set_option maxRecDepth 100000 in
theorem open_ints_arg {r : Reach} {b0 : Nat} {spare : Nat → Bool} {held : Bool} {v : Value} {dd : DataW H} {p : List MemPlace} (hv : Value.okWide Try.prog W r b0 26 v) (h : DataW.Trod enc Try.prog W 0 spare held 26 v dd p) :
    ∃ (A : Option Addr) (c : Nat) (xs : List Int), v = .slice A xs.length c ∧ xs.length ≤ c ∧ c ≤ 9223372036854775807 ∧ RowAt Kind.int W (fun _ => True) A xs ∧ ∀ a ∈ xs, (Lit.int .i64 a).wf = true := by
  obtain ⟨a, len, cap, rfl⟩ := okWide_slice Try.underlying26 hv
  obtain ⟨fuel, hf⟩ := h
  obtain ⟨A, c, xs, e, rest⟩ := open_intsR Try.underlying26 hf
  have e : [Value.slice a len cap] = [.slice A xs.length c] := e
  cases e
  exact ⟨a, cap, xs, rfl, rest⟩
end
theorem own_knob : ownKnob Try.prog.godebug = none := by kernel_rfl
theorem laidOut : laidOutB Try.prog = true := by kernel_rfl
theorem rowed : mapsRowed Try.prog = true := by kernel_rfl
theorem fullSlices : ∀ {t e : TypeId}, t < Try.prog.types.size → Try.prog.underlying t = some (.slice e) → 0 < Try.prog.cellsOf e := by
  intro t e ht h
  have hall : ((List.range Try.prog.types.size).all fun t => match Try.prog.underlying t with | some (.slice e) => decide (0 < Try.prog.cellsOf e) | _ => true) = true := by kernel_rfl
  have h1 := List.all_eq_true.1 hall t (List.mem_range.2 ht)
  rw [h] at h1
  simpa using h1
end Go.Proofs.Ytcglokippflioaa
