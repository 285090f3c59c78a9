/- SolveRows: for every whole number, the program's number of the row is the document's, and chapter 28's examples come out; no condition. -/
import Derived.Test.YtcglokippflioaaRows
import Derived.Test.YtcglokippflioaaAwakeW
import Derived.Test.YtcglokippflioaaLubW
import Derived.Test.YtcglokippflioaaPost
namespace Go.Proofs.Ytcglokippflioaa
open Go.ChangeShapes Go.WideShapes Go.ChangeAt Go.RowKit YLib
theorem own_knob : ownKnob Try.prog.godebug = none := by kernel_rfl
theorem solveRows_walk (a0 : Int) (w0 : (Lit.int .i64 a0).wf = true) (w : World) :
    Calls Try.prog 3 #[.int .i64 a0] w fun e w' => e = .returned (.bool true) ∧ Inv w NoM w' [] := by
  have hb : -9223372036854775808 ≤ a0 ∧ a0 ≤ 9223372036854775807 := by
    simp [Lit.wf, IntKind.min, IntKind.max, IntKind.bits, IntKind.signed] at w0; omega
  obtain ⟨hb1, hb2⟩ := hb
  clear w0
  have HL := hid (Luby_calls a0 hb2)
  have HR : Hid (∀ W, Calls Try.prog 6 #[.int .i64 a0] W fun e w' => e = .returned (.int .i64 (lub a0.toNat)) ∧ w' = W) := hid (fun W => by
    by_cases h : 0 ≤ a0
    · have := RLuby_calls W a0.toNat (by omega)
      rw [show ((a0.toNat : Nat) : Int) = a0 by omega] at this
      exact this
    · have h1 : a0 < 1 := by omega
      have hl : lub a0.toNat = 0 := by rw [show a0.toNat = 0 by omega]; unfold lub; simp
      rw [hl]
      clear h hl HL
      go_enter Try.func6, Try.ntmps6
      go_wp2
      go_ret
      exact ⟨rfl, rfl⟩)
  have HA := hid (awake_calls w)
  generalize lub a0.toNat = l at *
  go_enter Try.func3, Try.ntmps3
  go_wp2_with (first
    | (go_at_call 5; refine (HL.out _).mono ?_; rintro e w' ⟨rfl, rfl⟩)
    | (go_at_call 6; refine (HR.out _).mono ?_; rintro e w' ⟨rfl, rfl⟩)
    | (go_at_call 7; refine HA.out.mono ?_; rintro e w' ⟨rfl, h1⟩; have H1 := hid h1; clear h1))
  go_ret
  exact ⟨rfl, H1.out⟩
set_option maxRecDepth 100000 in
theorem solveRows_lifted (os : Os) (started : os.Started) (H : Type) (enc : TypeId × Value → H) :
    ReturnsInHanded {} Try.checked os 3 .any (Rows.solveRowsSpec.pre6 enc Try.prog Try.f3 Rows.solveRowsRow.domain false) (Rows.solveRowsSpec.post enc Try.prog Try.f3 false true false false) := by
  refine returnsInHanded_of_change (C := Try.checked) own_knob started (by kernel_rfl) Try.func3
    (ChangeSpec.witness6 (enc := enc) (C := Try.checked) false ⟨#[], #[.int .i64 0], []⟩ 8 (by kernel_rfl) (by kernel_rfl) (by kernel_rfl) (by kernel_rfl)) ?_
  intro W base args ds gs before hval0 hW hcnd _
  have hval : ∀ (j : Nat) t v, Try.f3.params[j]? = some t → args[j]? = some v → Value.okWide Try.prog W .any base t v := hval0
  have hW' := hW
  obtain ⟨p, q, hA0, hV, rfl, hfz, hnd⟩ := hW
  have hA : DataW.TrodAll enc Try.prog W 0 (fun _ => true) true Try.f3.params.toList args.toList ds p := hA0
  rw [Try.params3] at hA hval
  obtain ⟨v0, vs0, d0, ds0, p0, q0, hargs, rfl, rfl, h0, r0⟩ := trodAll_cons hA
  obtain ⟨rfl, rfl, rfl⟩ := trodAll_nil r0
  obtain rfl : args = #[v0] := by cases args; simp_all
  obtain ⟨rfl, rfl⟩ := trodVars_none hV
  obtain ⟨a0, rfl, rfl, rfl, w0⟩ := open_int Try.underlying3 (hval 0 3 v0 rfl rfl) h0
  clear hA0 hval0
  simp only [List.append_nil] at hW'
  refine (solveRows_walk a0 w0 W).mono fun e W' ⟨he, hg⟩ => ?_
  subst he
  exact ⟨_, rfl, post_below (pa := []) (pv := []) hW' hg.belowOf rfl (fun sp _ => (trodAll_cons_mk (shut_int Try.underlying3 w0) trodAll_mk0)) (fun _ _ => rfl)
    (fun _ _ _ => (trodAll_cons_mk (shut_bool Try.underlying4 _) trodAll_mk0)) (ok_one (by kernel_rfl) rfl (okWide_bool_mk Try.underlying4 _))⟩
theorem solveRows_holds : Rows.SolveRowsSaid :=
  OpenClaim.holds_of_wide 3 Try.f3 rfl rfl rfl rfl rfl rfl rfl ⟨rfl, rfl, rfl, rfl, rfl⟩ rfl rfl rfl rfl rfl (by kernel_rfl) Try.func3 (by kernel_rfl)
    (of_decide_eq_true (by kernel_rfl)) (by unfold Func.isWrapper; first | (rw [if_pos (by decide +kernel)]; kernel_rfl) | (rw [if_neg (by decide +kernel)]; exact ⟨rfl, rfl⟩))
    (fun os started H enc _ => solveRows_lifted os started H enc)
#print axioms solveRows_holds
end Go.Proofs.Ytcglokippflioaa
