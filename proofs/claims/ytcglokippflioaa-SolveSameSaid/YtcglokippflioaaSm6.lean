/- Texts of the claim, in one: Tab. -/
import Derived.Test.YtcglokippflioaaProg
import Derived.KernelRfl
import Derived.Test.YtcglokippflioaaSm1
import Derived.Test.YtcglokippflioaaSm4

/-! Facts of the program's types; the data of a search; the functions' images. -/
namespace Go.Proofs.Ytcglokippflioaa
open Go Go.RowKit YLib
theorem infoInt : (Try.prog.info? 3).map (fun i => (i.zero, i.size, i.bytes)) = some (some (.int .i64 0), 1, 8) := by kernel_rfl
theorem infoInts : (Try.prog.info? 26).map (fun i => (i.zero, i.size, i.bytes)) = some (some (.slice none 0 0), 1, 24) := by kernel_rfl
theorem infoTr : (Try.prog.info? 70).map (fun i => (i.zero, i.size, i.bytes)) = some (some (.agg #[.int .i64 0, .int .i64 0, .int .i64 0]), 3, 24) := by kernel_rfl

def trK : Kind Tr := Kind.iso (Kind.pair Kind.int (Kind.pair Kind.int Kind.int)) (fun t => (t.lit, t.reason, t.level))
theorem trK_mk {w : World} {S : Nat → Prop} (t : Tr) : trK.rd w S [.int .i64 t.lit, .int .i64 t.reason, .int .i64 t.level] t := ⟨[.int .i64 t.lit], _, rfl, rfl, [.int .i64 t.reason], [.int .i64 t.level], rfl, rfl, rfl⟩
theorem trK_inv {w : World} {S : Nat → Prop} {t : Tr} {cs : List Value} (h : trK.rd w S cs t) : cs = [.int .i64 t.lit, .int .i64 t.reason, .int .i64 t.level] := by
  obtain ⟨_, _, rfl, rfl, _, _, rfl, rfl, rfl⟩ := h; rfl
abbrev clK : Kind (List Int) := Kind.slice Kind.int
def cK : Kind Cl := Kind.iso (Kind.pair clK Kind.int) (fun c => (c.lits, c.tag))
theorem cAt {w : World} {S : Nat → Prop} {A : Option Addr} {xs : List Cl} (h : RowAt cK w S A xs) {i : Nat} {x : Cl} (hx : xs[i]? = some x) : ∃ b o A' c', A = some ⟨b, o, none⟩ ∧
    w.cell? ⟨b, o + i * 2, none⟩ = some (.slice A' x.lits.length c') ∧ w.cell? ⟨b, o + i * 2 + 1, none⟩ = some (.int .i64 x.tag) ∧ x.lits.length ≤ c' ∧ RowAt Kind.int w S A' x.lits := by
  obtain ⟨hi, rfl⟩ := List.getElem?_eq_some_iff.1 hx
  rcases h with rfl | ⟨b, o, hA, _, _, h⟩
  · simp at hi
  · obtain ⟨cs, ⟨_, _, rfl, ⟨A', c', rfl, hl, hr⟩, rfl⟩, h2⟩ := h i hi
    exact ⟨b, o, A', c', hA, h2 0 _ rfl, h2 1 _ rfl, hl, hr⟩
/-- The parts of a search; n: how many entries its map has at most. -/
def sPn (n : Nat) (b : Nat) (fc fo vc vv vt vl : Value) (m : Nat) (s : St) : List HP :=
  [blkP b 53 [.int .i64 s.vars, fc, fo, vc, .map (some m), vv, vt, vl, .int .i64 s.steps],
   rowP Kind.int 3 vv s.val, rowP trK 70 vt s.tr, rowP clK 26 vc s.cls, rowP clK 26 vl s.log, mapP Try.prog 3 3 m n s.act]
def sP (b : Nat) (fc fo vc vv vt vl : Value) (m : Nat) (s : St) : List HP := sPn s.cls.length b fc fo vc vv vt vl m s
end Go.Proofs.Ytcglokippflioaa
