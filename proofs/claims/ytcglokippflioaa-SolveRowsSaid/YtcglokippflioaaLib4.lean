import Derived.Test.YtcglokippflioaaLib3
/-! Rows that lie in blocks whose cells are known. -/
namespace Go.Proofs.Ytcglokippflioaa.YLib
open Go Go.RowKit
theorem RowAt.of_blk {α : Type} {d : Kind α} {w : World} {S : Nat → Prop} {b : Nat} {t : TypeId} {cs : List Value} {xs : List α} (hb : w.heap[b]? = some (.cells cs.toArray t (0, 0))) (hS : S b) (hr : Reps (d.rd w S) cs xs) : RowAt d w S (some ⟨b, 0, none⟩) xs := by
  refine .inr ⟨b, 0, rfl, hS, heap_lt hb, fun i hi => ?_⟩
  obtain ⟨c, h1, h2⟩ := Reps.get hr i hi
  refine ⟨c, h1, fun j u hu => ?_⟩
  have := h2 j u hu
  rw [Nat.zero_add]
  simp only [World.cell?, hb]
  simpa using this
theorem Inv.blk {w0 w : World} {T : Nat → Prop} {cs : List HP} (h : Inv w0 T w cs) {i b : Nat} {t : TypeId} {vs : List Value} (hi : cs[i]? = some (blkP b t vs)) : w.heap[b]? = some (.cells vs.toArray t (0, 0)) := by
  obtain ⟨S, hS, _⟩ := h.get hi
  exact hS.1
theorem ints_at {w : World} {b : Nat} {t : TypeId} {xs : List Int} (hb : w.heap[b]? = some (.cells (xs.map (Value.int .i64)).toArray t (0, 0))) : RowAt Kind.int w (fun _ => True) (some ⟨b, 0, none⟩) xs :=
  RowAt.of_blk hb trivial (reps_enc (h1 := fun _ => rfl) xs)
end Go.Proofs.Ytcglokippflioaa.YLib
