/- Texts of the claim, in one: Lib5, Lib6. -/
import Derived.Sort.Grow
import Derived.Test.YtcglokippflioaaSm1
import Derived.Test.YtcglokippflioaaSm4

/-! Worlds that have only grown. -/
namespace Go.Proofs.Ytcglokippflioaa.YLib
open Go Go.RowKit
/-- w' is w with new blocks behind it, and draws made. -/
structure Gro (w w' : World) : Prop where
  below : Below w.heap.size w w'
  drawn : w.drawn ≤ w'.drawn
section
variable {w w1 w2 : World}
theorem Gro.refl (w : World) : Gro w w := ⟨Below.refl _ _, Nat.le_refl _⟩
theorem Gro.trans (h : Gro w w1) (k : Gro w1 w2) : Gro w w2 := ⟨h.below.trans (k.below.mono h.below.size), Nat.le_trans h.drawn k.drawn⟩
theorem Gro.alloc (h : Gro w w1) (o : Obj) : Gro w (w1.alloc o) := ⟨h.below.alloc h.below.size o, h.drawn⟩
theorem Gro.drew (h : Gro w w1) : Gro w w1.drew := ⟨h.below.drew, Nat.le_succ_of_le h.drawn⟩
theorem Gro.drewN (h : Gro w w1) (q : Nat) : Gro w (w1.drewN q) := ⟨⟨h.below.os, h.below.tape, h.below.output, h.below.size, h.below.block⟩, Nat.le_trans h.drawn (Nat.le_add_right _ _)⟩
theorem Gro.setCell (h : Gro w w1) {p : Addr} (hp : w.heap.size ≤ p.block) (u : Value) : Gro w (w1.setCell p u) := ⟨h.below.setCell hp u, h.drawn⟩
theorem Gro.size (h : Gro w w1) : w.heap.size ≤ w1.heap.size := h.below.size
theorem Gro.chg (h : Gro w w1) (M : Nat → Prop) : Chg M w w1 := Chg.of_below h.below M
theorem Gro.cell (h : Gro w w1) {b o : Nat} {v : Value} (hc : w.cell? ⟨b, o, none⟩ = some v) : w1.cell? ⟨b, o, none⟩ = some v := (h.below.cell (p := ⟨b, o, none⟩) (World.block_lt_of_cell? w _ hc)).trans hc
theorem Gro.row {α : Type} {d : Kind α} {S : Nat → Prop} {A : Option Addr} {xs : List α} (h : Gro w w1) (hr : RowAt d w S A xs) : RowAt d w1 S A xs := hr.chg (h.chg NoM) (fun _ _ => id)
theorem Gro.inv {w0 : World} {T : Nat → Prop} {cs : List HP} (h : Gro w w1) (hi : Inv w0 T w cs) : Inv w0 T w1 cs := hi.below h.below
theorem Gro.ex (h : Gro w w1) : ∃ q os, w1 = Go.Sort.grow (w.drewN q) os := by
  refine ⟨w1.drawn - w.drawn, w1.heap.extract w.heap.size w1.heap.size, ?_⟩
  have hd : w1.drawn = w.drawn + (w1.drawn - w.drawn) := by have := h.drawn; omega
  have hh : w1.heap = w.heap ++ w1.heap.extract w.heap.size w1.heap.size := by
    apply Array.ext_getElem?
    intro k
    rw [Array.getElem?_append]
    by_cases hk : k < w.heap.size
    · rw [if_pos hk, h.below.block k hk]
    · rw [if_neg hk, Array.getElem?_extract]
      by_cases hk2 : k < w1.heap.size
      · rw [if_pos (by omega), show w.heap.size + (k - w.heap.size) = k by omega]
      · rw [if_neg (by omega), Array.getElem?_eq_none (by omega)]
  cases w1 with
  | mk heap tape drawn os output =>
    have h1 := h.below.os
    have h2 := h.below.tape
    have h3 := h.below.output
    simp only at h1 h2 h3 hd hh
    subst h1 h2 h3
    simp only [World.drewN, Go.Sort.grow, World.mk.injEq]
    exact ⟨hh, trivial, hd, trivial, trivial⟩
theorem gro_grow (w : World) (q : Nat) (os : Array Obj) : Gro w (Go.Sort.grow (w.drewN q) os) := by
  refine ⟨⟨rfl, rfl, rfl, ?_, fun k hk => ?_⟩, ?_⟩
  · rw [Go.Sort.size_grow]; exact Nat.le_add_right _ _
  · exact Go.Sort.heap_grow_old (w.drewN q) os hk
  · show w.drawn ≤ (w.drewN q).drawn; exact Nat.le_add_right _ _
end
/-- A function value that asks one number something: it may lay blocks. -/
def AskI (P : Program) (g : Nat) (lb : Array Value) (xs : List Int) (p : Int → Bool) (w : World) : Prop :=
  ∀ x ∈ xs, ∀ W, Gro w W → Calls P g (#[.int .i64 x] ++ lb) W fun e W' => e = .returned (.bool (p x)) ∧ Gro W W'
theorem idxI_neg {α : Type} (p : α → Bool) : ∀ xs : List α, -1 ≤ idxI p xs ∧ idxI p xs < xs.length ∧ (idxI p xs < 0 ↔ ∀ x ∈ xs, p x = false)
  | [] => by simp [idxI]
  | x :: xs => by
    obtain ⟨h1, h2, h3⟩ := idxI_neg p xs
    unfold idxI
    by_cases hx : p x = true
    · rw [if_pos hx]
      refine ⟨by omega, by rw [List.length_cons]; omega, ?_⟩
      constructor
      · intro h; omega
      · intro h; rw [h x (List.mem_cons_self ..)] at hx; cases hx
    · rw [if_neg hx]
      by_cases hn : idxI p xs < 0
      · rw [if_pos hn]
        refine ⟨by omega, by rw [List.length_cons]; omega, ?_⟩
        constructor
        · intro _ y hy
          rcases List.mem_cons.1 hy with rfl | hy
          · simpa using hx
          · exact h3.1 hn y hy
        · intro _; omega
      · rw [if_neg hn]
        refine ⟨by omega, by rw [List.length_cons]; omega, ?_⟩
        constructor
        · intro h; omega
        · intro h
          exact absurd (h3.2 fun y hy => h y (List.mem_cons_of_mem _ hy)) hn
/-- It goes on behind what answers no. -/
theorem idxI_skip {α : Type} {p : α → Bool} : ∀ (xs : List α) (k : Nat), k ≤ xs.length → (∀ x ∈ xs.take k, p x = false) → idxI p xs = if idxI p (xs.drop k) < 0 then -1 else idxI p (xs.drop k) + k
  | xs, 0, _, _ => by
    have := (idxI_neg p xs).1
    rw [List.drop_zero]
    split <;> omega
  | [], k + 1, h, _ => by simp at h
  | x :: xs, k + 1, h, hx => by
    have ih := idxI_skip xs k (by simpa using h) (fun y hy => hx y (by rw [List.take_succ_cons]; exact List.mem_cons_of_mem _ hy))
    have h0 : p x = false := hx x (by simp)
    rw [List.drop_succ_cons]
    conv => lhs; unfold idxI
    rw [if_neg (by rw [h0]; decide), ih]
    by_cases hn : idxI p (xs.drop k) < 0
    · simp only [if_pos hn]; rfl
    · simp only [if_neg hn]
      rw [if_neg (by omega)]
      omega
end Go.Proofs.Ytcglokippflioaa.YLib

/-! Owned rows of whole numbers, written over by the library's sorts. -/
namespace Go.Proofs.Ytcglokippflioaa.YLib
open Go Go.RowKit
section
variable {w0 w : World} {T : Nat → Prop} {cs : List HP} {e : TypeId} {g n cap i : Nat} {xs : List Int}
theorem putCells_take {cur : Array Value} {xs ys : List Int} (hl : ys.length = xs.length) (hc : cur.toList.take xs.length = xs.map (Value.int .i64)) : (Go.Sort.putCells (Value.int .i64) 0 ys.toArray cur).toList.take ys.length = ys.map (Value.int .i64) := by
  have hsz : xs.length ≤ cur.size := by
    have := congrArg List.length hc
    rw [List.length_take, List.length_map] at this
    simp at this
    omega
  apply List.ext_getElem?
  intro k
  rw [List.getElem?_take]
  by_cases hk : k < ys.length
  · rw [if_pos hk, List.getElem?_map, List.getElem?_eq_getElem hk]
    unfold Go.Sort.putCells
    rw [Array.getElem?_toList, Array.getElem?_mapIdx, Array.getElem?_eq_getElem (by omega)]
    simp [hk]
  · rw [if_neg hk, List.getElem?_eq_none (by simp; omega)]
/-- A row written over. -/
theorem Inv.putRow (h : Inv w0 T w cs) (hi : cs[i]? = some (rowP Kind.int e (.slice (some ⟨g, 0, none⟩) n cap) xs)) (ys : List Int) (hl : ys.length = xs.length) :
    Inv w0 T (Go.Sort.putRow (Value.int .i64) w g 0 ys.toArray) (cs.set i (rowP Kind.int e (.slice (some ⟨g, 0, none⟩) n cap) ys)) := by
  obtain ⟨S, hS, hlt, back⟩ := h.focus hi
  obtain ⟨inner, h0, h2, h3⟩ := hS
  have hin := reps_enc_inv (h1 := fun _ => rfl) h3
  subst hin
  have hg : S g := h2 g rfl
  refine back _ (rowP Kind.int e _ _) ⟨rfl, rfl, rfl, ?_, fun k _ hk => ?_⟩ ⟨ys.map (Value.int .i64), ?_, fun k hk => .inl (h2 k hk), reps_enc (h1 := fun _ => rfl) ys⟩
  · simp [Go.Sort.putRow, Go.Sort.mapBlock]
  · have hne : g ≠ k := fun e => hk (e ▸ hg)
    simp [Go.Sort.putRow, Go.Sort.mapBlock, Array.getElem?_modify, hne]
  · refine ⟨by rw [List.length_map]; show ys.length = ys.length * 1; omega, ?_⟩
    rcases h0.2 with ⟨h4, _⟩ | ⟨g', cap', cur, h4, hb, hg, hn, hm, hcs, htake⟩
    · cases h4
    · injection h4 with h4 h5 h6
      injection h4 with h4
      injection h4 with h4
      subst h4 h6
      have hz : Kind.int.sz = 1 := rfl
      rw [hz, Nat.mul_one] at htake
      refine .inr ⟨g, cap, Go.Sort.putCells (Value.int .i64) 0 ys.toArray cur, by rw [hl, h5], hb, ?_, by rw [hl]; exact hn, hm, by unfold Go.Sort.putCells; simpa using hcs, ?_⟩
      · simp [Go.Sort.putRow, Go.Sort.mapBlock, Array.getElem?_modify, hg, Go.Sort.onCells]
      · rw [hz, Nat.mul_one]
        exact putCells_take hl htake
/-- A row, in the sorts' words. -/
theorem Inv.holds (h : Inv w0 T w cs) (hi : cs[i]? = some (rowP Kind.int e (.slice (some ⟨g, 0, none⟩) n cap) xs)) : Go.Sort.Holds (Value.int .i64) w g 0 xs.toArray ∧ g < w.heap.size := by
  constructor
  · intro j hj
    have hj' : j < xs.length := by simpa using hj
    obtain ⟨h1, h2⟩ := h.cellRow (h1 := fun _ => rfl) hi j hj'
    rw [Nat.zero_add]
    refine ⟨?_, h2⟩
    rw [h1, getElem!_pos _ j hj]
    simp
  · obtain ⟨S, ⟨inner, h0, h2, _⟩, hlt, _⟩ := h.focus hi
    exact hlt g (h2 g rfl)
theorem Inv.grow (h : Inv w0 T w cs) (os : Array Obj) : Inv w0 T (Go.Sort.grow w os) cs := h.below ⟨rfl, rfl, rfl, by rw [Go.Sort.size_grow]; exact Nat.le_add_right _ _, fun k hk => Go.Sort.heap_grow_old w os hk⟩
theorem ahead_drewN (w : World) (n : Nat) : Go.Sort.ahead w n = w.drewN n := rfl
end
end Go.Proofs.Ytcglokippflioaa.YLib
