/- Texts of the claim, in one: Lib. -/
import Derived.Below
import Derived.Deep.AppendLies
import Derived.OwnWalk
import Derived.WalkKit
import Derived.Maps.OwnOps
import Derived.Deep.Draws

/-! What lies in memory: kinds of data, owned rows, and what a call may change. -/
namespace Go.Proofs.Ytcglokippflioaa.YLib
open Go Go.RowKit

theorem hid {p : Prop} (h : p) : Hid p := h

/-- w' differs from w at most in the blocks M, and in new ones. -/
structure Chg (M : Nat → Prop) (w w' : World) : Prop where
  os : w'.os = w.os
  tape : w'.tape = w.tape
  output : w'.output = w.output
  size : w.heap.size ≤ w'.heap.size
  block : ∀ k, k < w.heap.size → ¬ M k → w'.heap[k]? = w.heap[k]?

def NoM : Nat → Prop := fun _ => False

theorem Chg.refl (M : Nat → Prop) (w : World) : Chg M w w := ⟨rfl, rfl, rfl, Nat.le_refl _, fun _ _ _ => rfl⟩
theorem Chg.trans {M M1 M2 : Nat → Prop} {a b c : World} (h : Chg M a b) (k : Chg M1 b c) (h0 : ∀ i, M i → M2 i) (h1 : ∀ i, i < a.heap.size → M1 i → M2 i) : Chg M2 a c :=
  ⟨k.os.trans h.os, k.tape.trans h.tape, k.output.trans h.output, Nat.le_trans h.size k.size, fun i hi hn =>
    (k.block i (Nat.lt_of_lt_of_le hi h.size) (fun hm => hn (h1 i hi hm))).trans (h.block i hi (fun hm => hn (h0 i hm)))⟩
theorem Chg.mono {M M1 : Nat → Prop} {a b : World} (h : Chg M a b) (h0 : ∀ i, M i → M1 i) : Chg M1 a b :=
  ⟨h.os, h.tape, h.output, h.size, fun i hi hn => h.block i hi (fun hm => hn (h0 i hm))⟩
theorem Chg.of_below {w w' : World} (h : Below w.heap.size w w') (M : Nat → Prop) : Chg M w w' := ⟨h.os, h.tape, h.output, h.size, fun k hk _ => h.block k hk⟩
theorem Chg.below {w w' : World} (h : Chg NoM w w') : Below w.heap.size w w' := ⟨h.os, h.tape, h.output, h.size, fun k hk => h.block k hk id⟩
theorem Chg.alloc {M : Nat → Prop} {w w' : World} (h : Chg M w w') (o : Obj) : Chg M w (w'.alloc o) :=
  h.trans (Chg.of_below ((Below.refl _ w').alloc (Nat.le_refl _) o) NoM) (fun _ => id) (fun _ _ h => h.elim)
theorem Chg.drew {M : Nat → Prop} {w w' : World} (h : Chg M w w') : Chg M w w'.drew := ⟨h.os, h.tape, h.output, h.size, h.block⟩
theorem Chg.drewN {M : Nat → Prop} {w w' : World} (h : Chg M w w') (n : Nat) : Chg M w (w'.drewN n) := ⟨h.os, h.tape, h.output, h.size, h.block⟩
theorem Chg.setCell {M : Nat → Prop} {w w' : World} (h : Chg M w w') (p : Addr) (u : Value) (hp : p.block < w.heap.size → M p.block) : Chg M w (w'.setCell p u) :=
  ⟨h.os, h.tape, h.output, by have := h.size; simp [World.setCell]; exact this, fun k hk hn =>
    (Below.heap_setCell w' p u k (fun e => hn (e ▸ hp (e ▸ hk)))).trans (h.block k hk hn)⟩
theorem Chg.grown {M : Nat → Prop} {w w' w2 : World} {row : Option Nat} (h : Chg M w w') (hg : w'.grownBy w2 row) (hr : ∀ k, row = some k → k < w.heap.size → M k) : Chg M w w2 :=
  ⟨hg.os.trans h.os, hg.tape.trans h.tape, hg.output.trans h.output, Nat.le_trans h.size hg.size, fun k hk hn =>
    (hg.block k (Nat.lt_of_lt_of_le hk h.size) (fun e => hn (hr k e.symm hk))).trans (h.block k hk hn)⟩
theorem Chg.cell {M : Nat → Prop} {w w' : World} (h : Chg M w w') {b o : Nat} (hb : ¬ M b) {v : Value} (hc : w.cell? ⟨b, o, none⟩ = some v) : w'.cell? ⟨b, o, none⟩ = some v :=
  (World.cell?_of_block (h.block b (World.block_lt_of_cell? w _ hc) hb)).trans hc
theorem Chg.blk {M : Nat → Prop} {w w' : World} (h : Chg M w w') {b : Nat} (hb : ¬ M b) {x : Obj} (hc : w.heap[b]? = some x) : w'.heap[b]? = some x :=
  (h.block b (Array.getElem?_eq_some_iff.1 hc).1 hb).trans hc

/-- A kind of data: sz cells that read as an α, within the blocks S. -/
structure Kind (α : Type) where
  sz : Nat
  rd : World → (Nat → Prop) → List Value → α → Prop
  len : ∀ {w S cs x}, rd w S cs x → cs.length = sz
  one : ∀ {w S cs x}, rd w S cs x → ∀ u ∈ cs, u.oneCell' = true
  mono : ∀ {w S S' cs x}, (∀ k, S k → S' k) → rd w S cs x → rd w S' cs x
  move : ∀ {w w' : World} {S cs x}, (∀ k, S k → k < w.heap.size → w'.heap[k]? = w.heap[k]?) → rd w S cs x → rd w' (fun k => S k ∧ k < w.heap.size) cs x

namespace Kind
def ofEnc {α : Type} (enc : α → Value) (h1 : ∀ x, (enc x).oneCell' = true) : Kind α where
  sz := 1
  rd := fun _ _ cs x => cs = [enc x]
  len := fun h => by rw [h]; rfl
  one := fun h u hu => by rw [h] at hu; rw [List.mem_singleton.1 hu]; exact h1 _
  mono := fun _ h => h
  move := fun _ h => h
def int : Kind Int := ofEnc (Value.int .i64) (fun _ => rfl)
def bool : Kind Bool := ofEnc Value.bool (fun _ => rfl)
def str : Kind ByteArray := ofEnc Value.string (fun _ => rfl)
end Kind

/-- n elements of kind d from an address on. -/
def RowAt {α : Type} (d : Kind α) (w : World) (S : Nat → Prop) (A : Option Addr) (xs : List α) : Prop :=
  xs = [] ∨ ∃ b o, A = some ⟨b, o, none⟩ ∧ S b ∧ b < w.heap.size ∧ ∀ i (h : i < xs.length), ∃ cs, d.rd w S cs xs[i] ∧ ∀ j u, cs[j]? = some u → w.cell? ⟨b, o + i * d.sz + j, none⟩ = some u

section
variable {α : Type} {d : Kind α} {w w' : World} {S S' : Nat → Prop} {A : Option Addr} {xs : List α}
theorem RowAt.mono (hS : ∀ k, S k → S' k) (h : RowAt d w S A xs) : RowAt d w S' A xs := by
  rcases h with h | ⟨b, o, hA, hb, hlt, h⟩
  · exact .inl h
  · exact .inr ⟨b, o, hA, hS b hb, hlt, fun i hi => let ⟨cs, h1, h2⟩ := h i hi; ⟨cs, d.mono hS h1, h2⟩⟩
theorem RowAt.move (hm : ∀ k, S k → k < w.heap.size → w'.heap[k]? = w.heap[k]?) (h : RowAt d w S A xs) : RowAt d w' (fun k => S k ∧ k < w.heap.size) A xs := by
  rcases h with h | ⟨b, o, hA, hb, hlt, h⟩
  · exact .inl h
  · have hbl := hm b hb hlt
    refine .inr ⟨b, o, hA, ⟨hb, hlt⟩, ?_, fun i hi => ?_⟩
    · rw [Array.getElem?_eq_getElem hlt] at hbl
      exact (Array.getElem?_eq_some_iff.1 hbl).1
    · obtain ⟨cs, h1, h2⟩ := h i hi
      exact ⟨cs, d.move hm h1, fun j u hu => (World.cell?_of_block hbl).trans (h2 j u hu)⟩
theorem RowAt.nil (d : Kind α) (w : World) (S : Nat → Prop) (A : Option Addr) : RowAt d w S A [] := .inl rfl
/-- Kept where nothing of S changes. -/
theorem RowAt.chg {M : Nat → Prop} (hc : Chg M w w') (hM : ∀ k, S k → ¬ M k) (h : RowAt d w S A xs) : RowAt d w' S A xs :=
  (h.move (fun k hk hlt => hc.block k hlt (hM k hk))).mono (fun _ h => h.1)
end

namespace Kind
/-- A slice, read. -/
def slice {α : Type} (d : Kind α) : Kind (List α) where
  sz := 1
  rd := fun w S cs xs => ∃ A c, cs = [.slice A xs.length c] ∧ xs.length ≤ c ∧ RowAt d w S A xs
  len := by rintro w S cs x ⟨A, c, rfl, _⟩; rfl
  one := by rintro w S cs x ⟨A, c, rfl, _⟩ u hu; rw [List.mem_singleton.1 hu]; rfl
  mono := by rintro w S S' cs x hS ⟨A, c, rfl, hl, h⟩; exact ⟨A, c, rfl, hl, h.mono hS⟩
  move := by rintro w w' S cs x hm ⟨A, c, rfl, hl, h⟩; exact ⟨A, c, rfl, hl, h.move hm⟩
def pair {α β : Type} (a : Kind α) (b : Kind β) : Kind (α × β) where
  sz := a.sz + b.sz
  rd := fun w S cs x => ∃ c0 c1, cs = c0 ++ c1 ∧ a.rd w S c0 x.1 ∧ b.rd w S c1 x.2
  len := by rintro w S cs x ⟨c0, c1, rfl, h0, h1⟩; rw [List.length_append, a.len h0, b.len h1]
  one := by
    rintro w S cs x ⟨c0, c1, rfl, h0, h1⟩ u hu
    rcases List.mem_append.1 hu with hu | hu
    · exact a.one h0 u hu
    · exact b.one h1 u hu
  mono := by rintro w S S' cs x hS ⟨c0, c1, rfl, h0, h1⟩; exact ⟨c0, c1, rfl, a.mono hS h0, b.mono hS h1⟩
  move := by rintro w w' S cs x hm ⟨c0, c1, rfl, h0, h1⟩; exact ⟨c0, c1, rfl, a.move hm h0, b.move hm h1⟩
def iso {α β : Type} (a : Kind α) (f : β → α) : Kind β where
  sz := a.sz
  rd := fun w S cs x => a.rd w S cs (f x)
  len := a.len
  one := a.one
  mono := a.mono
  move := a.move
end Kind

/-- The cells of a list of elements, one behind another. -/
def Reps {α : Type} (R : List Value → α → Prop) : List Value → List α → Prop
  | cs, [] => cs = []
  | cs, x :: xs => ∃ c0 c1, cs = c0 ++ c1 ∧ R c0 x ∧ Reps R c1 xs

theorem Reps.imp {α : Type} {R R' : List Value → α → Prop} (hR : ∀ c x, R c x → R' c x) : ∀ {xs : List α} {cs : List Value}, Reps R cs xs → Reps R' cs xs
  | [], _, h => h
  | _ :: _, _, ⟨c0, c1, e, h0, h1⟩ => ⟨c0, c1, e, hR _ _ h0, h1.imp hR⟩
theorem Reps.append {α : Type} {R : List Value → α → Prop} : ∀ {xs ys : List α} {cs ds : List Value}, Reps R cs xs → Reps R ds ys → Reps R (cs ++ ds) (xs ++ ys)
  | [], _, _, _, h, k => by rw [show _ = [] from h]; exact k
  | _ :: _, _, _, _, ⟨c0, c1, e, h0, h1⟩, k => ⟨c0, c1 ++ _, by rw [e, List.append_assoc], h0, h1.append k⟩
theorem Reps.one {α : Type} {R : List Value → α → Prop} {x : α} {cs : List Value} (h : R cs x) : Reps R cs [x] := ⟨cs, [], by simp, h, rfl⟩

/-- An owned row: v is nil, or stands at the head of a row of its own; its elements lie apart from that row. -/
def Owned {α : Type} (d : Kind α) (e : TypeId) (w : World) (S : Nat → Prop) (v : Value) (xs : List α) : Prop :=
  ∃ inner, w.ownsRow 0 e d.sz v xs.length inner ∧ (∀ k, v.ownBlock = some k → S k) ∧ Reps (d.rd w (fun k => S k ∧ v.ownBlock ≠ some k)) inner xs

section
variable {α : Type} {d : Kind α} {e : TypeId} {w w' : World} {S S' : Nat → Prop} {v : Value} {xs : List α}
theorem Owned.nil (d : Kind α) (e : TypeId) (w : World) (S : Nat → Prop) : Owned d e w S (.slice none 0 0) [] :=
  ⟨[], ⟨by simp, .inl ⟨rfl, rfl⟩⟩, fun k hk => by simp [Value.ownBlock] at hk, rfl⟩
theorem Owned.mono (hS : ∀ k, S k → S' k) (h : Owned d e w S v xs) : Owned d e w S' v xs := by
  obtain ⟨inner, h0, h1, h2⟩ := h
  exact ⟨inner, h0, fun k hk => hS k (h1 k hk), h2.imp (fun _ _ hr => d.mono (fun k hk => ⟨hS k hk.1, hk.2⟩) hr)⟩
theorem Owned.move (hm : ∀ k, S k → k < w.heap.size → w'.heap[k]? = w.heap[k]?) (h : Owned d e w S v xs) : Owned d e w' (fun k => S k ∧ k < w.heap.size) v xs := by
  obtain ⟨inner, h0, h1, h2⟩ := h
  have hlt : ∀ k, v.ownBlock = some k → k < w.heap.size := fun k hk => (h0.lt k hk).2
  refine ⟨inner, ?_, fun k hk => ⟨h1 k hk, hlt k hk⟩, h2.imp (fun _ _ hr => d.mono (fun k hk => ⟨⟨hk.1.1, hk.2⟩, hk.1.2⟩) (d.move (fun k hk hl => hm k hk.1 hl) hr))⟩
  refine ⟨h0.1, ?_⟩
  rcases h0.2 with h | ⟨g, cap, cur, rfl, hb, hg, rest⟩
  · exact .inl h
  · exact .inr ⟨g, cap, cur, rfl, hb, (hm g (h1 g rfl) (hlt g rfl)).trans hg, rest⟩
theorem Owned.chg {M : Nat → Prop} (hc : Chg M w w') (hM : ∀ k, S k → ¬ M k) (h : Owned d e w S v xs) : Owned d e w' S v xs :=
  (h.move (fun k hk hlt => hc.block k hlt (hM k hk))).mono (fun _ h => h.1)
theorem Owned.chgB {M : Nat → Prop} (hc : Chg M w w') (hM : ∀ k, S k → k < w.heap.size → ¬ M k) (h : Owned d e w S v xs) : Owned d e w' (fun k => S k ∧ k < w.heap.size) v xs :=
  h.move (fun k hk hlt => hc.block k hlt (hM k hk hlt))
end

/-- A part of memory: what it holds, within the blocks T. -/
structure HP where
  holds : World → (Nat → Prop) → Prop
  mono : ∀ {w T T'}, (∀ k, T k → T' k) → holds w T → holds w T'
  move : ∀ {w w' : World} {T}, (∀ k, T k → k < w.heap.size → w'.heap[k]? = w.heap[k]?) → holds w T → holds w' (fun k => T k ∧ k < w.heap.size)

/-- An owned row. -/
def rowP {α : Type} (d : Kind α) (e : TypeId) (v : Value) (xs : List α) : HP where
  holds := fun w T => Owned d e w T v xs
  mono := fun hS h => h.mono hS
  move := fun hm h => h.move hm
theorem heap_lt {w : World} {b : Nat} {o : Obj} (h : w.heap[b]? = some o) : b < w.heap.size := (Array.getElem?_eq_some_iff.1 h).1
/-- One block whose cells are known. -/
def blkP (b : Nat) (t : TypeId) (cs : List Value) : HP where
  holds := fun w T => w.heap[b]? = some (.cells cs.toArray t (0, 0)) ∧ T b
  mono := fun hS h => ⟨h.1, hS b h.2⟩
  move := fun hm h => ⟨(hm b h.2 (heap_lt h.1)).trans h.1, h.2, heap_lt h.1⟩
/-- Parts that lie apart from one another. -/
def allP (cs : List HP) : HP where
  holds := fun w T => ∃ col : Nat → Nat, ∀ (i : Nat) (c : HP), cs[i]? = some c → c.holds w (fun k => T k ∧ col k = i)
  mono := fun hS ⟨col, h⟩ => ⟨col, fun i c hi => c.mono (fun k hk => ⟨hS k hk.1, hk.2⟩) (h i c hi)⟩
  move := fun hm ⟨col, h⟩ => ⟨col, fun i c hi => c.mono (fun _ hk => ⟨⟨hk.1.1, hk.2⟩, hk.1.2⟩) (c.move (fun k hk hl => hm k hk.1 hl) (h i c hi))⟩
def exP {α : Type} (c : α → HP) : HP where
  holds := fun w T => ∃ a, (c a).holds w T
  mono := fun hS ⟨a, h⟩ => ⟨a, (c a).mono hS h⟩
  move := fun hm ⟨a, h⟩ => ⟨a, (c a).move hm h⟩
def pureP (p : Prop) : HP where
  holds := fun _ _ => p
  mono := fun _ h => h
  move := fun _ h => h

/-- Since w0: at most the blocks T have changed, and new ones came; now these parts lie, apart from one another, in T and in new blocks. -/
structure Inv (w0 : World) (T : Nat → Prop) (w : World) (cs : List HP) : Prop where
  chg : Chg T w0 w
  sep : ∃ col : Nat → Nat, ∀ (i : Nat) (c : HP), cs[i]? = some c → c.holds w (fun k => (T k ∨ w0.heap.size ≤ k) ∧ k < w.heap.size ∧ col k = i)

section
variable {w0 w w' : World} {T : Nat → Prop} {cs : List HP}
theorem Inv.start (h : (allP cs).holds w T) (hlt : ∀ k, T k → k < w.heap.size) : Inv w T w cs := by
  obtain ⟨col, h⟩ := h
  exact ⟨Chg.refl _ _, col, fun i c hi => c.mono (fun k hk => ⟨.inl hk.1, hlt k hk.1, hk.2⟩) (h i c hi)⟩
theorem Inv.start0 (w : World) : Inv w NoM w [] := ⟨Chg.refl _ _, fun _ => 0, fun i c hi => by simp at hi⟩
theorem Inv.finish (h : Inv w0 T w cs) : (allP cs).holds w (fun k => T k ∨ w0.heap.size ≤ k) := by
  obtain ⟨_, col, h⟩ := h
  exact ⟨col, fun i c hi => c.mono (fun k hk => ⟨hk.1, hk.2.2⟩) (h i c hi)⟩
/-- One part at hand; what becomes of it, put back. -/
theorem Inv.focus (h : Inv w0 T w cs) {i : Nat} {c : HP} (hi : cs[i]? = some c) :
    ∃ S : Nat → Prop, c.holds w S ∧ (∀ k, S k → k < w.heap.size) ∧ ∀ w' c', Chg S w w' → c'.holds w' (fun k => S k ∨ w.heap.size ≤ k) → Inv w0 T w' (cs.set i c') := by
  obtain ⟨hc, col, h⟩ := h
  refine ⟨_, h i c hi, fun k hk => hk.2.1, fun w' c' hch hc' => ⟨?_, fun k => if k < w.heap.size then col k else i, fun j x hj => ?_⟩⟩
  · exact hc.trans hch (fun _ => id) (fun k hk hS => by
      rcases hS.1 with hS | hS
      · exact hS
      · omega)
  · rw [List.getElem?_set] at hj
    split at hj
    · rename_i hij
      subst hij
      split at hj
      · injection hj with hj
        subst hj
        have := c'.move (w' := w') (fun _ _ _ => rfl) hc'
        refine c'.mono (fun k hk => ?_) this
        obtain ⟨hk, hlt⟩ := hk
        by_cases hks : k < w.heap.size
        · rcases hk with hk | hk
          · exact ⟨hk.1, hlt, by dsimp only; rw [if_pos hks]; exact hk.2.2⟩
          · omega
        · exact ⟨.inr (by have := hc.size; omega), hlt, by dsimp only; rw [if_neg hks]⟩
      · cases hj
    · rename_i hij
      have := x.move (w' := w') (fun k hk hl => hch.block k hl (fun hS => hij (hS.2.2.symm.trans hk.2.2))) (h j x hj)
      refine x.mono (fun k hk => ?_) this
      exact ⟨hk.1.1, Nat.lt_of_lt_of_le hk.2 hch.size, by dsimp only; rw [if_pos hk.2]; exact hk.1.2.2⟩
theorem Inv.get (h : Inv w0 T w cs) {i : Nat} {c : HP} (hi : cs[i]? = some c) : ∃ S : Nat → Prop, c.holds w S ∧ (∀ k, S k → k < w.heap.size) :=
  let ⟨S, h1, h2, _⟩ := h.focus hi; ⟨S, h1, h2⟩
/-- Nothing that was there has changed. -/
theorem Inv.below (h : Inv w0 T w cs) (hb : Below w.heap.size w w') : Inv w0 T w' cs := by
  obtain ⟨hc, col, h⟩ := h
  refine ⟨hc.trans (Chg.of_below hb NoM) (fun _ => id) (fun _ _ h => h.elim), col, fun i c hi => ?_⟩
  refine c.mono (fun k hk => ?_) (c.move (w' := w') (fun k _ hl => hb.block k hl) (h i c hi))
  exact ⟨hk.1.1, Nat.lt_of_lt_of_le hk.2 hb.size, hk.1.2.2⟩
/-- The same, and a new part. -/
theorem Inv.new (h : Inv w0 T w cs) (hb : Below w.heap.size w w') {c : HP} (hn : c.holds w' (fun k => w.heap.size ≤ k)) : Inv w0 T w' (cs ++ [c]) := by
  obtain ⟨hc, col, h⟩ := h
  refine ⟨hc.trans (Chg.of_below hb NoM) (fun _ => id) (fun _ _ h => h.elim), fun k => if k < w.heap.size then col k else cs.length, fun i x hi => ?_⟩
  rcases Nat.lt_or_ge i cs.length with hlt | hge
  · rw [List.getElem?_append_left hlt] at hi
    refine x.mono (fun k hk => ?_) (x.move (w' := w') (fun k _ hl => hb.block k hl) (h i x hi))
    exact ⟨hk.1.1, Nat.lt_of_lt_of_le hk.2 hb.size, by dsimp only; rw [if_pos hk.2]; exact hk.1.2.2⟩
  · rw [List.getElem?_append_right hge] at hi
    have h0 : i - cs.length = 0 := by
      rcases Nat.eq_zero_or_pos (i - cs.length) with h | h
      · exact h
      · rw [List.getElem?_eq_none (by simp; omega)] at hi
        cases hi
    rw [h0] at hi
    injection hi with hi
    subst hi
    have := c.move (w' := w') (fun _ _ _ => rfl) hn
    refine c.mono (fun k hk => ?_) this
    exact ⟨.inr (by have := hc.size; have := hk.1; omega), hk.2, by dsimp only; rw [if_neg (by have := hk.1; omega)]; omega⟩
/-- Nothing that was there has changed, and a new part stands ahead of the others. -/
theorem Inv.cons (h : Inv w0 T w cs) (hb : Below w.heap.size w w') {c : HP} (hn : c.holds w' (fun k => w.heap.size ≤ k)) : Inv w0 T w' (c :: cs) := by
  obtain ⟨hc, col, h⟩ := h
  refine ⟨hc.trans (Chg.of_below hb NoM) (fun _ => id) (fun _ _ h => h.elim), fun k => if k < w.heap.size then col k + 1 else 0, fun i x hi => ?_⟩
  cases i with
  | succ i =>
    refine x.mono (fun k hk => ?_) (x.move (w' := w') (fun k _ hl => hb.block k hl) (h i x hi))
    exact ⟨hk.1.1, Nat.lt_of_lt_of_le hk.2 hb.size, by dsimp only; rw [if_pos hk.2, hk.1.2.2]⟩
  | zero =>
    injection hi with hi
    subst hi
    refine c.mono (fun k hk => ?_) (c.move (w' := w') (fun _ _ _ => rfl) hn)
    exact ⟨.inr (by have := hc.size; have := hk.1; omega), hk.2, by dsimp only; rw [if_neg (by have := hk.1; omega)]⟩
theorem Inv.tail {c : HP} (h : Inv w0 T w (c :: cs)) : Inv w0 T w cs := by
  obtain ⟨hc, col, h⟩ := h
  refine ⟨hc, fun k => col k - 1, fun i x hi => x.mono (fun k hk => ⟨hk.1, hk.2.1, ?_⟩) (h (i + 1) x hi)⟩
  have := hk.2.2
  dsimp only; omega
/-- Parts that lie apart from one another, in F. -/
def sepH (w : World) (F : Nat → Prop) (cs : List HP) : Prop := ∃ col : Nat → Nat, ∀ (i : Nat) (c : HP), cs[i]? = some c → c.holds w (fun k => F k ∧ col k = i)
theorem sepH_cons {F : Nat → Prop} {c : HP} : sepH w F (c :: cs) ↔ ∃ S : Nat → Prop, c.holds w (fun k => F k ∧ S k) ∧ sepH w (fun k => F k ∧ ¬ S k) cs := by
  constructor
  · rintro ⟨col, h⟩
    refine ⟨fun k => col k = 0, h 0 c rfl, fun k => col k - 1, fun i x hi => x.mono (fun k hk => ?_) (h (i + 1) x hi)⟩
    exact ⟨⟨hk.1, by have := hk.2; omega⟩, by have := hk.2; dsimp only; omega⟩
  · rintro ⟨S, h0, col, h⟩
    refine ⟨fun k => open Classical in if S k then 0 else col k + 1, fun i x hi => ?_⟩
    cases i with
    | zero =>
      injection hi with hi
      subst hi
      exact c.mono (fun k hk => ⟨hk.1, by dsimp only; rw [if_pos hk.2]⟩) h0
    | succ i => exact x.mono (fun k hk => ⟨hk.1.1, by dsimp only; rw [if_neg hk.1.2, hk.2]⟩) (h i x hi)
theorem sepH_mono {F F' : Nat → Prop} (hF : ∀ k, F k → F' k) (h : sepH w F cs) : sepH w F' cs := by
  obtain ⟨col, h⟩ := h
  exact ⟨col, fun i x hi => x.mono (fun k hk => ⟨hF k hk.1, hk.2⟩) (h i x hi)⟩
theorem sepH_perm {cs cs' : List HP} (hp : cs.Perm cs') : ∀ {F : Nat → Prop}, sepH w F cs → sepH w F cs' := by
  induction hp with
  | nil => exact fun h => h
  | cons c _ ih =>
    intro F h
    obtain ⟨S, h0, h1⟩ := sepH_cons.1 h
    exact sepH_cons.2 ⟨S, h0, ih h1⟩
  | swap c c' l =>
    intro F h
    obtain ⟨S, h0, h1⟩ := sepH_cons.1 h
    obtain ⟨S', h2, h3⟩ := sepH_cons.1 h1
    refine sepH_cons.2 ⟨fun k => ¬ S k ∧ S' k, c.mono (fun k hk => ⟨hk.1.1, hk.1.2, hk.2⟩) h2, sepH_cons.2 ⟨S, c'.mono (fun k hk => ⟨⟨hk.1, fun h => h.1 hk.2⟩, hk.2⟩) h0, sepH_mono (fun k hk => ⟨⟨hk.1.1, fun h => hk.2 h.2⟩, hk.1.2⟩) h3⟩⟩
  | trans _ _ ih1 ih2 => exact fun h => ih2 (ih1 h)
/-- The parts' order is of no account. -/
theorem Inv.perm {cs' : List HP} (h : Inv w0 T w cs) (hp : cs.Perm cs') : Inv w0 T w cs' := by
  obtain ⟨hc, col, h⟩ := h
  have h1 : sepH w (fun k => (T k ∨ w0.heap.size ≤ k) ∧ k < w.heap.size) cs := ⟨col, fun i c hi => c.mono (fun k hk => ⟨⟨hk.1, hk.2.1⟩, hk.2.2⟩) (h i c hi)⟩
  obtain ⟨col', h2⟩ := sepH_perm hp h1
  exact ⟨hc, col', fun i c hi => c.mono (fun k hk => ⟨hk.1.1, hk.1.2, hk.2⟩) (h2 i c hi)⟩
/-- A part that needs no memory. -/
theorem Inv.free (h : Inv w0 T w cs) {c : HP} (hn : ∀ S, c.holds w S) : Inv w0 T w (c :: cs) := h.cons (Below.refl _ _) (hn _)
/-- What a call made for itself, put ahead of what there was. -/
theorem Inv.join {new : List HP} (h : Inv w0 T w cs) (hn : Inv w NoM w' new) : Inv w0 T w' (new ++ cs) := by
  obtain ⟨hc, col, h⟩ := h
  obtain ⟨hc', col', h'⟩ := hn
  refine ⟨hc.trans hc' (fun _ => id) (fun _ _ h => h.elim), fun k => if k < w.heap.size then col k + new.length else col' k, fun i x hi => ?_⟩
  rcases Nat.lt_or_ge i new.length with hlt | hge
  · rw [List.getElem?_append_left hlt] at hi
    refine x.mono (fun k hk => ?_) (h' i x hi)
    have h1 : w.heap.size ≤ k := hk.1.resolve_left id
    exact ⟨.inr (Nat.le_trans hc.size h1), hk.2.1, by dsimp only; rw [if_neg (by omega)]; exact hk.2.2⟩
  · rw [List.getElem?_append_right hge] at hi
    refine x.mono (fun k hk => ?_) (x.move (w' := w') (fun k _ hl => hc'.block k hl id) (h _ x hi))
    exact ⟨hk.1.1, Nat.lt_of_lt_of_le hk.2 hc'.size, by dsimp only; rw [if_pos hk.2, hk.1.2.2]; omega⟩
/-- Some parts forgotten. -/
theorem Inv.init {more : List HP} (h : Inv w0 T w (cs ++ more)) : Inv w0 T w cs := by
  obtain ⟨hc, col, h⟩ := h
  exact ⟨hc, col, fun i x hi => h i x (by rw [List.getElem?_append_left (List.getElem?_eq_some_iff.1 hi).1]; exact hi)⟩
theorem Inv.belowOf (h : Inv w0 NoM w cs) : Below w0.heap.size w0 w := h.chg.below
/-- A new block whose cells are known, ahead of the others. -/
theorem Inv.boxc (h : Inv w0 T w cs) (t : TypeId) (vs : List Value) : Inv w0 T (w.alloc (.cells vs.toArray t)) (blkP w.heap.size t vs :: cs) :=
  h.cons ((Below.refl _ w).alloc (Nat.le_refl _) _) ⟨heap_alloc_new w _, Nat.le_refl _⟩
/-- Draws aside, one world. -/
theorem Inv.same (h : Inv w0 T w cs) (hh : w'.heap = w.heap) (h1 : w'.os = w.os) (h2 : w'.tape = w.tape) (h3 : w'.output = w.output) : Inv w0 T w' cs :=
  h.below ⟨h1, h2, h3, by rw [hh]; exact Nat.le_refl _, fun k _ => by rw [hh]⟩
theorem Inv.alloc (h : Inv w0 T w cs) (o : Obj) : Inv w0 T (w.alloc o) cs := h.below ((Below.refl _ w).alloc (Nat.le_refl _) o)
theorem Inv.drew (h : Inv w0 T w cs) : Inv w0 T w.drew cs := h.below (Below.refl _ w).drew
theorem Inv.drewN (h : Inv w0 T w cs) (n : Nat) : Inv w0 T (w.drewN n) cs := h.below ⟨rfl, rfl, rfl, Nat.le_refl _, fun _ _ => rfl⟩
/-- A new block whose cells are known. -/
theorem Inv.box (h : Inv w0 T w cs) (t : TypeId) (vs : List Value) : Inv w0 T (w.alloc (.cells vs.toArray t)) (cs ++ [blkP w.heap.size t vs]) :=
  h.new ((Below.refl _ w).alloc (Nat.le_refl _) _) ⟨heap_alloc_new w _, Nat.le_refl _⟩
/-- A store into a block whose cells are known. -/
theorem Inv.set (h : Inv w0 T w cs) {i b : Nat} {t : TypeId} {vs : List Value} (hi : cs[i]? = some (blkP b t vs)) (j : Nat) (u : Value) : Inv w0 T (w.setCell ⟨b, j, none⟩ u) (cs.set i (blkP b t (vs.set j u))) := by
  obtain ⟨S, hS, hlt, back⟩ := h.focus hi
  refine back _ _ ((Chg.refl S w).setCell _ u (fun _ => hS.2)) ⟨?_, .inl hS.2⟩
  have hb := heap_lt hS.1
  have h1 := hS.1
  simp only [World.setCell]
  rw [Array.getElem?_modify, if_pos rfl, h1]
  simp
theorem Inv.cell (h : Inv w0 T w cs) {i b : Nat} {t : TypeId} {vs : List Value} (hi : cs[i]? = some (blkP b t vs)) (j : Nat) {v : Value} (hj : vs[j]? = some v) : w.cell? ⟨b, j, none⟩ = some v ∧ w.frozen? ⟨b, j, none⟩ = false := by
  obtain ⟨S, hS, _⟩ := h.get hi
  exact ⟨by simp [World.cell?, hS.1, hj], by simp [World.frozen?, hS.1]⟩
end

/-- A contract that only draws, met within a region that only reads. -/
theorem quiet0 {P : Program} {f : FuncId} {args : Array Value} {w : World} {n : Nat} {v : Value}
    (h : Calls P f args (w.drewN n) fun e w' => e = .returned v ∧ ∃ m, w' = (w.drewN n).drewN m) :
    Calls P f args (w.drewN n) fun e w'' => e = .returned v ∧ ∃ m, w'' = w.drewN m :=
  h.mono fun _ _ ⟨he, m, hm⟩ => ⟨he, n + m, by rw [hm, World.drewN_drewN]⟩
theorem quiet1 {P : Program} {f : FuncId} {args : Array Value} {w : World} {a n : Nat} {v : Value}
    (h : Calls P f args (w.drewN (a + n)) fun e w' => e = .returned v ∧ ∃ m, w' = (w.drewN (a + n)).drewN m) :
    Calls P f args (w.drewN (a + n)) fun e w'' => e = .returned v ∧ ∃ m, w'' = w.drewN (a + m) :=
  h.mono fun _ _ ⟨he, m, hm⟩ => ⟨he, n + m, by rw [hm, World.drewN_drewN, Nat.add_assoc]⟩
end Go.Proofs.Ytcglokippflioaa.YLib
