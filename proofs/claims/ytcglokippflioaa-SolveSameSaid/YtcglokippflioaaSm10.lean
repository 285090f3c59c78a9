/- Texts of the claim, in one: Open. -/
import Derived.ChangeStays
import Derived.ChangeBears
import Derived.Deep.Slices
import Derived.Test.YtcglokippflioaaSm3
import Derived.Test.YtcglokippflioaaSm9

/-! The arguments of a law: opened, and shut again where nothing that was there has turned. -/
namespace Go.Proofs.Ytcglokippflioaa.YLib
open Go Go.RowKit Go.WideShapes Go.ChangeShapes Go.Deep
section
variable {H : Type} {enc : TypeId × Value → H} {P : Program} {W W' : World}
theorem sameAt_below (hb : Below W.heap.size W W') {p : MemPlace} (hp : p.block < W.heap.size) : W.sameAt W' p := by
  cases p with
  | cell b off => exact World.cell?_of_block (hb.block b hp)
  | map b => exact hb.block b hp
/-- What was read reads as it did. -/
theorem trodAll_stays {T : TypeId → Prop} (K : Kids P T) (hsz : ∀ {t e : TypeId}, T t → P.underlying t = some (.slice e) → 0 < P.cellsOf e) (hb : Below W.heap.size W W') {sp : Nat → Bool} :
    ∀ {ts : List TypeId} {vs : List Value} {ds : List (DataW H)} {ps : List MemPlace}, DataW.TrodAll enc P W 0 (fun _ => true) true ts vs ds ps → (∀ t ∈ ts, T t) → (∀ p ∈ ps, p.block < W.heap.size) → (∀ p ∈ ps, sp p.block = true) → DataW.TrodAll enc P W' 0 sp true ts vs ds ps
  | [], [], [], _, h, _, _, _ => h
  | t :: ts, v :: vs, d :: ds, _, ⟨p, q, ⟨n, hp⟩, hq, e⟩, hT, hl, hs => by
    subst e
    refine ⟨p, q, ⟨n, ?_⟩, trodAll_stays K hsz hb hq (fun t ht => hT t (List.mem_cons_of_mem _ ht)) (fun x hx => hl x (List.mem_append_right _ hx)) (fun x hx => hs x (List.mem_append_right _ hx)), rfl⟩
    exact DataW.trod_stays K hsz (fun h => by cases h) (hT t (List.mem_cons_self ..)) hp (fun x hx => sameAt_below hb (hl x (List.mem_append_left _ hx))) (fun x hx => hs x (List.mem_append_left _ hx))
  | [], _ :: _, _, _, h, _, _, _ => (by simp [DataW.TrodAll] at h)
  | [], [], _ :: _, _, h, _, _, _ => (by simp [DataW.TrodAll] at h)
  | _ :: _, [], _, _, h, _, _, _ => (by simp [DataW.TrodAll] at h)
  | _ :: _, _ :: _, [], _, h, _, _, _ => (by simp [DataW.TrodAll] at h)
/-- An integer's cell. -/
theorem trod_int {k : IntKind} {t : TypeId} {spare : Nat → Bool} {held : Bool} {fuel : Nat} {cs : List Value} {x : DataW H × List MemPlace} (ht : P.underlying t = some (.int k)) (h : DataW.trod enc P W 0 spare held fuel t cs = some x) : ∃ a, cs = [.int k a] ∧ (Lit.int k a).wf = true := by
  cases fuel with
  | zero => simp [DataW.trod] at h
  | succ n =>
    unfold DataW.trod at h
    rw [ht] at h
    split at h <;> simp_all
/-- A slice's row. -/
theorem open_row {α : Type} [Inhabited α] {d : Kind α} {Bd : α → Prop} {t e : TypeId} {spare : Nat → Bool} {held : Bool} {fuel : Nat} {cs : List Value} {x : DataW H × List MemPlace} (ht : P.underlying t = some (.slice e)) (hz : P.cellsOf e = d.sz) (hz0 : 0 < d.sz)
    (hel : ∀ n c y, DataW.trod enc P W 0 spare held n e c = some y → ∃ a, d.rd W (fun _ => True) c a ∧ Bd a) (h : DataW.trod enc P W 0 spare held fuel t cs = some x) :
    ∃ A c xs, cs = [.slice A xs.length c] ∧ xs.length ≤ c ∧ c ≤ 9223372036854775807 ∧ RowAt d W (fun _ => True) A xs ∧ ∀ a ∈ xs, Bd a := by
  rcases open_slice ht h with ⟨rfl, _⟩ | ⟨a, len, cap, m, n, D, Pl, rfl, _, hl, hm, hmm, _, hx⟩
  · exact ⟨none, 0, [], rfl, Nat.le_refl _, by omega, .inl rfl, fun a h => by cases h⟩
  have hml : len ≤ m := by rw [hmm]; split <;> omega
  obtain ⟨f, hf⟩ := choose_lt (α := α) (n := len) (p := fun i y => Bd y ∧ ∃ c, d.rd W (fun _ => True) c y ∧ W.cells? 0 (a.add (i * P.cellsOf e)) (P.cellsOf e) = some c) (fun i hi => by
    obtain ⟨c, h1, h2⟩ := hx i (by omega)
    obtain ⟨y, h3, h4⟩ := hel n c _ h2
    exact ⟨y, h4, c, h3, h1⟩)
  have hlen : ((List.range len).map f).length = len := by simp
  refine ⟨some a, cap, (List.range len).map f, by rw [hlen], by rw [hlen]; exact hl, by unfold maxLen at hm; omega, ?_, fun y hy => ?_⟩
  · rcases Nat.eq_zero_or_pos len with h0 | h0
    · subst h0
      exact .inl rfl
    · have hcell : ∀ i, i < len → ∃ c, d.rd W (fun _ => True) c (f i) ∧ ∀ j u, c[j]? = some u → W.cell? ((a.add (i * d.sz)).add j) = some u := fun i hi => by
        obtain ⟨_, c, h1, h2⟩ := hf i hi
        obtain ⟨_, h3, h4⟩ := World.cells?_some h2
        rw [hz] at h2 h3 h4
        exact ⟨c, h1, fun j u hu => by rw [h4 j (by have := (List.getElem?_eq_some_iff.1 hu).1; omega)]; exact hu⟩
      have hspot : a.spot = none ∧ a.block < W.heap.size := by
        obtain ⟨c, h1, h2⟩ := hcell 0 h0
        have hcl := d.len h1
        have h3 := h2 0 (c[0]'(by omega)) (List.getElem?_eq_getElem (by omega))
        rw [Nat.zero_mul, show (a.add 0).add 0 = a from by simp [Addr.add]] at h3
        unfold World.cell? at h3
        split at h3
        · rename_i h4
          have hb := (Array.getElem?_eq_some_iff.1 h4).1
          split at h3
          · cases h3
          · rename_i hs
            exact ⟨by simpa using hs, hb⟩
        · cases h3
      obtain ⟨b, o, s⟩ := a
      obtain ⟨hs, hb⟩ := hspot
      have hs : s = none := hs
      subst hs
      refine .inr ⟨b, o, rfl, trivial, hb, fun i hi => ?_⟩
      rw [hlen] at hi
      obtain ⟨c, h1, h2⟩ := hcell i hi
      refine ⟨c, by simpa using h1, fun j u hu => ?_⟩
      have := h2 j u hu
      rw [add_addr', add_addr'] at this
      exact this
  · obtain ⟨i, hi, rfl⟩ := List.mem_map.1 hy
    exact (hf i (List.mem_range.1 hi)).1
end
end Go.Proofs.Ytcglokippflioaa.YLib
