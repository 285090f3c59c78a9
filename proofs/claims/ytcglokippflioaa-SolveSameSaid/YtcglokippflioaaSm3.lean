/- Texts of the claim, in one: Lib2. -/
import Derived.Deep.RegionLaw
import Derived.Laws.MakeOwn
import Derived.Laws.OwnMore
import Derived.Test.YtcglokippflioaaSm2

/-! Owned rows: read, written, appended to, within the parts. -/
namespace Go.Proofs.Ytcglokippflioaa.YLib
open Go Go.RowKit

theorem add_addr (g j : Nat) : (⟨g, 0, none⟩ : Addr).add j = ⟨g, j, none⟩ := by unfold Addr.add; split <;> simp_all
theorem add_addr' (g o j : Nat) : (⟨g, o, none⟩ : Addr).add j = ⟨g, o + j, none⟩ := by unfold Addr.add; split <;> simp_all

section
variable {α : Type} {d : Kind α}
theorem Reps.len {w : World} {S : Nat → Prop} : ∀ {xs : List α} {cs : List Value}, Reps (d.rd w S) cs xs → cs.length = xs.length * d.sz
  | [], _, h => by rw [show _ = [] from h]; simp
  | _ :: _, _, ⟨c0, c1, e, h0, h1⟩ => by rw [e, List.length_append, d.len h0, Reps.len h1, List.length_cons, Nat.add_mul, Nat.one_mul, Nat.add_comm]
theorem Reps.one' {w : World} {S : Nat → Prop} : ∀ {xs : List α} {cs : List Value}, Reps (d.rd w S) cs xs → ∀ u ∈ cs, u.oneCell' = true
  | [], _, h, u, hu => by rw [show _ = [] from h] at hu; cases hu
  | _ :: _, _, ⟨c0, c1, e, h0, h1⟩, u, hu => by
    rw [e] at hu
    rcases List.mem_append.1 hu with hu | hu
    · exact d.one h0 u hu
    · exact Reps.one' h1 u hu
/-- The i-th element's cells. -/
theorem Reps.get {w : World} {S : Nat → Prop} : ∀ {xs : List α} {cs : List Value}, Reps (d.rd w S) cs xs → ∀ i (h : i < xs.length), ∃ c, d.rd w S c xs[i] ∧ ∀ j u, c[j]? = some u → cs[i * d.sz + j]? = some u
  | [], _, _, i, h => by simp at h
  | x :: xs, cs, ⟨c0, c1, e, h0, h1⟩, i, h => by
    cases i with
    | zero => exact ⟨c0, h0, fun j u hu => by rw [e, Nat.zero_mul, Nat.zero_add, List.getElem?_append_left (by exact (List.getElem?_eq_some_iff.1 hu).1)]; exact hu⟩
    | succ i =>
      obtain ⟨c, h2, h3⟩ := Reps.get h1 i (by simpa using h)
      refine ⟨c, h2, fun j u hu => ?_⟩
      rw [e, List.getElem?_append_right (by rw [d.len h0, Nat.add_mul]; omega), d.len h0, show (i + 1) * d.sz + j - d.sz = i * d.sz + j by rw [Nat.add_mul]; omega]
      exact h3 j u hu
theorem Owned.reads {e : TypeId} {w : World} {S : Nat → Prop} {v : Value} {xs : List α} (h : Owned d e w S v xs) : ∃ A c, v = .slice A xs.length c ∧ xs.length ≤ c ∧ RowAt d w S A xs := by
  obtain ⟨inner, h0, h1, h2⟩ := h
  rcases h0.2 with ⟨rfl, hn⟩ | ⟨g, cap, cur, rfl, hb, hg, hnc, hcm, hcs, htake⟩
  · have : xs = [] := List.eq_nil_of_length_eq_zero hn
    subst this
    exact ⟨none, 0, rfl, Nat.le_refl _, .inl rfl⟩
  · refine ⟨_, cap, rfl, hnc, .inr ⟨g, 0, rfl, h1 g rfl, heap_lt hg, fun i hi => ?_⟩⟩
    obtain ⟨c, h3, h4⟩ := Reps.get h2 i hi
    refine ⟨c, d.mono (fun k hk => hk.1) h3, fun j u hu => ?_⟩
    have := h0.cells (g := g) rfl _ _ (h4 j u hu)
    rw [add_addr] at this
    rw [Nat.zero_add]; exact this

/-- append onto an owned row. -/
theorem Owned.append {P : Program} {w : World} {S S2 : Nat → Prop} {v : Value} {xs ys : List α} (t ty : TypeId) {e : TypeId} {z : Value} {bytes : Nat} (ht : P.underlying t = some (.slice e))
    (hinfo : (P.info? e).map (fun i => (i.zero, i.size, i.bytes)) = some (some z, d.sz, bytes)) (hzs : z.cells.size = d.sz) (hsz : 0 < d.sz) (h : Owned d e w S v xs)
    (ad : Addr) (m c : Nat) (news : List Value) (hl : ys.length = m) (hnews : ∀ j u, news[j]? = some u → w.cell? (ad.add j) = some u) (hrep : Reps (d.rd w S2) news ys)
    (hdis : ∀ k, S2 k → ¬ S k) (hm : 0 < m) (h63 : xs.length + m ≤ 9223372036854775807) (hbytes : (xs.length + m) * bytes ≤ 140737488355328) :
    ∃ g cap w1, (Builtin.append_ #[t, t] ty #[v, .slice (some ad) m c]).run P w = .ok (.slice (some ⟨g, 0, none⟩) (xs.length + m) cap) w1 ∧ Chg S w w1 ∧
      Owned d e w1 (fun k => (S k ∨ S2 k) ∨ w.heap.size ≤ k) (.slice (some ⟨g, 0, none⟩) (xs.length + m) cap) (xs ++ ys) := by
  obtain ⟨inner, h0, h1, h2⟩ := h
  obtain ⟨i0, hi, hzz⟩ := Option.map_eq_some_iff.1 hinfo
  simp only [Prod.mk.injEq] at hzz
  obtain ⟨hz0, hz1, hz2⟩ := hzz
  obtain ⟨g, cap, w1, hr, hown, hgrow, hat, hg1⟩ := run_append_lies (P := P) w t ty 0 e i0 z d.sz bytes ht hi hz0 hz1 hz2 hzs hsz v xs.length inner h0 ad m c news (by rw [hrep.len, hl]) hnews hrep.one' hm
    (by unfold maxLen; omega) hbytes (Nat.zero_le _) w.heap.size rfl
  have hch : Chg S w w1 := (Chg.refl S w).grown hgrow (fun k hk _ => h1 k hk)
  refine ⟨g, cap, w1, hr, hch, inner ++ news, ?_, ?_, ?_⟩
  · rw [List.length_append, hl]; exact hown
  · intro k hk
    have hk : g = k := by simpa [Value.ownBlock] using hk
    subst hk
    rcases hat with hat | hat
    · exact .inl (.inl (h1 _ hat))
    · exact .inr (by omega)
  · refine Reps.append (h2.imp fun c x hr => ?_) (hrep.imp fun c x hr => ?_)
    · refine d.mono (fun k hk => ?_) (d.move (w' := w1) (fun k hk hlt => hgrow.block k hlt (fun e => hk.2 e.symm)) hr)
      obtain ⟨⟨hk1, hk2⟩, hk3⟩ := hk
      refine ⟨.inl (.inl hk1), fun e => ?_⟩
      have e : g = k := by simpa [Value.ownBlock] using e
      subst e
      rcases hat with hat | hat
      · exact hk2 hat
      · omega
    · refine d.mono (fun k hk => ?_) (d.move (w' := w1) (fun k hk hlt => hch.block k hlt (hdis k hk)) hr)
      obtain ⟨hk1, hk2⟩ := hk
      refine ⟨.inl (.inr hk1), fun e => ?_⟩
      have e : g = k := by simpa [Value.ownBlock] using e
      subst e
      rcases hat with hat | hat
      · exact hdis _ hk1 (h1 _ hat)
      · omega
end

section
variable {w0 w w' : World} {T : Nat → Prop} {cs : List HP}
/-- Two parts at hand: the second goes into the first. -/
theorem Inv.focus2 (h : Inv w0 T w cs) {i j : Nat} {c c2 : HP} (hi : cs[i]? = some c) (hj : cs[j]? = some c2) (hne : i ≠ j) :
    ∃ S S2 : Nat → Prop, c.holds w S ∧ c2.holds w S2 ∧ (∀ k, S k → k < w.heap.size) ∧ (∀ k, S2 k → k < w.heap.size) ∧ (∀ k, S2 k → ¬ S k) ∧
      ∀ w' c', Chg S w w' → c'.holds w' (fun k => (S k ∨ S2 k) ∨ w.heap.size ≤ k) → Inv w0 T w' ((cs.set i c').set j (pureP True)) := by
  obtain ⟨hc, col, h⟩ := h
  refine ⟨_, _, h i c hi, h j c2 hj, fun k hk => hk.2.1, fun k hk => hk.2.1, fun k hk hk' => hne (hk'.2.2.symm.trans hk.2.2), fun w' c' hch hc' => ⟨?_, fun k => if k < w.heap.size then (if col k = j then i else col k) else i, fun l x hl => ?_⟩⟩
  · exact hc.trans hch (fun _ => id) (fun k hk hS => by
      rcases hS.1 with hS | hS
      · exact hS
      · omega)
  · rw [List.getElem?_set] at hl
    split at hl
    · split at hl
      · injection hl with hl
        subst hl
        exact trivial
      · cases hl
    · rename_i hjl
      rw [List.getElem?_set] at hl
      split at hl
      · rename_i hil
        subst hil
        split at hl
        · injection hl with hl
          subst hl
          have := c'.move (w' := w') (fun _ _ _ => rfl) hc'
          refine c'.mono (fun k hk => ?_) this
          obtain ⟨hk, hlt⟩ := hk
          by_cases hks : k < w.heap.size
          · rcases hk with (hk | hk) | hk
            · exact ⟨hk.1, hlt, by dsimp only; rw [if_pos hks, if_neg (fun e => hne (hk.2.2.symm.trans e))]; exact hk.2.2⟩
            · exact ⟨hk.1, hlt, by dsimp only; rw [if_pos hks, if_pos hk.2.2]⟩
            · omega
          · exact ⟨.inr (by have := hc.size; omega), hlt, by dsimp only; rw [if_neg hks]⟩
        · cases hl
      · rename_i hil
        have := x.move (w' := w') (fun k hk hl => hch.block k hl (fun hS => hil (hS.2.2.symm.trans hk.2.2))) (h l x hl)
        refine x.mono (fun k hk => ?_) this
        exact ⟨hk.1.1, Nat.lt_of_lt_of_le hk.2 hch.size, by dsimp only; rw [if_pos hk.2, if_neg (fun e => hjl (e.symm.trans hk.1.2.2))]; exact hk.1.2.2⟩
end

section
variable {P : Program} {ops : Array Oper} {rest : List Oper} {o : Oper} {a : Act} {Q : Exit → Act → World → Prop} {w0 w : World} {T : Nat → Prop} {cs : List HP} {α : Type} {d : Kind α}
/-- append(v, ..): elements that hold no memory. -/
theorem wp_append_inv {K : Act → World → Prop} (s x : Operand) (t : TypeId) (ho : o.op = .call { callee := .builtin .append, args := #[s, x], argTypes := #[t, t] })
    {e : TypeId} {z : Value} {bytes : Nat} (ht : P.underlying t = some (.slice e)) (hinfo : (P.info? e).map (fun i => (i.zero, i.size, i.bytes)) = some (some z, d.sz, bytes)) (hzs : z.cells.size = d.sz) (hsz : 0 < d.sz)
    (i : Nat) (v : Value) (xs ys : List α) (h : Inv w0 T w cs) (hi : cs[i]? = some (rowP d e v xs)) (hs : a.eval s = v) (ad : Addr) (m c : Nat) (hx : a.eval x = .slice (some ad) m c)
    (news : List Value) (hl : ys.length = m) (hnews : ∀ j u, news[j]? = some u → w.cell? (ad.add j) = some u) (hrep : Reps (d.rd w NoM) news ys)
    (hm : 0 < m) (h63 : xs.length + m ≤ 9223372036854775807) (hbytes : (xs.length + m) * bytes ≤ 140737488355328)
    (hK : ∀ g cap w1, Inv w0 T w1 (cs.set i (rowP d e (.slice (some ⟨g, 0, none⟩) (xs.length + m) cap) (xs ++ ys))) → K (a.put o.dst (.slice (some ⟨g, 0, none⟩) (xs.length + m) cap)) w1) : o.wp P a w K Q := by
  obtain ⟨S, hS, hlt, back⟩ := h.focus hi
  obtain ⟨g, cap, w1, hr, hch, hown⟩ := Owned.append (S2 := NoM) t o.type ht hinfo hzs hsz hS ad m c news hl hnews hrep (fun _ h => h.elim) hm h63 hbytes
  unfold Oper.wp execOp
  simp only [ho, resolve, invoke, builtin, Sem.run_bind, Sem.run_pure, Result.andThen_ok, List.map_toArray, List.map_cons, List.map_nil, hs, hx, hr]
  exact hK g cap w1 (back _ _ hch ((rowP d e _ _).mono (fun k hk => hk.imp (fun h => h.resolve_right id) id) hown))
/-- append(v, ..): elements that bring another part with them. -/
theorem wp_append_inv2 {K : Act → World → Prop} (s x : Operand) (t : TypeId) (ho : o.op = .call { callee := .builtin .append, args := #[s, x], argTypes := #[t, t] })
    {e : TypeId} {z : Value} {bytes : Nat} (ht : P.underlying t = some (.slice e)) (hinfo : (P.info? e).map (fun i => (i.zero, i.size, i.bytes)) = some (some z, d.sz, bytes)) (hzs : z.cells.size = d.sz) (hsz : 0 < d.sz)
    (i j : Nat) (hne : i ≠ j) (v : Value) (xs ys : List α) (c2 : HP) (h : Inv w0 T w cs) (hi : cs[i]? = some (rowP d e v xs)) (hj : cs[j]? = some c2) (hs : a.eval s = v) (ad : Addr) (m c : Nat) (hx : a.eval x = .slice (some ad) m c)
    (news : List Value) (hl : ys.length = m) (hnews : ∀ j u, news[j]? = some u → w.cell? (ad.add j) = some u) (hrep : ∀ S2, c2.holds w S2 → Reps (d.rd w S2) news ys)
    (hm : 0 < m) (h63 : xs.length + m ≤ 9223372036854775807) (hbytes : (xs.length + m) * bytes ≤ 140737488355328)
    (hK : ∀ g cap w1, Inv w0 T w1 ((cs.set i (rowP d e (.slice (some ⟨g, 0, none⟩) (xs.length + m) cap) (xs ++ ys))).set j (pureP True)) → K (a.put o.dst (.slice (some ⟨g, 0, none⟩) (xs.length + m) cap)) w1) : o.wp P a w K Q := by
  obtain ⟨S, S2, hS, hS2, hlt, hlt2, hdis, back⟩ := h.focus2 hi hj hne
  obtain ⟨g, cap, w1, hr, hch, hown⟩ := Owned.append (S2 := S2) t o.type ht hinfo hzs hsz hS ad m c news hl hnews (hrep S2 hS2) hdis hm h63 hbytes
  unfold Oper.wp execOp
  simp only [ho, resolve, invoke, builtin, Sem.run_bind, Sem.run_pure, Result.andThen_ok, List.map_toArray, List.map_cons, List.map_nil, hs, hx, hr]
  exact hK g cap w1 (back _ (rowP d e _ _) hch hown)
theorem wpList_of_wp (hgd : o.guard = none) (h : ∀ K : Act → World → Prop, (∀ a w, wpList P ops Q rest a w → K a w) → o.wp P a w K Q) : wpList P ops Q (o :: rest) a w := wpList_plain hgd h
theorem step_of_wp {K : Act → World → Prop} {E : Prop} (hgd : o.guard = none) (h : o.wp P a w K Q) : if Region.wanted o (yielded ops a.tmps) = true then o.wp P a w K Q else E := by
  have hw : Region.wanted o (yielded ops a.tmps) = true := by simp [Region.wanted, hgd]
  rw [if_pos hw]; exact h
/-- A store into an owned row of elements of one cell. -/
theorem Inv.setRow {enc : α → Value} {h1 : ∀ x, (enc x).oneCell' = true} {e : TypeId} {g n cap : Nat} {xs : List α} {i : Nat} (h : Inv w0 T w cs) (hi : cs[i]? = some (rowP (Kind.ofEnc enc h1) e (.slice (some ⟨g, 0, none⟩) n cap) xs)) (j : Nat) (y : α) :
    Inv w0 T (w.setCell ⟨g, j, none⟩ (enc y)) (cs.set i (rowP (Kind.ofEnc enc h1) e (.slice (some ⟨g, 0, none⟩) n cap) (xs.set j y))) := by
  obtain ⟨S, hS, hlt, back⟩ := h.focus hi
  obtain ⟨inner, h0, h2, h3⟩ := hS
  have hinner : ∀ {xs : List α} {cs : List Value}, Reps ((Kind.ofEnc enc h1).rd w (fun k => S k ∧ (Value.slice (some ⟨g, 0, none⟩) n cap).ownBlock ≠ some k)) cs xs → cs = xs.map enc := by
    intro xs
    induction xs with
    | nil => intro cs h; exact h
    | cons x xs ih => rintro cs ⟨c0, c1, e, h0, h1⟩; rw [e, ih h1, show c0 = [enc x] from h0]; rfl
  have hback : ∀ {w' : World} {S' : Nat → Prop} (xs : List α), Reps ((Kind.ofEnc enc h1).rd w' S') (xs.map enc) xs := by
    intro w' S' xs
    induction xs with
    | nil => rfl
    | cons x xs ih => exact ⟨[enc x], xs.map enc, rfl, rfl, ih⟩
  have hin := hinner h3
  subst hin
  refine back _ (rowP _ e _ _) ((Chg.refl S w).setCell _ _ (fun _ => h2 g rfl)) ⟨(xs.set j y).map enc, ?_, fun k hk => .inl (h2 k hk), hback _⟩
  refine ⟨by simp; have := h0.1; simpa using this, ?_⟩
  rcases h0.2 with ⟨h4, _⟩ | ⟨g', cap', cur, h4, hb, hg, hn, hm, hcs, htake⟩
  · cases h4
  · injection h4 with h4 h5 h6
    injection h4 with h4
    injection h4 with h4
    subst h4 h6
    refine .inr ⟨g, cap, cur.setIfInBounds j (enc y), by rw [List.length_set, h5], hb, ?_, by rw [List.length_set]; exact hn, hm, by simpa using hcs, ?_⟩
    · simp only [World.setCell]
      rw [Array.getElem?_modify, if_pos rfl, hg]
      simp
    · rw [Array.toList_setIfInBounds, List.take_set, List.length_set, htake, List.map_set]
/-- A cell of an owned row of elements of one cell. -/
theorem Inv.cellRow {enc : α → Value} {h1 : ∀ x, (enc x).oneCell' = true} {e : TypeId} {g n cap : Nat} {xs : List α} {i : Nat} (h : Inv w0 T w cs) (hi : cs[i]? = some (rowP (Kind.ofEnc enc h1) e (.slice (some ⟨g, 0, none⟩) n cap) xs)) (j : Nat) (hj : j < xs.length) :
    w.cell? ⟨g, j, none⟩ = some (enc xs[j]) ∧ w.frozen? ⟨g, j, none⟩ = false := by
  obtain ⟨S, hS, _⟩ := h.get hi
  constructor
  · obtain ⟨A, c, hv, _, hr⟩ := Owned.reads hS
    injection hv with hv
    subst hv
    rcases hr with rfl | ⟨b, o, hA, _, _, hr⟩
    · simp at hj
    · injection hA with hA
      injection hA with hA hA2
      subst hA hA2
      obtain ⟨cs, hcs, hc⟩ := hr j hj
      have hcs : cs = [enc xs[j]] := hcs
      have := hc 0 (enc xs[j]) (by rw [hcs]; rfl)
      have hsz : (Kind.ofEnc enc h1).sz = 1 := rfl
      rwa [hsz, Nat.mul_one, Nat.zero_add, Nat.add_zero] at this
  · obtain ⟨inner, h0, _⟩ := hS
    rcases h0.2 with ⟨h4, _⟩ | ⟨g', cap', cur, h4, hb, hg, _⟩
    · cases h4
    · injection h4 with h4
      injection h4 with h4
      injection h4 with h4
      subst h4
      simp [World.frozen?, hg]
theorem Inv.cellRowE {enc : α → Value} {h1 : ∀ x, (enc x).oneCell' = true} {e : TypeId} {g n cap : Nat} {xs : List α} {i : Nat} (h : Inv w0 T w cs) (hi : cs[i]? = some (rowP (Kind.ofEnc enc h1) e (.slice (some ⟨g, 0, none⟩) n cap) xs)) (j : Nat) (hj : j < xs.length) :
    ∃ y, xs[j]? = some y ∧ w.cell? ⟨g, j, none⟩ = some (enc y) ∧ w.frozen? ⟨g, j, none⟩ = false :=
  ⟨xs[j], List.getElem?_eq_getElem hj, h.cellRow hi j hj⟩
/-- Two owned rows are two. -/
theorem Inv.ne2 {β : Type} {d' : Kind β} {i j : Nat} {e e' : TypeId} {g n cap g' n' cap' : Nat} {xs : List α} {ys : List β} (h : Inv w0 T w cs) (hi : cs[i]? = some (rowP d e (.slice (some ⟨g, 0, none⟩) n cap) xs)) (hj : cs[j]? = some (rowP d' e' (.slice (some ⟨g', 0, none⟩) n' cap') ys)) (hne : i ≠ j) : g ≠ g' := by
  obtain ⟨S, S2, hS, hS2, _, _, hdis, _⟩ := h.focus2 hi hj hne
  intro e
  subst e
  obtain ⟨inner, h0, h1, h2⟩ := hS2
  obtain ⟨inner', h0', h1', h2'⟩ := hS
  exact hdis g (h1 g rfl) (h1' g rfl)
/-- A block and an owned row are two. -/
theorem Inv.ne {i j : Nat} {b : Nat} {t : TypeId} {vs : List Value} {e : TypeId} {g n cap : Nat} {xs : List α} (h : Inv w0 T w cs) (hi : cs[i]? = some (blkP b t vs)) (hj : cs[j]? = some (rowP d e (.slice (some ⟨g, 0, none⟩) n cap) xs)) (hne : i ≠ j) : b ≠ g := by
  obtain ⟨S, S2, hS, hS2, _, _, hdis, _⟩ := h.focus2 hi hj hne
  intro e
  subst e
  obtain ⟨inner, h0, h1, h2⟩ := hS2
  exact hdis b (h1 b rfl) hS.2
/-- What a value looks like that owns at least one element. -/
theorem Inv.rowForm {e : TypeId} {v : Value} {xs : List α} {i : Nat} (h : Inv w0 T w cs) (hi : cs[i]? = some (rowP d e v xs)) (hp : 0 < xs.length) : ∃ g cap, v = .slice (some ⟨g, 0, none⟩) xs.length cap ∧ xs.length ≤ 9223372036854775807 := by
  obtain ⟨S, ⟨inner, h0, _⟩, _⟩ := h.get hi
  obtain ⟨g, cap, hv, _, _⟩ := h0.form hp
  refine ⟨g, cap, hv, ?_⟩
  rcases h0.2 with ⟨_, h1⟩ | ⟨g', cap', cur, _, _, _, h1, h2, _⟩
  · omega
  · simp only [maxLen] at h2; omega
/-- What any owned row's value looks like. -/
theorem Inv.rowShape {e : TypeId} {v : Value} {xs : List α} {i : Nat} (h : Inv w0 T w cs) (hi : cs[i]? = some (rowP d e v xs)) : ∃ A c, v = .slice A xs.length c ∧ xs.length ≤ c ∧ xs.length ≤ 9223372036854775807 ∧ RowAt d w (fun _ => True) A xs := by
  obtain ⟨S, hS, _⟩ := h.get hi
  obtain ⟨A, c, hv, hl, hr⟩ := hS.reads
  refine ⟨A, c, hv, hl, ?_, hr.mono (fun _ _ => trivial)⟩
  rcases Nat.eq_zero_or_pos xs.length with h0 | h0
  · omega
  · obtain ⟨_, _, _, h⟩ := h.rowForm hi h0
    exact h
/-- A part told otherwise. -/
theorem Inv.weaken {i : Nat} {c c' : HP} (h : Inv w0 T w cs) (hi : cs[i]? = some c) (hc : ∀ S, c.holds w S → c'.holds w S) : Inv w0 T w (cs.set i c') := by
  obtain ⟨S, hS, _, back⟩ := h.focus hi
  exact back w c' (Chg.refl _ _) (c'.mono (fun _ hk => .inl hk) (hc S hS))
theorem Reps.take {S : Nat → Prop} : ∀ {xs : List α} {cs : List Value} (k : Nat), Reps (d.rd w S) cs xs → Reps (d.rd w S) (cs.take (k * d.sz)) (xs.take k)
  | [], cs, k, h => by rw [show cs = [] from h]; simp [Reps]
  | x :: xs, cs, 0, _ => by simp [Reps]
  | x :: xs, cs, k + 1, ⟨c0, c1, e, h0, h1⟩ => by
    refine ⟨c0, c1.take (k * d.sz), ?_, h0, Reps.take k h1⟩
    rw [e, List.take_append, d.len h0, Nat.add_mul, Nat.one_mul, Nat.add_sub_cancel, List.take_of_length_le (by rw [d.len h0]; omega)]
/-- An owned row, cut. -/
theorem Owned.take {e : TypeId} {S : Nat → Prop} {g n cap : Nat} {xs : List α} (h : Owned d e w S (.slice (some ⟨g, 0, none⟩) n cap) xs) (k : Nat) (hk : k ≤ xs.length) : Owned d e w S (.slice (some ⟨g, 0, none⟩) k cap) (xs.take k) := by
  obtain ⟨inner, h0, h1, h2⟩ := h
  refine ⟨inner.take (k * d.sz), ⟨?_, ?_⟩, fun j hj => h1 j hj, Reps.take k h2⟩
  · rw [List.length_take, List.length_take, h0.1, Nat.min_eq_left (Nat.mul_le_mul_right _ hk), Nat.min_eq_left hk]
  · rcases h0.2 with ⟨h4, _⟩ | ⟨g', cap', cur, h4, hb, hg, hn, hm, hcs, htake⟩
    · cases h4
    · injection h4 with h4 h5 h6
      injection h4 with h4
      injection h4 with h4
      subst h4 h6
      refine .inr ⟨g, cap, cur, by rw [List.length_take, Nat.min_eq_left hk], hb, hg, by rw [List.length_take]; omega, hm, hcs, ?_⟩
      rw [← htake, List.take_take, List.length_take, Nat.min_eq_left hk, Nat.min_eq_left (Nat.mul_le_mul_right _ hk)]
theorem Inv.rowTake {e : TypeId} {g n cap : Nat} {xs : List α} {i : Nat} (h : Inv w0 T w cs) (hi : cs[i]? = some (rowP d e (.slice (some ⟨g, 0, none⟩) n cap) xs)) (k : Nat) (hk : k ≤ xs.length) : Inv w0 T w (cs.set i (rowP d e (.slice (some ⟨g, 0, none⟩) k cap) (xs.take k))) :=
  h.weaken hi (fun _ hS => hS.take k hk)
/-- A value that reads as x. -/
def rdP (d : Kind α) (c : List Value) (x : α) : HP where
  holds := fun w S => d.rd w S c x
  mono := fun hS h => d.mono hS h
  move := fun hm h => d.move hm h
theorem reps_enc {enc : α → Value} {h1 : ∀ x, (enc x).oneCell' = true} {S : Nat → Prop} : ∀ xs : List α, Reps ((Kind.ofEnc enc h1).rd w S) (xs.map enc) xs
  | [] => rfl
  | x :: xs => ⟨[enc x], xs.map enc, rfl, rfl, reps_enc xs⟩
theorem reps_enc_inv {enc : α → Value} {h1 : ∀ x, (enc x).oneCell' = true} {S : Nat → Prop} : ∀ {xs : List α} {c : List Value}, Reps ((Kind.ofEnc enc h1).rd w S) c xs → c = xs.map enc
  | [], _, h => h
  | x :: xs, _, ⟨c0, c1, e, h0, h2⟩ => by rw [e, show c0 = [enc x] from h0, reps_enc_inv h2]; rfl
/-- An owned row of elements of one cell, out of what the kit's laws hand over. -/
theorem Owned.of_row {enc : α → Value} {h1 : ∀ x, (enc x).oneCell' = true} {e : TypeId} {v : Value} {xs : List α} {b n : Nat} {S : Nat → Prop} (h : w.ownsRow b e 1 v n (xs.map enc)) (hS : ∀ k, b ≤ k → S k) : Owned (Kind.ofEnc enc h1) e w S v xs := by
  have hn : n = xs.length := by have := h.1; simp at this; omega
  subst hn
  refine ⟨xs.map enc, ⟨h.1, ?_⟩, fun k hk => hS k (h.lt k hk).1, reps_enc xs⟩
  rcases h.2 with h | ⟨g, cap, cur, hv, _, r⟩
  · exact .inl h
  · exact .inr ⟨g, cap, cur, hv, Nat.zero_le _, r⟩
theorem Owned.rd {e : TypeId} {v : Value} {xs : List α} {S : Nat → Prop} (h : Owned d e w S v xs) : (Kind.slice d).rd w S [v] xs := by
  obtain ⟨A, c, rfl, hl, hr⟩ := h.reads
  exact ⟨A, c, rfl, hl, hr⟩
/-- The same world, but for draws. -/
theorem below_drewN {w : World} (q : Nat) : Below w.heap.size w (w.drewN q) := ⟨rfl, rfl, rfl, Nat.le_refl _, fun _ _ => rfl⟩
theorem Inv.nilRow (h : Inv w0 T w cs) (d : Kind α) (e : TypeId) : Inv w0 T w (rowP d e (.slice none 0 0) [] :: cs) := h.free (fun _ => Owned.nil _ _ _ _)
/-- make([]T, n): a row of the call's own. -/
theorem Inv.made (h : Inv w0 T w cs) {enc : α → Value} {h1 : ∀ x, (enc x).oneCell' = true} (e : TypeId) (z : α) (n : Nat) (hn : n ≤ 9223372036854775807) :
    Inv w0 T (w.alloc (.cells (madeCells #[enc z] n) e)) (rowP (Kind.ofEnc enc h1) e (.slice (some ⟨w.heap.size, 0, none⟩) n n) (List.replicate n z) :: cs) := by
  refine h.cons ((Below.refl _ w).alloc (Nat.le_refl _) _) ?_
  have hl : (madeCells #[enc z] n).toList = (List.replicate n z).map enc := by
    apply List.ext_getElem
    · simp [madeCells]
    · intro i h1 h2
      simp [madeCells, Nat.mod_one]
  have h := World.ownsRow_lit (base := w.heap.size) (e := e) (size := 1) w (madeCells #[enc z] n) n (Nat.le_refl _) (by simpa [maxLen] using hn) (by simp [size_madeCells])
  rw [hl] at h
  exact Owned.of_row h (fun _ h => h)
end
end Go.Proofs.Ytcglokippflioaa.YLib
