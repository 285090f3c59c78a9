/- Texts of the claim, in one: Lib3, Lib4. -/
import Derived.Maps.OwnSet
import Derived.Maps.OwnOps
import Derived.Test.YtcglokippflioaaSm3

/-! Maps from whole numbers to whole numbers, of the call's own. -/
namespace Go.Proofs.Ytcglokippflioaa.YLib
open Go Go.RowKit
open Go.ChangeMaps (setBlock heap_setBlock_other)
/-- A map in block b, of at most n entries: it tells f. -/
def mapP (P : Program) (k e : TypeId) (b n : Nat) (f : Int → Int) : HP where
  holds := fun w T => T b ∧ ∃ D : DataW Unit, w.ownsMap P k (plainElem P e) b n D ∧ ∀ x : Int, D.atKey (.int .i64 x) (.lit (.int .i64 0)) = .lit (.int .i64 (f x))
  mono := fun hS ⟨h, r⟩ => ⟨hS b h, r⟩
  move := fun hm ⟨h, D, ⟨es, clock, hb, r⟩, hf⟩ => ⟨⟨h, heap_lt hb⟩, D, ⟨es, clock, (hm b h (heap_lt hb)).trans hb, r⟩, hf⟩
section
variable {P : Program} {w0 w : World} {T : Nat → Prop} {cs : List HP} {k e t : TypeId} {b n : Nat} {f : Int → Int}
theorem Inv.mapMade (h : Inv w0 T w cs) (P : Program) (k e : TypeId) : Inv w0 T (w.alloc (.map #[] 0)) (cs ++ [mapP P k e w.heap.size 0 (fun _ => 0)]) :=
  h.new ((Below.refl _ w).alloc (Nat.le_refl _) _) ⟨Nat.le_refl _, .map [], World.ownsMap_made w P k _, fun _ => rfl⟩
theorem wf_i64 {x : Int} (h : -9223372036854775808 ≤ x ∧ x ≤ 9223372036854775807) : (Lit.int .i64 x).wf = true := by
  simp [Lit.wf, IntKind.min, IntKind.max, IntKind.bits, IntKind.signed]; omega
theorem Inv.mapGet (ht : P.underlying t = some (.map k e)) (hk : P.underlying k = some (.int .i64)) (he : P.underlying e = some (.int .i64)) (hz : ∀ w, (zeroValue e).run P w = .ok (.int .i64 0) w)
    (h : Inv w0 T w cs) {i : Nat} (hi : cs[i]? = some (mapP P k e b n f)) {x : Int} (hx : (Lit.int .i64 x).wf = true) :
    (Instr.lookup t (.map (some b)) (.int .i64 x) false).run P w = .ok (.int .i64 (f x)) w ∧ (Lit.int .i64 (f x)).wf = true := by
  obtain ⟨S, ⟨_, D, hD, hf⟩, _⟩ := h.get hi
  obtain ⟨c, hrun, hat, hw⟩ := hD.lookup_int (Maps.int_keyed hk) ht he (hz w) (Maps.keyOf_int_mk hk hx)
  rw [hf] at hat
  injection hat with hat
  injection hat with _ hat
  rw [hat]
  exact ⟨hrun, hw⟩
theorem Inv.mapPut (ht : P.underlying t = some (.map k e)) (hk : P.underlying k = some (.int .i64)) (he : P.underlying e = some (.int .i64))
    (h : Inv w0 T w cs) {i : Nat} (hi : cs[i]? = some (mapP P k e b n f)) (hn : n < 9223372036854775807) {x y : Int} (hx : (Lit.int .i64 x).wf = true) (hy : (Lit.int .i64 y).wf = true) :
    ∃ w', (Instr.mapUpdate t (.map (some b)) (.int .i64 x) (.int .i64 y)).run P w = .ok () w' ∧ Inv w0 T w' (cs.set i (mapP P k e b (n + 1) (fun j => if j = x then y else f j))) := by
  obtain ⟨S, ⟨hb, D, hD, hf⟩, hlt, back⟩ := h.focus hi
  obtain ⟨w', hrun, hD', hg⟩ := hD.update (Maps.int_keyed hk) ht (by unfold maxLen; omega) (Maps.keyOf_int_mk hk hx) (plainElem_int he hy)
  refine ⟨w', hrun, back _ (mapP P k e b (n + 1) _) ((Chg.refl S w).grown hg (fun k hk _ => by injection hk with hk; exact hk ▸ hb)) ⟨.inl hb, _, hD', fun j => ?_⟩⟩
  have hm : Maps.IsMap D := by obtain ⟨es, clock, _, _, _, rfl⟩ := hD; exact ⟨_, rfl⟩
  by_cases hj : j = x
  · subst hj
    dsimp only
    rw [if_pos rfl, Maps.atKey_put_same hm (k := .int .i64 j) trivial]
  · dsimp only
    rw [if_neg hj, Maps.atKey_put_other (by intro e; injection e with _ e; exact hj e)]
    exact hf j
theorem Inv.mapDel (ht : P.underlying t = some (.map k e)) (hk : P.underlying k = some (.int .i64))
    (h : Inv w0 T w cs) {i : Nat} (hi : cs[i]? = some (mapP P k e b n f)) {x : Int} (hx : (Lit.int .i64 x).wf = true) (ty : TypeId) :
    ∃ w', (Builtin.delete_ #[t, k] ty #[.map (some b), .int .i64 x]).run P w = .ok (.tuple #[]) w' ∧ Inv w0 T w' (cs.set i (mapP P k e b n (fun j => if j = x then 0 else f j))) := by
  obtain ⟨S, ⟨hb, D, hD, hf⟩, hlt, back⟩ := h.focus hi
  obtain ⟨w', hrun, hD', es, clock, es', clock', hes, rfl⟩ := hD.drop (Maps.int_keyed hk) ht (Maps.keyOf_int_mk hk hx) ty
  refine ⟨_, hrun, back _ (mapP P k e b n _) ⟨rfl, rfl, rfl, by simp [setBlock], fun i _ hi => heap_setBlock_other hes _ (fun e => hi (by rw [e]; exact hb))⟩ ⟨.inl hb, _, hD', fun j => ?_⟩⟩
  by_cases hj : j = x
  · subst hj
    dsimp only
    rw [if_pos rfl, Maps.atKey_del_same]
  · dsimp only
    rw [if_neg hj, Maps.atKey_del_other (by intro e; injection e with _ e; exact hj e)]
    exact hf j
/-- delete(m, k), at the operation. -/
theorem wp_delete_inv {o : Oper} {a : Act} {K : Act → World → Prop} {Q : Exit → Act → World → Prop} (mo x : Operand) (hop : o.op = Op.call { callee := Callee.builtin Builtin.delete, args := #[mo, x], argTypes := #[t, k] })
    (ht : P.underlying t = some (.map k e)) (hk : P.underlying k = some (.int .i64)) (i : Nat) (key : Int) (h : Inv w0 T w cs) (hi : cs[i]? = some (mapP P k e b n f)) (hm : a.eval mo = .map (some b)) (hx : a.eval x = .int .i64 key) (hwf : (Lit.int .i64 key).wf = true)
    (hK : ∀ w1, Inv w0 T w1 (cs.set i (mapP P k e b n (fun j => if j = key then 0 else f j))) → K (a.put o.dst (.tuple #[])) w1) : o.wp P a w K Q := by
  obtain ⟨w1, hrun, h1⟩ := h.mapDel ht hk hi hwf o.type
  unfold Oper.wp execOp
  simp only [hop, resolve, invoke, builtin, Sem.run_bind, Sem.run_pure, Result.andThen_ok, List.map_toArray, List.map_cons, List.map_nil, hm, hx, hrun]
  exact hK w1 h1
theorem Inv.mapMadec (h : Inv w0 T w cs) (P : Program) (k e : TypeId) : Inv w0 T (w.alloc (.map #[] 0)) (mapP P k e w.heap.size 0 (fun _ => 0) :: cs) :=
  h.cons ((Below.refl _ w).alloc (Nat.le_refl _) _) ⟨Nat.le_refl _, .map [], World.ownsMap_made w P k _, fun _ => rfl⟩
end
end Go.Proofs.Ytcglokippflioaa.YLib

/-! Rows that lie in blocks whose cells are known. -/
namespace Go.Proofs.Ytcglokippflioaa.YLib
open Go Go.RowKit
theorem RowAt.of_blk {α : Type} {d : Kind α} {w : World} {S : Nat → Prop} {b : Nat} {t : TypeId} {cs : List Value} {xs : List α} (hb : w.heap[b]? = some (.cells cs.toArray t (0, 0))) (hS : S b) (hr : Reps (d.rd w S) cs xs) : RowAt d w S (some ⟨b, 0, none⟩) xs := by
  refine .inr ⟨b, 0, rfl, hS, heap_lt hb, fun i hi => ?_⟩
  obtain ⟨c, h1, h2⟩ := Reps.get hr i hi
  refine ⟨c, h1, fun j u hu => ?_⟩
  have := h2 j u hu
  rw [Nat.zero_add]
  simp only [World.cell?, hb]
  simpa using this
theorem Inv.blk {w0 w : World} {T : Nat → Prop} {cs : List HP} (h : Inv w0 T w cs) {i b : Nat} {t : TypeId} {vs : List Value} (hi : cs[i]? = some (blkP b t vs)) : w.heap[b]? = some (.cells vs.toArray t (0, 0)) := by
  obtain ⟨S, hS, _⟩ := h.get hi
  exact hS.1
theorem ints_at {w : World} {b : Nat} {t : TypeId} {xs : List Int} (hb : w.heap[b]? = some (.cells (xs.map (Value.int .i64)).toArray t (0, 0))) : RowAt Kind.int w (fun _ => True) (some ⟨b, 0, none⟩) xs :=
  RowAt.of_blk hb trivial (reps_enc (h1 := fun _ => rfl) xs)
end Go.Proofs.Ytcglokippflioaa.YLib
