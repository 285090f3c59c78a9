/- Texts of the claim, in one: RangeL, RangeE. -/
import Derived.RangeFuncNested
import Derived.RangeFuncBound
import Derived.RangeFuncCalls
import Derived.RangeFuncLeaves
import Derived.Shelf.RegionOpen
import Derived.OwnWalkIn
import Derived.TacticsInMore
import Derived.LoopNIn
import Derived.LoopIn
import Derived.Test.YtcglokippflioaaSm4

/-! A range over a function: the law, over parts. -/
namespace Go.Proofs.Ytcglokippflioaa.YLib
open Go Go.RowKit

/-- One object that is known. -/
def objP (b : Nat) (o : Obj) : HP where
  holds := fun w T => w.heap[b]? = some o ∧ T b
  mono := fun hS h => ⟨h.1, hS b h.2⟩
  move := fun hm h => ⟨(hm b h.2 (heap_lt h.1)).trans h.1, h.2, heap_lt h.1⟩
/-- The marks of the loops that have been: their blocks for deferred calls, all empty. -/
def marksP (Ds : List Nat) : HP where
  holds := fun w T => Ds.Nodup ∧ ∀ D ∈ Ds, w.heap[D]? = some (.deferred (some [])) ∧ T D
  mono := fun hS h => ⟨h.1, fun D hD => ⟨(h.2 D hD).1, hS D (h.2 D hD).2⟩⟩
  move := fun hm h => ⟨h.1, fun D hD => ⟨(hm D (h.2 D hD).2 (heap_lt (h.2 D hD).1)).trans (h.2 D hD).1, (h.2 D hD).2, heap_lt (h.2 D hD).1⟩⟩
def marks (Ds : List Nat) : List Deferred := Ds.map fun D => { target := .collected D, args := #[] }
section
variable {w0 w w' : World} {T : Nat → Prop} {cs : List HP} {P : Program}
theorem Inv.noMarks (h : Inv w0 T w cs) : Inv w0 T w (marksP [] :: cs) := h.free (fun _ => ⟨List.nodup_nil, fun _ h => by cases h⟩)
theorem Inv.obj (h : Inv w0 T w cs) {i b : Nat} {o : Obj} (hi : cs[i]? = some (objP b o)) : w.heap[b]? = some o := by
  obtain ⟨S, hS, _⟩ := h.get hi
  exact hS.1
theorem Inv.putObj (h : Inv w0 T w cs) {i b : Nat} {o : Obj} (hi : cs[i]? = some (objP b o)) (o' : Obj) : Inv w0 T (w.putObj b o') (cs.set i (objP b o')) := by
  obtain ⟨S, hS, hlt, back⟩ := h.focus hi
  refine back _ _ ⟨rfl, rfl, rfl, by simp, fun k hk hn => World.putObj_heap_other (fun e => hn (e ▸ hS.2))⟩ ⟨World.putObj_heap_same (heap_lt hS.1), .inl hS.2⟩
theorem Inv.addMark {D : Nat} {Ds : List Nat} (h : Inv w0 T w (objP D (.deferred (some [])) :: marksP Ds :: cs)) : Inv w0 T w (marksP (D :: Ds) :: cs) := by
  obtain ⟨S, S2, hS, hS2, _, _, hdis, back⟩ := h.focus2 (i := 1) (j := 0) rfl rfl (by decide)
  have := back w (marksP (D :: Ds)) (Chg.refl _ _) ⟨List.nodup_cons.2 ⟨fun hm => hdis D hS2.2 (hS.2 D hm).2, hS.1⟩, fun E hE => by
    rcases List.mem_cons.1 hE with rfl | hE
    · exact ⟨hS2.1, .inl (.inr hS2.2)⟩
    · exact ⟨(hS.2 E hE).1, .inl (.inl (hS.2 E hE).2)⟩⟩
  exact this.tail

/-- What an iterator does: it hands out xs, one behind another, as long as it is asked to go on; RO is what it reads meanwhile. -/
def Iter {α : Type} (P : Program) (gf : Nat) (lb : Array Value) (encs : α → Array Value) (xs : List α) (RO : World → Prop) : Prop :=
  ∀ (l : Nat) (J : List α → World → Prop) (Jx : World → Prop) (W : World),
    (∀ pre W W', J pre W → Below W.heap.size W W' → J pre W') → (∀ W W', Jx W → Below W.heap.size W W' → Jx W') → (∀ pre W, J pre W → RO W) →
    (∀ pre x post W1, xs = pre ++ x :: post → J pre W1 → YieldAt Fence.wide 0 P l (encs x) W1 fun e W' => (e = .returned (.bool true) ∧ J (pre ++ [x]) W') ∨ (e = .returned (.bool false) ∧ Jx W')) →
    J [] W → Calls P gf (#[.func (.yield l) #[] #[]] ++ lb) W fun e W' => (∃ v, e = .returned v) ∧ (J xs W' ∨ Jx W')

/-- How a round's body may be left. -/
def rangePostI {α : Type} (w0 : World) (T : Nat → Prop) (Cs : List α → List HP → Prop) (Cx : Code → List HP → Prop) (hd : List HP) (pre : List α) : Exit → Act → World → Prop
  | .normal, _, W => ∃ cs, Cs pre cs ∧ Inv w0 T W (hd ++ cs)
  | .ret, _, W => ∃ cs, Cx .ret cs ∧ Inv w0 T W (hd ++ cs)
  | .exit id, _, W => ∃ cs, Cx (.exit id) cs ∧ Inv w0 T W (hd ++ cs)
  | .goto t, _, W => ∃ cs, Cx (.goto t) cs ∧ Inv w0 T W (hd ++ cs)
  | .panic _, _, _ => False
  | .outgrown, _, _ => False

/-- The law. -/
theorem wpIn_range {α : Type} {g : Operand} {ps : Array Tmp} {assign body : Code} {Q : Exit → Act → World → Prop} {a : Act} {gf : Nat} {lb : Array Value} (hg : a.eval g = .func (.func gf) #[] lb)
    (eg : ∀ args w, (callFunc gf args).run P w = .ok (.enter gf args) w) {encs : α → Array Value} {xs : List α} {RO : World → Prop} (hIt : Iter P gf lb encs xs RO) (hps : ∀ x, (encs x).size = ps.size)
    {Ds : List Nat} (ha : a.defers = marks Ds) (Cs : List α → List HP → Prop) (Cx : Code → List HP → Prop) {cs0 : List HP} (h : Inv w0 T w (marksP Ds :: cs0)) (h0 : Cs [] cs0)
    (hRO : ∀ pre cs W, Cs pre cs → Inv w0 T W cs → RO W) (a₁ : α → Act)
    (hassign : ∀ (l : Nat) (x : α) (W : World) (K : Act → World → Prop), K (a₁ x) W →
      assign.wpIn (Fence.wide.inRound l) 0 P (Exit.then K (fun _ _ _ => False)) { tmps := (ps.zip (encs x)).foldl (fun t (p, v) => t.setIfInBounds p v) a.tmps, defers := [] } W)
    (hbody : ∀ (l D : Nat) (o : Obj) (pre : List α) (x : α) (post : List α) (cs : List HP) (W : World), xs = pre ++ x :: post → Cs pre cs → Inv w0 T W (objP l o :: marksP (D :: Ds) :: cs) →
      body.wpIn (Fence.wide.inRound l) 0 P (rangePostI w0 T Cs Cx [objP l o, marksP (D :: Ds)] (pre ++ [x])) (a₁ x) W)
    (hdone : ∀ (D : Nat) (cs : List HP) (W : World), Cs xs cs → Inv w0 T W (marksP (D :: Ds) :: cs) → Q .normal { a with defers := marks (D :: Ds) } W)
    (hstop : ∀ (D : Nat) (c : Code) (cs : List HP) (W : World), Cx c cs → Inv w0 T W (marksP (D :: Ds) :: cs) → c.wpIn Fence.wide 0 P Q { a with defers := marks (D :: Ds) } W) :
    (Code.rangeFunc g ps assign body).wpIn Fence.wide 0 P Q a w := by
  refine wpIn_rangeFunc ?_
  intro fn hfn
  obtain ⟨rec, hrec⟩ : ∃ rec : LoopState → Option Code → Loop, rec = fun st pe => { state := st, pending := pe, fn, tmps := a.tmps, params := ps, assign, body, defers := w.heap.size } := ⟨_, rfl⟩
  obtain ⟨W1, hW1⟩ : ∃ W1, (w.alloc (.deferred (some []))).alloc (.loop (rec .ready none)) = W1 := ⟨_, rfl⟩
  obtain ⟨l, hl⟩ : ∃ l, w.heap.size + 1 = l := ⟨_, rfl⟩
  obtain ⟨D, hD⟩ : ∃ D, w.heap.size = D := ⟨_, rfl⟩
  have hI1 : Inv w0 T W1 (objP l (.loop (rec .ready none)) :: marksP (D :: Ds) :: cs0) := by
    have h1 := (h.cons (c := objP D (.deferred (some []))) ((Below.refl _ w).alloc (Nat.le_refl _) (.deferred (some []))) ⟨by rw [← hD]; exact World.alloc_heap_new w _, by rw [← hD]; exact Nat.le_refl _⟩).addMark
    have h2 := h1.cons (c := objP l (.loop (rec .ready none))) ((Below.refl _ _).alloc (Nat.le_refl _) (.loop (rec .ready none))) ⟨by have := World.alloc_heap_new (w.alloc (.deferred (some []))) (.loop (rec .ready none)); rwa [World.size_alloc, hl] at this, by rw [World.size_alloc, hl]; exact Nat.le_refl _⟩
    rw [hW1] at h2
    exact h2
  refine ⟨w.heap.size + 1, [{ target := .collected w.heap.size, args := #[] }], W1, { target := .fn (.func gf) lb, args := #[.func (.yield (w.heap.size + 1)) #[] #[]] }, W1, gf,
    #[.func (.yield (w.heap.size + 1)) #[] #[]] ++ lb, W1, ?_, ?_, fun _ _ => trivial, ?_, (fun h => (by cases h)), ?_⟩
  · rw [← hW1, hrec]; exact run_enterLoop_outer _ _ _ _ _
  · simp only [resolve, hg]
    simp [go_sem]
  · simp [invoke, go_sem, eg]
  · refine callsIn_wide.2 ?_
    rw [hl, hD, ha]
    have hRO' : ∀ {pre : List α} {cs : List HP} {W : World} {o : Obj}, Cs pre cs → Inv w0 T W (objP l o :: marksP (D :: Ds) :: cs) → RO W := fun hc hi => hRO _ _ _ hc hi.tail.tail
    refine (hIt l (fun pre W => ∃ cs, Cs pre cs ∧ Inv w0 T W (objP l (.loop (rec .ready none)) :: marksP (D :: Ds) :: cs))
      (fun W => ∃ c cs, Cx c cs ∧ Inv w0 T W (objP l (.loop (rec .done (some c))) :: marksP (D :: Ds) :: cs)) W1
      (fun pre W W' ⟨cs, hc, hi⟩ hb => ⟨cs, hc, hi.below hb⟩) (fun W W' ⟨c, cs, hc, hi⟩ hb => ⟨c, cs, hc, hi.below hb⟩) (fun pre W ⟨cs, hc, hi⟩ => hRO' hc hi) ?_ ⟨cs0, h0, hI1⟩).mono ?_
    · rintro pre x post W hx ⟨cs, hc, hi⟩
      have hl1 := hi.obj (i := 0) rfl
      have hy := run_yield (P := P) (args := encs x) hl1 (by rw [hrec]; exact hps x)
      rw [hrec] at hy
      refine ⟨fn, _, assign, body, hy, roundIn_of_wpIn hfn (hassign _ x W _ ⟨_, run_beginRound hl1 (by rw [hrec]), ?_⟩)⟩
      have hi2 := hi.putObj (i := 0) rfl (.loop { rec .ready none with state := .busy })
      refine wpIn_mono (hbody l D _ pre x post cs _ hx hc hi2) ?_
      have fin : ∀ (jump : Option Code) (cs : List HP) (W3 : World), Inv w0 T W3 (objP l (.loop { rec .ready none with state := .busy }) :: marksP (D :: Ds) :: cs) →
          (Instr.endRound l jump).run P W3 = .ok (.bool jump.isNone) (W3.putObj l (.loop (rec (if jump.isNone then .ready else .done) jump))) ∧
          Inv w0 T (W3.putObj l (.loop (rec (if jump.isNone then .ready else .done) jump))) (objP l (.loop (rec (if jump.isNone then .ready else .done) jump)) :: marksP (D :: Ds) :: cs) := fun jump cs W3 h3 => by
        have := run_endRound (P := P) jump (h3.obj (i := 0) rfl)
        rw [hrec] at this ⊢
        exact ⟨this, h3.putObj (i := 0) rfl _⟩
      rintro e a3 W3 hp
      cases e with
      | normal =>
        obtain ⟨cs', hc', hi'⟩ := hp
        obtain ⟨hr, hi3⟩ := fin none cs' W3 hi'
        exact ⟨_, _, hr, .inl ⟨rfl, cs', hc', hi3⟩⟩
      | ret =>
        obtain ⟨cs', hc', hi'⟩ := hp
        obtain ⟨hr, hi3⟩ := fin (some .ret) cs' W3 hi'
        exact ⟨_, _, hr, .inr ⟨rfl, .ret, cs', hc', hi3⟩⟩
      | exit id =>
        obtain ⟨cs', hc', hi'⟩ := hp
        obtain ⟨hr, hi3⟩ := fin (some (.exit id)) cs' W3 hi'
        exact ⟨_, _, hr, .inr ⟨rfl, .exit id, cs', hc', hi3⟩⟩
      | goto t =>
        obtain ⟨cs', hc', hi'⟩ := hp
        obtain ⟨hr, hi3⟩ := fin (some (.goto t)) cs' W3 hi'
        exact ⟨_, _, hr, .inr ⟨rfl, .goto t, cs', hc', hi3⟩⟩
      | panic ch => exact hp.elim
      | outgrown => exact hp.elim
    · rintro e W2 ⟨⟨v, rfl⟩, (⟨cs', hc', hi'⟩ | ⟨c, cs', hc', hi'⟩)⟩
      · exact ⟨none, _, by have := run_endLoop (P := P) (hi'.obj (i := 0) rfl) (by rw [hrec]; simp); rw [hrec] at this; exact this, hdone D cs' _ hc' (hi'.putObj (i := 0) rfl _).tail⟩
      · exact ⟨some c, _, by have := run_endLoop (P := P) (hi'.obj (i := 0) rfl) (by rw [hrec]; simp); rw [hrec] at this; exact this, hstop D c cs' _ hc' (hi'.putObj (i := 0) rfl _).tail⟩
/-- At the function's return: the marks are come to, one behind another. -/
theorem leaves_marks {fn : Func} {tmps : Array Value} {R : Ending → World → Prop} : ∀ (Ds : List Nat) (w : World), Inv w0 T w (marksP Ds :: cs) →
    (∀ W, Inv w0 T W cs → LeavesIn Fence.wide 0 P fn tmps R [] .returning W) → LeavesInM Fence.wide 0 P fn tmps R (marks Ds) .returning w := by
  intro Ds
  induction Ds with
  | nil => exact fun w h hf => hf w h.tail
  | cons D Ds ih =>
    intro w h hf
    obtain ⟨S, hS, hlt, back⟩ := h.focus (i := 0) rfl
    have hDn := (List.nodup_cons.1 hS.1).1
    refine ⟨by simp, .inl ⟨D, _, rfl, run_takeDeferred (hS.2 D (List.mem_cons_self ..)).1, ?_⟩⟩
    refine ih _ ?_ hf
    refine back (w.putObj D (.deferred none)) (marksP Ds) ⟨rfl, rfl, rfl, by simp, fun k hk hn => World.putObj_heap_other (fun e => hn (e ▸ (hS.2 D (List.mem_cons_self ..)).2))⟩
      ⟨(List.nodup_cons.1 hS.1).2, fun E hE => ⟨(World.putObj_heap_other (fun e => hDn (by rw [← e]; exact hE))).trans (hS.2 E (List.mem_cons_of_mem _ hE)).1, .inl (hS.2 E (List.mem_cons_of_mem _ hE)).2⟩⟩
end
end Go.Proofs.Ytcglokippflioaa.YLib

/-! A range over a function that keeps memory of its own: the law, over parts. -/
namespace Go.Proofs.Ytcglokippflioaa.YLib
open Go Go.RowKit
section
variable {w0 w w' : World} {T : Nat → Prop} {cs : List HP} {P : Program}
/-- What an iterator does that keeps parts of its own, ex, meanwhile: it hands out xs, as long as it is asked to go on; RO is what it reads. -/
def IterE {α : Type} (P : Program) (gf : Nat) (lb : Array Value) (encs : α → Array Value) (xs : List α) (RO : World → Prop) : Prop :=
  ∀ (l : Nat) (w0 : World) (T : Nat → Prop) (Cs : List α → List HP → Prop) (Cx : List HP → Prop) (W : World) (cs0 : List HP),
    (∀ pre cs W, Cs pre cs → Inv w0 T W cs → RO W) →
    (∀ ex pre x post cs W1, xs = pre ++ x :: post → Cs pre cs → Inv w0 T W1 (cs ++ ex) → YieldAt Fence.wide 0 P l (encs x) W1 fun e W' => (e = .returned (.bool true) ∧ ∃ cs', Cs (pre ++ [x]) cs' ∧ Inv w0 T W' (cs' ++ ex)) ∨ (e = .returned (.bool false) ∧ ∃ cs', Cx cs' ∧ Inv w0 T W' (cs' ++ ex))) →
    Cs [] cs0 → Inv w0 T W cs0 → Calls P gf (#[.func (.yield l) #[] #[]] ++ lb) W fun e W' => (∃ v, e = .returned v) ∧ ((∃ cs, Cs xs cs ∧ Inv w0 T W' cs) ∨ (∃ cs, Cx cs ∧ Inv w0 T W' cs))
/-- How a round's body may be left. -/
def rangePostE {α : Type} (w0 : World) (T : Nat → Prop) (Cs : List α → List HP → Prop) (Cx : Code → List HP → Prop) (hd ex : List HP) (pre : List α) : Exit → Act → World → Prop
  | .normal, _, W => ∃ cs, Cs pre cs ∧ Inv w0 T W (hd ++ (cs ++ ex))
  | .ret, _, W => ∃ cs, Cx .ret cs ∧ Inv w0 T W (hd ++ (cs ++ ex))
  | .exit id, _, W => ∃ cs, Cx (.exit id) cs ∧ Inv w0 T W (hd ++ (cs ++ ex))
  | .goto t, _, W => ∃ cs, Cx (.goto t) cs ∧ Inv w0 T W (hd ++ (cs ++ ex))
  | .panic _, _, _ => False
  | .outgrown, _, _ => False

/-- The law. -/
theorem wpIn_rangeE {α : Type} {g : Operand} {ps : Array Tmp} {assign body : Code} {Q : Exit → Act → World → Prop} {a : Act} {gf : Nat} {lb : Array Value} (hg : a.eval g = .func (.func gf) #[] lb)
    (eg : ∀ args w, (callFunc gf args).run P w = .ok (.enter gf args) w) {encs : α → Array Value} {xs : List α} {RO : World → Prop} (hIt : IterE P gf lb encs xs RO) (hps : ∀ x, (encs x).size = ps.size)
    {Ds : List Nat} (ha : a.defers = marks Ds) (Cs : List α → List HP → Prop) (Cx : Code → List HP → Prop) {cs0 : List HP} (h : Inv w0 T w (marksP Ds :: cs0)) (h0 : Cs [] cs0)
    (hRO : ∀ pre cs W, Cs pre cs → Inv w0 T W cs → RO W) (a₁ : α → Act)
    (hassign : ∀ (l : Nat) (x : α) (W : World) (K : Act → World → Prop), K (a₁ x) W →
      assign.wpIn (Fence.wide.inRound l) 0 P (Exit.then K (fun _ _ _ => False)) { tmps := (ps.zip (encs x)).foldl (fun t (p, v) => t.setIfInBounds p v) a.tmps, defers := [] } W)
    (hbody : ∀ (l D : Nat) (o : Obj) (ex : List HP) (pre : List α) (x : α) (post : List α) (cs : List HP) (W : World), xs = pre ++ x :: post → Cs pre cs → Inv w0 T W (objP l o :: marksP (D :: Ds) :: (cs ++ ex)) →
      body.wpIn (Fence.wide.inRound l) 0 P (rangePostE w0 T Cs Cx [objP l o, marksP (D :: Ds)] ex (pre ++ [x])) (a₁ x) W)
    (hdone : ∀ (D : Nat) (cs : List HP) (W : World), Cs xs cs → Inv w0 T W (marksP (D :: Ds) :: cs) → Q .normal { a with defers := marks (D :: Ds) } W)
    (hstop : ∀ (D : Nat) (c : Code) (cs : List HP) (W : World), Cx c cs → Inv w0 T W (marksP (D :: Ds) :: cs) → c.wpIn Fence.wide 0 P Q { a with defers := marks (D :: Ds) } W) :
    (Code.rangeFunc g ps assign body).wpIn Fence.wide 0 P Q a w := by
  refine wpIn_rangeFunc ?_
  intro fn hfn
  obtain ⟨rec, hrec⟩ : ∃ rec : LoopState → Option Code → Loop, rec = fun st pe => { state := st, pending := pe, fn, tmps := a.tmps, params := ps, assign, body, defers := w.heap.size } := ⟨_, rfl⟩
  obtain ⟨W1, hW1⟩ : ∃ W1, (w.alloc (.deferred (some []))).alloc (.loop (rec .ready none)) = W1 := ⟨_, rfl⟩
  obtain ⟨l, hl⟩ : ∃ l, w.heap.size + 1 = l := ⟨_, rfl⟩
  obtain ⟨D, hD⟩ : ∃ D, w.heap.size = D := ⟨_, rfl⟩
  have hI1 : Inv w0 T W1 (objP l (.loop (rec .ready none)) :: marksP (D :: Ds) :: cs0) := by
    have h1 := (h.cons (c := objP D (.deferred (some []))) ((Below.refl _ w).alloc (Nat.le_refl _) (.deferred (some []))) ⟨by rw [← hD]; exact World.alloc_heap_new w _, by rw [← hD]; exact Nat.le_refl _⟩).addMark
    have h2 := h1.cons (c := objP l (.loop (rec .ready none))) ((Below.refl _ _).alloc (Nat.le_refl _) (.loop (rec .ready none))) ⟨by have := World.alloc_heap_new (w.alloc (.deferred (some []))) (.loop (rec .ready none)); rwa [World.size_alloc, hl] at this, by rw [World.size_alloc, hl]; exact Nat.le_refl _⟩
    rw [hW1] at h2
    exact h2
  refine ⟨w.heap.size + 1, [{ target := .collected w.heap.size, args := #[] }], W1, { target := .fn (.func gf) lb, args := #[.func (.yield (w.heap.size + 1)) #[] #[]] }, W1, gf,
    #[.func (.yield (w.heap.size + 1)) #[] #[]] ++ lb, W1, ?_, ?_, fun _ _ => trivial, ?_, (fun h => (by cases h)), ?_⟩
  · rw [← hW1, hrec]; exact run_enterLoop_outer _ _ _ _ _
  · simp only [resolve, hg]
    simp [go_sem]
  · simp [invoke, go_sem, eg]
  · refine callsIn_wide.2 ?_
    rw [hl, hD, ha]
    refine (hIt l w0 T (fun pre cs' => ∃ cs, Cs pre cs ∧ cs' = objP l (.loop (rec .ready none)) :: marksP (D :: Ds) :: cs)
      (fun cs' => ∃ c cs, Cx c cs ∧ cs' = objP l (.loop (rec .done (some c))) :: marksP (D :: Ds) :: cs) W1 _
      (fun pre cs' W ⟨cs, hc, e⟩ hi => by subst e; exact hRO pre cs W hc hi.tail.tail) ?_ ⟨cs0, h0, rfl⟩ hI1).mono ?_
    · rintro ex pre x post cs' W hx ⟨cs, hc, rfl⟩ hi
      have hi : Inv w0 T W (objP l (.loop (rec .ready none)) :: marksP (D :: Ds) :: (cs ++ ex)) := hi
      have hl1 := hi.obj (i := 0) rfl
      have hy := run_yield (P := P) (args := encs x) hl1 (by rw [hrec]; exact hps x)
      rw [hrec] at hy
      refine ⟨fn, _, assign, body, hy, roundIn_of_wpIn hfn (hassign _ x W _ ⟨_, run_beginRound hl1 (by rw [hrec]), ?_⟩)⟩
      have hi2 := hi.putObj (i := 0) rfl (.loop { rec .ready none with state := .busy })
      refine wpIn_mono (hbody l D _ ex pre x post cs _ hx hc hi2) ?_
      have fin : ∀ (jump : Option Code) (cs : List HP) (W3 : World), Inv w0 T W3 (objP l (.loop { rec .ready none with state := .busy }) :: marksP (D :: Ds) :: cs) →
          (Instr.endRound l jump).run P W3 = .ok (.bool jump.isNone) (W3.putObj l (.loop (rec (if jump.isNone then .ready else .done) jump))) ∧
          Inv w0 T (W3.putObj l (.loop (rec (if jump.isNone then .ready else .done) jump))) (objP l (.loop (rec (if jump.isNone then .ready else .done) jump)) :: marksP (D :: Ds) :: cs) := fun jump cs W3 h3 => by
        have := run_endRound (P := P) jump (h3.obj (i := 0) rfl)
        rw [hrec] at this ⊢
        exact ⟨this, h3.putObj (i := 0) rfl _⟩
      rintro e a3 W3 hp
      cases e with
      | normal =>
        obtain ⟨cs', hc', hi'⟩ := hp
        obtain ⟨hr, hi3⟩ := fin none _ W3 hi'
        exact ⟨_, _, hr, .inl ⟨rfl, _, ⟨cs', hc', rfl⟩, hi3⟩⟩
      | ret =>
        obtain ⟨cs', hc', hi'⟩ := hp
        obtain ⟨hr, hi3⟩ := fin (some .ret) _ W3 hi'
        exact ⟨_, _, hr, .inr ⟨rfl, _, ⟨.ret, cs', hc', rfl⟩, hi3⟩⟩
      | exit id =>
        obtain ⟨cs', hc', hi'⟩ := hp
        obtain ⟨hr, hi3⟩ := fin (some (.exit id)) _ W3 hi'
        exact ⟨_, _, hr, .inr ⟨rfl, _, ⟨.exit id, cs', hc', rfl⟩, hi3⟩⟩
      | goto t =>
        obtain ⟨cs', hc', hi'⟩ := hp
        obtain ⟨hr, hi3⟩ := fin (some (.goto t)) _ W3 hi'
        exact ⟨_, _, hr, .inr ⟨rfl, _, ⟨.goto t, cs', hc', rfl⟩, hi3⟩⟩
      | panic ch => exact hp.elim
      | outgrown => exact hp.elim
    · rintro e W2 ⟨⟨v, rfl⟩, (⟨_, ⟨cs', hc', rfl⟩, hi'⟩ | ⟨_, ⟨c, cs', hc', rfl⟩, hi'⟩)⟩
      · exact ⟨none, _, by have := run_endLoop (P := P) (hi'.obj (i := 0) rfl) (by rw [hrec]; simp); rw [hrec] at this; exact this, hdone D cs' _ hc' (hi'.putObj (i := 0) rfl _).tail⟩
      · exact ⟨some c, _, by have := run_endLoop (P := P) (hi'.obj (i := 0) rfl) (by rw [hrec]; simp); rw [hrec] at this; exact this, hstop D c cs' _ hc' (hi'.putObj (i := 0) rfl _).tail⟩
end
end Go.Proofs.Ytcglokippflioaa.YLib
