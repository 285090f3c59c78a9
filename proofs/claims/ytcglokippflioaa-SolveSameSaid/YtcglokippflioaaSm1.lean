/- Texts of the claim, in one: Img, LearnI, PuA, PuB, PuC, PuL, PuM, PuD, PuE, PuN, PuO, PuX. -/

/-! The images of the search's functions: plain Lean, no program. -/
namespace Go.Proofs.Ytcglokippflioaa
def size (x : Int) : Int := if 0 ≤ x then x else -x
def gi (xs : List Int) (i : Int) : Int := xs.getD i.toNat 0
/-- No list of a search grows past this. -/
def LIM : Nat := 1000000000
structure Tr where
  lit : Int
  reason : Int
  level : Int
  deriving DecidableEq
structure Cl where
  lits : List Int
  tag : Int
  deriving DecidableEq
structure St where
  vars : Int
  nf : Nat
  order : List Int
  val : List Int
  tr : List Tr
  cls : List (List Int)
  act : Int → Int
  log : List (List Int)
  steps : Int
def lastLevel (tr : List Tr) : Int := match tr.getLast? with | some t => t.level | none => 0
def backR (lv : Int) : List Int → List Tr → List Int × List Tr
  | val, [] => (val, [])
  | val, t :: r => if t.level > lv then backR lv (val.set (size t.lit).toNat 0) r else (val, t :: r)
/-- Back to a level. -/
def backL (lv : Int) (val : List Int) (tr : List Tr) : List Int × List Tr := ((backR lv val tr.reverse).1, (backR lv val tr.reverse).2.reverse)
theorem backL_nil (lv : Int) (val : List Int) : backL lv val [] = (val, []) := rfl
theorem backL_yes {lv : Int} {val : List Int} {pre : List Tr} {t : Tr} (h : t.level > lv) : backL lv val (pre ++ [t]) = backL lv (val.set (size t.lit).toNat 0) pre := by simp [backL, backR, h]
theorem backL_no {lv : Int} {val : List Int} {pre : List Tr} {t : Tr} (h : ¬ t.level > lv) : backL lv val (pre ++ [t]) = (val, pre ++ [t]) := by simp [backL, backR, h]
def lookL (val : List Int) : List Int → Int → Int → Option (Int × Int × Bool)
  | [], o, l => some (o, l, false)
  | x :: xs, o, l => if 0 ≤ size x ∧ size x < val.length then (if gi val (size x) = x then some (0, 0, true) else if gi val (size x) = 0 then lookL val xs (o + 1) x else lookL val xs o l) else none
def forgetL (val : List Int) : List (List Int) → Nat → (Int → Int) → Option (Int → Int)
  | [], _, act => some act
  | c :: cs, i, act => match lookL val c 0 0 with
    | none => none
    | some (_, _, t) => if c.length ≤ LIM then forgetL val cs (i + 1) (if t = true then (fun j => if j = i then 0 else act j) else act) else none
def scanL (act : Int → Int) (lvl : Int) : List (List Int) → Nat → List Int → List Tr → Bool → Option (Option Nat × List Int × List Tr × Bool)
  | [], _, val, tr, ag => some (none, val, tr, ag)
  | c :: cs, i, val, tr, ag => if act i = 0 then scanL act lvl cs (i + 1) val tr ag else
    match lookL val c 0 0 with
    | none => none
    | some (o, l, t) => if c.length ≤ LIM then
        (if t = true then scanL act lvl cs (i + 1) val tr ag else if 1 < o then scanL act lvl cs (i + 1) val tr ag else if o = 0 then some (some i, val, tr, ag)
         else if 0 ≤ size l ∧ size l < val.length ∧ tr.length < LIM then scanL act lvl cs (i + 1) (val.set (size l).toNat l) (tr ++ [⟨l, i, lvl⟩]) true else none) else none
def propL (cls : List (List Int)) (act : Int → Int) (lvl : Int) : Nat → List Int → List Tr → Option (Int × List Int × List Tr)
  | 0, _, _ => none
  | k + 1, val, tr => match scanL act lvl cls 0 val tr false with
    | none => none
    | some (some i, v, t, _) => some ((i : Int), v, t)
    | some (none, v, t, true) => propL cls act lvl k v t
    | some (none, v, t, false) => some (-1, v, t)
def propK (cls : List (List Int)) (act : Int → Int) (lvl : Int) (k : Nat) : Option (Option Nat × List Int × List Tr × Bool) → Option (Int × List Int × List Tr)
  | none => none
  | some (some i, v, t, _) => some ((i : Int), v, t)
  | some (none, v, t, true) => propL cls act lvl k v t
  | some (none, v, t, false) => some (-1, v, t)
theorem propL_succ (cls : List (List Int)) (act : Int → Int) (lvl : Int) (k : Nat) (val : List Int) (tr : List Tr) : propL cls act lvl (k + 1) val tr = propK cls act lvl k (scanL act lvl cls 0 val tr false) := rfl
def okLits (val : List Int) (tr : List Tr) : Prop := ∀ t ∈ tr, 0 ≤ size t.lit ∧ size t.lit < val.length
instance (val : List Int) (tr : List Tr) : Decidable (okLits val tr) := by unfold okLits; infer_instance
/-- A clause learned and its first literal set. -/
def learnt (s : St) (x : Int) (c : List Int) (lv : Int) : St :=
  { s with val := (backL lv s.val s.tr).1.set (size x).toNat x, tr := (backL lv s.val s.tr).2 ++ [⟨x, s.cls.length, lv⟩], log := s.log ++ [c], cls := s.cls ++ [c], act := fun j => if j = s.cls.length then s.act j + 1 else s.act j }
def conflL (LF : List (List Int) → List Tr → Int → Option (List Int × Int × Bool)) (s : St) (k : Int) : Option (St × Bool) :=
  if s.log.length < LIM then
    if lastLevel s.tr = 0 then some ({ s with log := s.log ++ [[]] }, false)
    else if s.cls.length < LIM ∧ s.tr.length < LIM ∧ (∀ c ∈ s.cls, c.length ≤ LIM) ∧ okLits s.val s.tr ∧ 0 ≤ s.act s.cls.length ∧ s.act s.cls.length ≤ 1 ∧ -LIM ≤ lastLevel s.tr ∧ lastLevel s.tr ≤ LIM then
      match LF s.cls s.tr k with
      | none => none
      | some (_, _, false) => some ({ s with val := (backL (lastLevel s.tr - 1) s.val s.tr).1, tr := (backL (lastLevel s.tr - 1) s.val s.tr).2 }, true)
      | some ([], _, true) => none
      | some (x :: c, lv, true) => if 0 ≤ size x ∧ size x < (backL lv s.val s.tr).1.length ∧ (backL lv s.val s.tr).2.length < LIM ∧ (x :: c).length ≤ LIM then some (learnt s x (x :: c) lv, true) else none
    else none
  else none
def lub (u : Nat) : Nat :=
  if h : u < 2 then u else if 2 ^ (u.log2 + 1) - 1 = u then 2 ^ u.log2 else lub (u - (2 ^ u.log2 - 1))
termination_by u
decreasing_by
  have h1 : 1 ≤ u.log2 := (Nat.le_log2 (by omega)).2 (by omega)
  have h2 : 2 ≤ 2 ^ u.log2 := by
    have := Nat.pow_le_pow_right (n := 2) (by omega) h1
    omega
  omega
def opn (val : List Int) (x : Int) : Bool := gi val (size x) == 0
def negs (n : Nat) : List Int := (List.range n).map fun i : Nat => -((i : Int) + 1)
def rowL (order : List Int) (vars : Nat) (val : List Int) : List Int := order.filter (opn val) ++ (negs vars).filter (opn val)
def begSt (vars : Int) (order : List Int) (fcl : List Cl) (k : Nat) : St :=
  { vars := vars, nf := fcl.length, order := order, val := List.replicate (vars.toNat + 1) 0, tr := [], cls := (fcl.take k).map Cl.lits, act := fun j => if 0 ≤ j ∧ j < k then 1 else 0, log := [], steps := 0 }
def litOk (vars x : Int) : Prop := x ≠ 0 ∧ -vars ≤ x ∧ x ≤ vars
instance (vars x : Int) : Decidable (litOk vars x) := by unfold litOk; infer_instance
def fitC (vars : Int) (l : List Int) : Prop := ∀ i (h : i < l.length), litOk vars l[i] ∧ (0 < i → size (gi l ((i : Int) - 1)) < size l[i])
def fitF (vars : Int) (cls : List Cl) (order : List Int) : Prop := 0 ≤ vars ∧ vars ≤ 4096 ∧ cls.length ≤ 65536 ∧ (∀ c ∈ cls, fitC vars c.lits) ∧ (∀ x ∈ order, litOk vars x) ∧ order.Nodup
def okRun (s : St) : Prop :=
  0 ≤ s.vars ∧ s.vars < LIM ∧ s.val.length = s.vars.toNat + 1 ∧ s.order.length ≤ LIM ∧ s.nf ≤ s.cls.length ∧ s.cls.length < LIM ∧ 0 ≤ s.steps ∧ s.steps ≤ 1152921504606846976 ∧ ∀ x ∈ s.order, 0 ≤ size x ∧ size x < s.val.length
instance (s : St) : Decidable (okRun s) := by unfold okRun; infer_instance
def okNums (left rst lv : Int) : Prop := -1152921504606846976 ≤ left ∧ left ≤ 1152921504606846976 ∧ 0 ≤ rst ∧ rst ≤ 1125899906842624 ∧ 0 ≤ lv ∧ lv ≤ LIM
instance (left rst lv : Int) : Decidable (okNums left rst lv) := by unfold okNums; infer_instance
/-- What becomes of a search behind a conflict. -/
def afterL (left rst : Int) (s2 : St) : Option (Int × Int × Int × St) :=
  if left - 1 ≤ 0 ∧ 0 < lastLevel s2.tr then
    if okLits s2.val s2.tr ∧ s2.nf ≤ s2.cls.length ∧ s2.cls.length ≤ LIM ∧ 0 < s2.val.length ∧ 0 < (backL 0 s2.val s2.tr).1.length then
      match forgetL (backL 0 s2.val s2.tr).1 (s2.cls.drop s2.nf) s2.nf s2.act with
      | none => none
      | some a => some (32 * lub (rst + 1).toNat, rst + 1, 0, { s2 with val := (backL 0 s2.val s2.tr).1, tr := (backL 0 s2.val s2.tr).2, act := a })
    else none
  else some (left - 1, rst, lastLevel s2.tr, s2)
def chooseL (lv : Int) (s : St) : Option (St ⊕ St) :=
  match rowL s.order s.vars.toNat s.val with
  | [] => some (.inl s)
  | x :: _ => if 0 ≤ size x ∧ size x < s.val.length ∧ s.tr.length < LIM then some (.inr { s with val := s.val.set (size x).toNat x, tr := s.tr ++ [⟨x, -1, lv + 1⟩] }) else none
def propS (lv : Int) (s : St) : Option (Int × St) :=
  match propL s.cls s.act lv (s.val.length + 2) s.val s.tr with
  | none => none
  | some (k, v, t) => if v.length = s.val.length then some (k, { s with val := v, tr := t }) else none
def runL (LF : List (List Int) → List Tr → Int → Option (List Int × Int × Bool)) (budget : Int) : Nat → Int → Int → Int → St → Option (Int × St)
  | 0, _, _, _, _ => none
  | k + 1, left, rst, lv, s =>
    if okRun s ∧ okNums left rst lv then
      match propS lv s with
      | none => none
      | some (pk, s1) =>
        if 0 ≤ pk then
          if s1.steps = budget then some (3, s1)
          else match conflL LF { s1 with steps := s1.steps + 1 } pk with
            | none => none
            | some (s2, false) => some (2, s2)
            | some (s2, true) => match afterL left rst s2 with
              | none => none
              | some (l', r', v', s3) => runL LF budget k l' r' v' s3
        else match chooseL lv s1 with
          | none => none
          | some (.inl s2) => some (1, s2)
          | some (.inr s2) => runL LF budget k left rst (lv + 1) s2
    else none
theorem lub_le (u : Nat) : lub u ≤ u := by
  induction u using Nat.strongRecOn with
  | ind x IH =>
    unfold lub
    by_cases h : x < 2
    · rw [dif_pos h]; exact Nat.le_refl _
    · rw [dif_neg h]
      have h1 : 1 ≤ x.log2 := (Nat.le_log2 (by omega)).2 (by omega)
      have h2 : 2 ^ 1 ≤ 2 ^ x.log2 := Nat.pow_le_pow_right (by omega) h1
      have h3 : 2 ^ x.log2 ≤ x := Nat.log2_self_le (by omega)
      generalize 2 ^ x.log2 = q at *
      split
      · exact h3
      · have := IH (x - (q - 1)) (by omega)
        omega
end Go.Proofs.Ytcglokippflioaa

/-! The image of Learn: plain Lean. -/
namespace Go.Proofs.Ytcglokippflioaa
/-- The place of the first that answers yes; -1. -/
def idxI {α : Type} (p : α → Bool) : List α → Int
  | [] => -1
  | x :: xs => if p x then 0 else if idxI p xs < 0 then -1 else idxI p xs + 1
/-- Where a literal's opposite stands. -/
def fAt (tr : List Tr) (x : Int) : Int := idxI (fun t : Tr => t.lit == -x) tr
def isF (tr : List Tr) (x : Int) : Bool := decide (0 ≤ fAt tr x)
def conflB (tr : List Tr) (c : List Int) : Bool := !(c.any fun x => !isF tr x)
def levAt (tr : List Tr) (x : Int) : Int := match tr[(fAt tr x).toNat]? with | some t => t.level | none => 0
def atL (tr : List Tr) (lv : Int) : List Int → Int
  | [] => 0
  | x :: xs => (if isF tr x = true ∧ levAt tr x = lv then 1 else 0) + atL tr lv xs
/-- What a clause marks. -/
def markL (tr : List Tr) (but : Int) : List Int → (Int → Int) → Int → Int
  | [], f => f
  | x :: xs, f => markL tr but xs (if isF tr x = true ∧ x ≠ but then (fun j => if j = fAt tr x then 1 else f j) else f)
/-- The places from which a conflict comes, from the last one on. -/
def coneL (cls : List (List Int)) (tr : List Tr) : Nat → (Int → Int) → List Int
  | 0, _ => []
  | k + 1, f => if f k = 0 then coneL cls tr k f else (k : Int) :: coneL cls tr k (match tr[k]? with
    | some t => if 0 ≤ t.reason then markL tr t.lit (cls.getD t.reason.toNat []) f else f
    | none => f)
def cmpI (x y : Int) : Int := if x < y then -1 else if x > y then 1 else 0
def cmpR (x y : Int) : Int := if cmpI (size x) (size y) ≠ 0 then cmpI (size x) (size y) else cmpI y x
def leOf (cf : Int → Int → Int) (x y : Int) : Bool := !(decide (cf y x < 0))
def compactF : Option Int → List Int → List Int
  | _, [] => []
  | p, x :: xs => if p = some x then compactF (some x) xs else x :: compactF (some x) xs
def goodI (x : Int) : Prop := x ≠ 0 ∧ -4096 ≤ x ∧ x ≤ 4096
instance (x : Int) : Decidable (goodI x) := by unfold goodI; infer_instance
/-- Two clauses resolved. -/
def resolveL (a b : List Int) (v : Int) : Option (List Int) :=
  if 1 ≤ v ∧ v ≤ 4096 ∧ (∀ x ∈ a, goodI x) ∧ (∀ x ∈ b, goodI x) ∧ ((v ∈ a ∧ -v ∈ b) ∨ (-v ∈ a ∧ v ∈ b)) ∧ a.length ≤ LIM ∧ b.length ≤ LIM then
    some (compactF none (((a ++ b).filter fun x => !(x == v || x == -v)).mergeSort (leOf cmpR)))
  else none
def loopL (cls : List (List Int)) (tr : List Tr) (L : Int) : List Int → List Int → Option (List Int)
  | [], c => some c
  | k :: ks, c => if c.length ≤ LIM ∧ (∀ x ∈ c, goodI x) then
      if atL tr L c = 1 then some c else
      match tr[k.toNat]? with
      | none => none
      | some t => if t.level ≠ L ∨ -t.lit ∉ c then loopL cls tr L ks c else
        if 0 ≤ t.reason then
          match cls[t.reason.toNat]? with
          | none => none
          | some r => match resolveL c r (size t.lit) with
            | none => none
            | some c' => loopL cls tr L ks c'
        else none
    else none
def cmpP (tr : List Tr) (x y : Int) : Int := cmpI (max (fAt tr y) 0) (max (fAt tr x) 0)
def toL (tr : List Tr) : List Int → Int → Int
  | [], m => m
  | x :: xs, m => toL tr xs (max m (levAt tr x))
def leI (x y : Int) : Bool := decide (x ≤ y)
/-- What a conflict teaches. -/
def learnL (cls : List (List Int)) (tr : List Tr) (k : Int) : Option (List Int × Int × Bool) :=
  if 0 ≤ k ∧ (∀ c ∈ cls, c.length ≤ LIM ∧ ∀ x ∈ c, goodI x) ∧ (∀ t ∈ tr, t.reason < cls.length ∧ goodI t.lit) then
    match cls[k.toNat]? with
    | none => none
    | some c0 =>
      if conflB tr c0 = false ∨ lastLevel tr = 0 ∨ atL tr (lastLevel tr) c0 = 0 then none
      else match loopL cls tr (lastLevel tr) (coneL cls tr tr.length (markL tr 0 c0 (fun _ => 0))) (compactF none (c0.mergeSort leI)) with
        | none => none
        | some c => if c ≠ [] ∧ (∀ x ∈ c, isF tr x = true ∧ goodI x) ∧ c.Nodup ∧ c.length ≤ LIM then
            some (c.mergeSort (leOf (cmpP tr)), toL tr (c.mergeSort (leOf (cmpP tr))).tail 0, true)
          else none
  else none
end Go.Proofs.Ytcglokippflioaa

/-! Pure facts of literals, assignments, trails. -/
namespace Go.Proofs.Ytcglokippflioaa
/-- No list of distinct numbers below n is longer than n. -/
theorem pigeon : ∀ (n : Nat) (l : List Nat), l.Nodup → (∀ x ∈ l, x < n) → l.length ≤ n := by
  intro n
  induction n with
  | zero =>
    intro l _ h
    cases l with
    | nil => simp
    | cons x l => exact absurd (h x (List.mem_cons_self ..)) (by omega)
  | succ n ih =>
    intro l hn h
    have h1 : (l.filter (fun x => x ≠ n)).length ≤ n := by
      refine ih _ (hn.sublist List.filter_sublist) (fun x hx => ?_)
      simp only [List.mem_filter, decide_eq_true_eq] at hx
      have := h x hx.1
      omega
    have h2 : l.length ≤ (l.filter (fun x => x ≠ n)).length + 1 := by
      clear ih h h1
      induction l with
      | nil => simp
      | cons y l ih =>
        rw [List.nodup_cons] at hn
        by_cases hy : y = n
        · subst hy
          have : l.filter (fun x => x ≠ y) = l := by
            apply List.filter_eq_self.2
            intro a ha
            simp only [decide_eq_true_eq]
            intro e; subst e; exact hn.1 ha
          rw [List.filter_cons, if_neg (by simp), this]; simp
        · rw [List.filter_cons, if_pos (by simpa using hy)]
          have := ih hn.2
          simp only [List.length_cons]; omega
    omega
theorem nodup_map_of {α β : Type} {f : α → β} : ∀ {l : List α}, l.Nodup → (∀ x ∈ l, ∀ y ∈ l, f x = f y → x = y) → (l.map f).Nodup
  | [], _, _ => by simp
  | x :: l, hn, h => by
    rw [List.nodup_cons] at hn
    rw [List.map_cons, List.nodup_cons]
    refine ⟨fun hm => ?_, nodup_map_of hn.2 (fun a ha b hb => h a (List.mem_cons_of_mem _ ha) b (List.mem_cons_of_mem _ hb))⟩
    obtain ⟨y, hy, e⟩ := List.mem_map.1 hm
    have := h x (List.mem_cons_self ..) y (List.mem_cons_of_mem _ hy) e.symm
    subst this
    exact hn.1 hy
theorem size_neg (x : Int) : size (-x) = size x := by unfold size; split <;> split <;> omega
theorem size_pos {n x : Int} (h : litOk n x) : 1 ≤ size x ∧ size x ≤ n := by
  obtain ⟨h0, h1, h2⟩ := h
  unfold size
  split <;> omega
theorem size_eq {x y : Int} (h : size x = size y) : x = y ∨ x = -y := by
  unfold size at h
  split at h <;> split at h <;> omega
theorem litOk_neg {n x : Int} (h : litOk n x) : litOk n (-x) := by obtain ⟨h0, h1, h2⟩ := h; exact ⟨by omega, by omega, by omega⟩
theorem clause_len {n : Nat} {c : List Int} (hn : c.Nodup) (h : ∀ x ∈ c, litOk n x) : c.length ≤ 2 * n + 1 := by
  have := pigeon (2 * n + 1) (c.map fun x : Int => (x + n).toNat) (nodup_map_of hn (fun x hx y hy e => by
    obtain ⟨_, _, _⟩ := h x hx
    obtain ⟨_, _, _⟩ := h y hy
    omega)) (fun k hk => by
      obtain ⟨x, hx, rfl⟩ := List.mem_map.1 hk
      obtain ⟨_, _, _⟩ := h x hx
      omega)
  rwa [List.length_map] at this
theorem gi_set_self {l : List Int} {i : Int} {x : Int} (h0 : 0 ≤ i) (h : i < l.length) : gi (l.set i.toNat x) i = x := by
  unfold gi
  rw [List.getD_eq_getElem?_getD, List.getElem?_set_self (by omega)]; rfl
theorem gi_set_ne {l : List Int} {i j : Int} {x : Int} (h0 : 0 ≤ i) (hj : 0 ≤ j) (h : i ≠ j) : gi (l.set i.toNat x) j = gi l j := by
  unfold gi
  rw [List.getD_eq_getElem?_getD, List.getElem?_set_ne (by omega), List.getD_eq_getElem?_getD]

/-- A literal is true, is false in a trail. -/
def TrT (r : List Tr) (x : Int) : Prop := ∃ t ∈ r, t.lit = x
def TrF (r : List Tr) (x : Int) : Prop := ∃ t ∈ r, t.lit = -x
def levR : List Tr → Int
  | [] => 0
  | t :: _ => t.level
def stepOK (n : Nat) (row : List Int) (cls : List (List Int)) (t : Tr) (r : List Tr) : Prop :=
  litOk n t.lit ∧ (∀ u ∈ r, size u.lit ≠ size t.lit) ∧
  ((t.reason = -1 ∧ t.level = levR r + 1 ∧ ∃ pre post, row = pre ++ t.lit :: post ∧ ∀ y ∈ pre, ∃ u ∈ r, size u.lit = size y) ∨
   (0 ≤ t.reason ∧ t.level = levR r ∧ ∃ c, cls[t.reason.toNat]? = some c ∧ t.lit ∈ c ∧ ∀ y ∈ c, y ≠ t.lit → TrF r y))
/-- A trail, its last place first. -/
def TrOK (n : Nat) (row : List Int) (cls : List (List Int)) : List Tr → Prop
  | [] => True
  | t :: r => stepOK n row cls t r ∧ TrOK n row cls r
structure ValOK (n : Nat) (val : List Int) (r : List Tr) : Prop where
  len : val.length = n + 1
  on : ∀ t ∈ r, gi val (size t.lit) = t.lit
  off : ∀ v : Int, 1 ≤ v → v ≤ n → (∀ t ∈ r, size t.lit ≠ v) → gi val v = 0
section
variable {n : Nat} {row : List Int} {cls : List (List Int)} {r : List Tr} {val : List Int}
theorem TrOK.lits (h : TrOK n row cls r) : ∀ t ∈ r, litOk n t.lit := by
  induction r with
  | nil => intro t ht; cases ht
  | cons u r ih =>
    intro t ht
    rcases List.mem_cons.1 ht with rfl | ht
    · exact h.1.1
    · exact ih h.2 t ht
theorem TrOK.lev (h : TrOK n row cls r) : 0 ≤ levR r ∧ ∀ t ∈ r, 0 ≤ t.level ∧ t.level ≤ levR r := by
  induction r with
  | nil => exact ⟨Int.le_refl _, fun t ht => by cases ht⟩
  | cons u r ih =>
    obtain ⟨h1, h2⟩ := ih h.2
    have hu : levR r ≤ u.level := by
      rcases h.1.2.2 with ⟨_, e, _⟩ | ⟨_, e, _⟩ <;> omega
    refine ⟨by show 0 ≤ u.level; omega, fun t ht => ?_⟩
    show 0 ≤ t.level ∧ t.level ≤ u.level
    rcases List.mem_cons.1 ht with rfl | ht
    · omega
    · have := h2 t ht; omega
theorem TrOK.inj (h : TrOK n row cls r) : ∀ t ∈ r, ∀ u ∈ r, size t.lit = size u.lit → t = u := by
  induction r with
  | nil => intro t ht; cases ht
  | cons v r ih =>
    intro t ht u hu e
    rcases List.mem_cons.1 ht with e1 | ht1 <;> rcases List.mem_cons.1 hu with e2 | hu1
    · rw [e1, e2]
    · subst e1; exact absurd e.symm (h.1.2.1 u hu1)
    · subst e2; exact absurd e (h.1.2.1 t ht1)
    · exact ih h.2 t ht1 u hu1 e
theorem TrOK.nodup (h : TrOK n row cls r) : (r.map fun t => size t.lit).Nodup := by
  induction r with
  | nil => simp
  | cons v r ih =>
    rw [List.map_cons, List.nodup_cons]
    refine ⟨fun hm => ?_, ih h.2⟩
    obtain ⟨u, hu, e⟩ := List.mem_map.1 hm
    exact h.1.2.1 u hu e
theorem TrOK.length (h : TrOK n row cls r) : r.length ≤ n := by
  have := pigeon n (r.map fun t => (size t.lit - 1).toNat) (by
    have h1 := h.nodup
    have h2 : (r.map fun t => (size t.lit - 1).toNat) = (r.map fun t => size t.lit).map (fun v => (v - 1).toNat) := by simp
    rw [h2]
    refine nodup_map_of h1 (fun x hx y hy e => ?_)
    obtain ⟨t, ht, rfl⟩ := List.mem_map.1 hx
    obtain ⟨u, hu, rfl⟩ := List.mem_map.1 hy
    have := size_pos (h.lits t ht)
    have := size_pos (h.lits u hu)
    omega) (fun k hk => by
      obtain ⟨t, ht, rfl⟩ := List.mem_map.1 hk
      have := size_pos (h.lits t ht)
      omega)
  rwa [List.length_map] at this
theorem TrOK.mono (more : List (List Int)) (h : TrOK n row cls r) : TrOK n row (cls ++ more) r := by
  induction r with
  | nil => trivial
  | cons t r ih =>
    refine ⟨⟨h.1.1, h.1.2.1, ?_⟩, ih h.2⟩
    rcases h.1.2.2 with h | ⟨h0, h1, c, hc, h2⟩
    · exact .inl h
    · exact .inr ⟨h0, h1, c, by rw [List.getElem?_append_left (List.getElem?_eq_some_iff.1 hc).1]; exact hc, h2⟩
theorem TrOK.not_both (h : TrOK n row cls r) {x : Int} (h1 : TrT r x) (h2 : TrF r x) : False := by
  obtain ⟨t, ht, e1⟩ := h1
  obtain ⟨u, hu, e2⟩ := h2
  have := h.inj t ht u hu (by rw [e1, e2, size_neg])
  subst this
  have := (h.lits t ht).1
  omega
theorem TrOK.tail {t : Tr} (h : TrOK n row cls (t :: r)) : TrOK n row cls r := h.2

theorem ValOK.tru (h : ValOK n val r) (_hr : TrOK n row cls r) {x : Int} (hx : litOk n x) : gi val (size x) = x ↔ TrT r x := by
  constructor
  · intro e
    by_cases hh : ∀ t ∈ r, size t.lit ≠ size x
    · have := h.off (size x) (size_pos hx).1 (size_pos hx).2 hh
      rw [this] at e
      exact absurd e.symm hx.1
    · have ⟨t, ht⟩ : ∃ t, t ∈ r ∧ size t.lit = size x := by
        apply Classical.byContradiction
        intro hc
        exact hh fun t ht e => hc ⟨t, ht, e⟩
      refine ⟨t, ht.1, ?_⟩
      have := h.on t ht.1
      rw [ht.2, e] at this
      exact this.symm
  · rintro ⟨t, ht, rfl⟩
    exact h.on t ht
theorem ValOK.zero (h : ValOK n val r) (hr : TrOK n row cls r) {x : Int} (hx : litOk n x) : gi val (size x) = 0 ↔ ∀ t ∈ r, size t.lit ≠ size x := by
  constructor
  · intro e t ht e2
    have := h.on t ht
    rw [e2, e] at this
    exact (hr.lits t ht).1 this.symm
  · intro hh
    exact h.off (size x) (size_pos hx).1 (size_pos hx).2 hh
theorem ValOK.fls (h : ValOK n val r) (hr : TrOK n row cls r) {x : Int} (hx : litOk n x) (h1 : gi val (size x) ≠ x) (h2 : gi val (size x) ≠ 0) : TrF r x := by
  have ⟨t, ht, e⟩ : ∃ t, t ∈ r ∧ size t.lit = size x := by
    apply Classical.byContradiction
    intro hc
    exact h2 ((h.zero hr hx).2 fun t ht e => hc ⟨t, ht, e⟩)
  refine ⟨t, ht, ?_⟩
  rcases size_eq e with e2 | e2
  · exact absurd ((h.tru hr hx).2 ⟨t, ht, e2⟩) h1
  · exact e2
theorem ValOK.push (h : ValOK n val r) {t : Tr} (ht : litOk n t.lit) (hr : TrOK n row cls r) (hd : ∀ u ∈ r, size u.lit ≠ size t.lit) : ValOK n (val.set (size t.lit).toNat t.lit) (t :: r) := by
  have hs := size_pos ht
  refine ⟨by rw [List.length_set]; exact h.len, fun u hu => ?_, fun v hv hn hh => ?_⟩
  · rcases List.mem_cons.1 hu with rfl | hu
    · exact gi_set_self (by omega) (by rw [h.len]; omega)
    · rw [gi_set_ne (by omega) (by have := size_pos (hr.lits u hu); omega) (fun e => hd u hu e.symm)]
      exact h.on u hu
  · rw [gi_set_ne (by omega) (by omega) (hh t (List.mem_cons_self ..))]
    exact h.off v hv hn fun u hu => hh u (List.mem_cons_of_mem _ hu)
theorem ValOK.pop {t : Tr} (h : ValOK n val (t :: r)) (hr : TrOK n row cls (t :: r)) : ValOK n (val.set (size t.lit).toNat 0) r := by
  have hs := size_pos hr.1.1
  refine ⟨by rw [List.length_set]; exact h.len, fun u hu => ?_, fun v hv hn hh => ?_⟩
  · rw [gi_set_ne (by omega) (by have := size_pos (hr.2.lits u hu); omega) (fun e => hr.1.2.1 u hu e.symm)]
    exact h.on u (List.mem_cons_of_mem _ hu)
  · by_cases e : size t.lit = v
    · subst e
      exact gi_set_self (by omega) (by rw [h.len]; omega)
    · rw [gi_set_ne (by omega) (by omega) e]
      refine h.off v hv hn fun u hu => ?_
      rcases List.mem_cons.1 hu with rfl | hu
      · exact e
      · exact hh u hu
/-- A trail cut back to a level. -/
def cutR (lv : Int) (r : List Tr) : List Tr := r.dropWhile fun t => decide (t.level > lv)
theorem backR_eq (lv : Int) (h : ValOK n val r) (hr : TrOK n row cls r) : (backR lv val r).2 = cutR lv r ∧ ValOK n (backR lv val r).1 (cutR lv r) := by
  induction r generalizing val with
  | nil => exact ⟨rfl, h⟩
  | cons t r ih =>
    unfold backR cutR
    by_cases hl : t.level > lv
    · rw [if_pos hl, List.dropWhile_cons, if_pos (by simpa using hl)]
      exact ih (h.pop hr) hr.2
    · rw [if_neg hl, List.dropWhile_cons, if_neg (by simpa using hl)]
      exact ⟨rfl, h⟩
theorem cutR_ok (lv : Int) (hr : TrOK n row cls r) : TrOK n row cls (cutR lv r) := by
  induction r with
  | nil => trivial
  | cons t r ih =>
    unfold cutR
    by_cases hl : t.level > lv
    · rw [List.dropWhile_cons, if_pos (by simpa using hl)]; exact ih hr.2
    · rw [List.dropWhile_cons, if_neg (by simpa using hl)]; exact hr
theorem cutR_mem (lv : Int) (hr : TrOK n row cls r) (t : Tr) : t ∈ cutR lv r ↔ t ∈ r ∧ t.level ≤ lv := by
  induction r with
  | nil => simp [cutR]
  | cons u r ih =>
    unfold cutR
    by_cases hl : u.level > lv
    · rw [List.dropWhile_cons, if_pos (by simpa using hl)]
      have := ih hr.2
      unfold cutR at this
      rw [this, List.mem_cons]
      constructor
      · rintro ⟨h1, h2⟩; exact ⟨.inr h1, h2⟩
      · rintro ⟨rfl | h1, h2⟩
        · omega
        · exact ⟨h1, h2⟩
    · rw [List.dropWhile_cons, if_neg (by simpa using hl)]
      constructor
      · intro h
        refine ⟨h, ?_⟩
        have := (hr.lev).2 t h
        have : t.level ≤ u.level := this.2
        omega
      · exact fun h => h.1
theorem cutR_lev (lv : Int) (hr : TrOK n row cls r) : levR (cutR lv r) ≤ lv ∨ levR (cutR lv r) = 0 := by
  cases hc : cutR lv r with
  | nil => exact .inr rfl
  | cons u l =>
    have := (cutR_mem lv hr u).1 (by rw [hc]; exact List.mem_cons_self ..)
    exact .inl this.2
theorem levR_cut {lv : Int} (hr : TrOK n row cls r) {t : Tr} (ht : t ∈ r) (e : t.level = lv) : levR (cutR lv r) = lv := by
  have h1 := (cutR_mem lv hr t).2 ⟨ht, by omega⟩
  have h2 := ((cutR_ok lv hr).lev).2 t h1
  have h3 := ((cutR_ok lv hr).lev).1
  have h4 := (hr.lits t ht)
  have h5 := (hr.lev).2 t ht
  rcases cutR_lev lv hr with h | h <;> omega
end
theorem lastLevel_rev (tr : List Tr) : lastLevel tr = levR tr.reverse := by
  unfold lastLevel
  rcases List.eq_nil_or_concat tr with rfl | ⟨pre, t, rfl⟩
  · rfl
  · simp [levR]
end Go.Proofs.Ytcglokippflioaa

/-! Pure facts of propagation. -/
namespace Go.Proofs.Ytcglokippflioaa
def opens (val : List Int) (c : List Int) : List Int := c.filter fun x => gi val (size x) == 0
theorem lookL_eq {val : List Int} : ∀ (c : List Int), (∀ x ∈ c, 0 ≤ size x ∧ size x < val.length) → ∀ o l, lookL val c o l = some (if c.any (fun x => gi val (size x) == x) then (0, 0, true) else (o + (opens val c).length, (opens val c).getLastD l, false))
  | [], _, o, l => by simp [lookL, opens]
  | x :: c, h, o, l => by
    have h1 := h x (List.mem_cons_self ..)
    have ih := lookL_eq c (fun y hy => h y (List.mem_cons_of_mem _ hy))
    unfold lookL
    rw [if_pos h1]
    by_cases hx : gi val (size x) = x
    · rw [if_pos hx, List.any_cons]
      simp [hx]
    · rw [if_neg hx]
      have hx' : (gi val (size x) == x) = false := by simpa using hx
      by_cases h0 : gi val (size x) = 0
      · rw [if_pos h0, ih, List.any_cons, hx', Bool.false_or]
        have e : opens val (x :: c) = x :: opens val c := by unfold opens; rw [List.filter_cons, if_pos (by simpa using h0)]
        rw [e]
        by_cases ha : (c.any fun x => gi val (size x) == x) = true
        · rw [if_pos ha, if_pos ha]
        · rw [if_neg ha, if_neg ha]
          have e2 : o + 1 + ((opens val c).length : Int) = o + ((x :: opens val c).length : Int) := by simp; omega
          rw [e2]
          congr 3
          cases opens val c with
          | nil => rfl
          | cons a l2 => simp [List.getLast?_cons]
      · rw [if_neg h0, ih, List.any_cons, hx', Bool.false_or]
        have e : opens val (x :: c) = opens val c := by unfold opens; rw [List.filter_cons, if_neg (by simpa using h0)]
        rw [e]
/-- A literal is open. -/
def TrO (r : List Tr) (x : Int) : Prop := ∀ t ∈ r, size t.lit ≠ size x
theorem TrO.not_F {r : List Tr} {x : Int} (h : TrO r x) (h2 : TrF r x) : False := by
  obtain ⟨t, ht, e⟩ := h2
  exact h t ht (by rw [e, size_neg])
def Quiet2 (r : List Tr) (c : List Int) : Prop := (∃ x ∈ c, TrT r x) ∨ ∃ x ∈ c, ∃ y ∈ c, x ≠ y ∧ TrO r x ∧ TrO r y
theorem look_cases {n : Nat} {row : List Int} {cls : List (List Int)} {r : List Tr} {val : List Int} (h : ValOK n val r) (hr : TrOK n row cls r) {c : List Int} (hn : c.Nodup) (hl : ∀ x ∈ c, litOk n x) :
    ∃ o l t, lookL val c 0 0 = some (o, l, t) ∧ ((t = true ∧ ∃ x ∈ c, TrT r x) ∨ (t = false ∧ 1 < o ∧ Quiet2 r c) ∨ (t = false ∧ o = 0 ∧ ∀ x ∈ c, TrF r x) ∨ (t = false ∧ o = 1 ∧ l ∈ c ∧ TrO r l ∧ ∀ y ∈ c, y ≠ l → TrF r y)) := by
  have hb : ∀ x ∈ c, 0 ≤ size x ∧ size x < val.length := fun x hx => by
    have := size_pos (hl x hx)
    rw [h.len]; omega
  rw [lookL_eq c hb]
  by_cases ha : (c.any fun x => gi val (size x) == x) = true
  · rw [if_pos ha]
    obtain ⟨x, hx, e⟩ := List.any_eq_true.1 ha
    exact ⟨_, _, _, rfl, .inl ⟨rfl, x, hx, (h.tru hr (hl x hx)).1 (by simpa using e)⟩⟩
  · rw [if_neg ha]
    have hnt : ∀ x ∈ c, gi val (size x) ≠ x := fun x hx e => ha (List.any_eq_true.2 ⟨x, hx, by simpa using e⟩)
    have hmem : ∀ x, x ∈ opens val c ↔ x ∈ c ∧ gi val (size x) = 0 := fun x => by unfold opens; rw [List.mem_filter]; simp
    have hnd : (opens val c).Nodup := hn.sublist List.filter_sublist
    refine ⟨_, _, _, rfl, .inr ?_⟩
    rw [Int.zero_add]
    match ho : opens val c with
    | [] =>
      refine .inr (.inl ⟨rfl, rfl, fun x hx => h.fls hr (hl x hx) (hnt x hx) fun e => ?_⟩)
      have := (hmem x).2 ⟨hx, e⟩
      rw [ho] at this; cases this
    | [x] =>
      have hx := (hmem x).1 (by rw [ho]; simp)
      refine .inr (.inr ⟨rfl, rfl, hx.1, (h.zero hr (hl x hx.1)).1 hx.2, fun y hy hne => h.fls hr (hl y hy) (hnt y hy) fun e => ?_⟩)
      have := (hmem y).2 ⟨hy, e⟩
      rw [ho] at this
      exact hne (by simpa using this)
    | x :: y :: l =>
      have hx := (hmem x).1 (by rw [ho]; simp)
      have hy := (hmem y).1 (by rw [ho]; simp)
      rw [ho, List.nodup_cons] at hnd
      exact .inl ⟨rfl, by simp only [List.length_cons]; omega, .inr ⟨x, hx.1, y, hy.1, fun e => hnd.1 (by rw [e]; simp), (h.zero hr (hl x hx.1)).1 hx.2, (h.zero hr (hl y hy.1)).1 hy.2⟩⟩
section
variable {n : Nat} {row : List Int} {cls : List (List Int)} {act : Int → Int} {lvl : Int}
theorem scan_ok (hn : n ≤ 4096) (hlits : ∀ c ∈ cls, c.Nodup ∧ ∀ x ∈ c, litOk n x) : ∀ (cs : List (List Int)) (i : Nat) (val : List Int) (tr : List Tr) (ag : Bool), cls.drop i = cs → ValOK n val tr.reverse → TrOK n row cls tr.reverse → levR tr.reverse = lvl →
    ∃ q v' t' ag', scanL act lvl cs i val tr ag = some (q, v', t', ag') ∧ ValOK n v' t'.reverse ∧ TrOK n row cls t'.reverse ∧ levR t'.reverse = lvl ∧
      (∃ news, t' = tr ++ news ∧ (∀ t ∈ news, t.level = lvl) ∧ (ag' = true → ag = true ∨ news ≠ []) ∧ (ag' = false → ag = false ∧ news = [])) ∧
      (∀ k, q = some k → ∃ c, cls[k]? = some c ∧ act k ≠ 0 ∧ ∀ x ∈ c, TrF t'.reverse x) ∧
      (q = none → ag' = false → ∀ (k : Nat) c, i ≤ k → cls[k]? = some c → act k ≠ 0 → Quiet2 tr.reverse c) := by
  intro cs
  induction cs with
  | nil =>
    intro i val tr ag hd hv ht hl
    refine ⟨none, val, tr, ag, rfl, hv, ht, hl, ⟨[], by simp, (by intro t ht; cases ht), fun h => .inl h, fun h => ⟨h, rfl⟩⟩, (by intro k hk; cases hk), fun _ _ k c hk hc => ?_⟩
    have := List.drop_eq_nil_iff.1 hd
    have := (List.getElem?_eq_some_iff.1 hc).1
    omega
  | cons c cs ih =>
    intro i val tr ag hd hv ht hl
    have hi : i < cls.length := by
      apply Classical.byContradiction
      intro h
      rw [List.drop_eq_nil_of_le (by omega)] at hd
      cases hd
    rw [List.drop_eq_getElem_cons hi] at hd
    injection hd with hc hd
    have hci : cls[i]? = some c := by rw [List.getElem?_eq_getElem hi, hc]
    obtain ⟨hcn, hcl⟩ := hlits c (List.mem_of_getElem? hci)
    have hcL : c.length ≤ LIM := by have := clause_len hcn hcl; unfold LIM; omega
    -- going on with nothing done
    have skip : (act i ≠ 0 → Quiet2 tr.reverse c) → ∃ q v' t' ag', scanL act lvl cs (i + 1) val tr ag = some (q, v', t', ag') ∧ ValOK n v' t'.reverse ∧ TrOK n row cls t'.reverse ∧ levR t'.reverse = lvl ∧
      (∃ news, t' = tr ++ news ∧ (∀ t ∈ news, t.level = lvl) ∧ (ag' = true → ag = true ∨ news ≠ []) ∧ (ag' = false → ag = false ∧ news = [])) ∧
      (∀ k, q = some k → ∃ c, cls[k]? = some c ∧ act k ≠ 0 ∧ ∀ x ∈ c, TrF t'.reverse x) ∧
      (q = none → ag' = false → ∀ (k : Nat) c, i ≤ k → cls[k]? = some c → act k ≠ 0 → Quiet2 tr.reverse c) := by
      intro hq
      obtain ⟨q, v', t', ag', h1, h2, h3, h4, h5, h6, h7⟩ := ih (i + 1) val tr ag hd hv ht hl
      refine ⟨q, v', t', ag', h1, h2, h3, h4, h5, h6, fun e1 e2 k c' hk hc' ha => ?_⟩
      by_cases hki : k = i
      · subst hki
        rw [hci] at hc'
        cases hc'
        exact hq ha
      · exact h7 e1 e2 k c' (by omega) hc' ha
    unfold scanL
    by_cases ha : act i = 0
    · rw [if_pos ha]
      exact skip (fun h => absurd ha h)
    · rw [if_neg ha]
      obtain ⟨o, l, t, hL, hcase⟩ := look_cases hv ht hcn hcl
      rw [hL]
      simp only
      rw [if_pos hcL]
      rcases hcase with ⟨rfl, hq⟩ | ⟨rfl, ho, hq⟩ | ⟨rfl, rfl, hq⟩ | ⟨rfl, rfl, hq1, hq2, hq3⟩
      · rw [if_pos rfl]
        exact skip (fun _ => .inl hq)
      · rw [if_neg (by decide), if_pos ho]
        exact skip (fun _ => hq)
      · rw [if_neg (by decide), if_neg (by decide), if_pos rfl]
        refine ⟨some i, val, tr, ag, rfl, hv, ht, hl, ⟨[], by simp, (by intro t ht; cases ht), fun h => .inl h, fun h => ⟨h, rfl⟩⟩, fun k hk => ?_, fun h => by cases h⟩
        cases hk
        exact ⟨c, hci, ha, hq⟩
      · rw [if_neg (by decide), if_neg (by decide), if_neg (by decide)]
        have hs := size_pos (hcl l hq1)
        have hlen := ht.length
        rw [List.length_reverse] at hlen
        rw [if_pos ⟨by omega, by rw [hv.len]; omega, by unfold LIM; omega⟩]
        have hv2 := hv.push (t := ⟨l, i, lvl⟩) (hcl l hq1) ht hq2
        have ht2 : TrOK n row cls (⟨l, i, lvl⟩ :: tr.reverse) := ⟨⟨hcl l hq1, hq2, .inr ⟨by show (0 : Int) ≤ (i : Int); omega, hl.symm, c, by show cls[((i : Int)).toNat]? = _; rw [Int.toNat_natCast]; exact hci, hq1, hq3⟩⟩, ht⟩
        have er : (tr ++ [(⟨l, (i : Int), lvl⟩ : Tr)]).reverse = ⟨l, i, lvl⟩ :: tr.reverse := by simp
        obtain ⟨q, v', t', ag', h1, h2, h3, h4, ⟨news, h5, h6, _, h8⟩, h9, h10⟩ := ih (i + 1) (val.set (size l).toNat l) (tr ++ [⟨l, i, lvl⟩]) true hd (by rw [er]; exact hv2) (by rw [er]; exact ht2) (by rw [er]; rfl)
        refine ⟨q, v', t', ag', h1, h2, h3, h4, ⟨⟨l, i, lvl⟩ :: news, by rw [h5]; simp, ?_, fun _ => .inr (by simp), fun h => ?_⟩, h9, fun _ h2 => ?_⟩
        · intro t ht
          rcases List.mem_cons.1 ht with rfl | ht
          · rfl
          · exact h6 t ht
        · have := (h8 h).1; cases this
        · have := (h8 h2).1; cases this
theorem prop_ok (hn : n ≤ 4096) (hlits : ∀ c ∈ cls, c.Nodup ∧ ∀ x ∈ c, litOk n x) : ∀ (fuel : Nat) (val : List Int) (tr : List Tr), n < fuel + tr.length → ValOK n val tr.reverse → TrOK n row cls tr.reverse → levR tr.reverse = lvl →
    ∃ pk v' t', propL cls act lvl fuel val tr = some (pk, v', t') ∧ ValOK n v' t'.reverse ∧ TrOK n row cls t'.reverse ∧ levR t'.reverse = lvl ∧ (∃ news, t' = tr ++ news ∧ ∀ t ∈ news, t.level = lvl) ∧
      ((0 ≤ pk ∧ ∃ c, cls[pk.toNat]? = some c ∧ act pk ≠ 0 ∧ ∀ x ∈ c, TrF t'.reverse x) ∨ (pk = -1 ∧ ∀ (k : Nat) c, cls[k]? = some c → act k ≠ 0 → Quiet2 t'.reverse c)) := by
  intro fuel
  induction fuel with
  | zero =>
    intro val tr hf hv ht hl
    have := ht.length
    rw [List.length_reverse] at this
    omega
  | succ fuel ih =>
    intro val tr hf hv ht hl
    obtain ⟨q, v', t', ag', h1, h2, h3, h4, ⟨news, h5, h6, h7, h8⟩, h9, h10⟩ := scan_ok (act := act) hn hlits cls 0 val tr false rfl hv ht hl
    unfold propL
    rw [h1]
    cases q with
    | some k =>
      obtain ⟨c, hc, ha, hx⟩ := h9 k rfl
      exact ⟨k, v', t', rfl, h2, h3, h4, ⟨news, h5, h6⟩, .inl ⟨by omega, c, by rw [Int.toNat_natCast]; exact hc, ha, hx⟩⟩
    | none =>
      cases ag' with
      | true =>
        have hne : news ≠ [] := by
          rcases h7 rfl with h | h
          · cases h
          · exact h
        have hlen : 0 < news.length := List.length_pos_iff.2 hne
        obtain ⟨pk, v2, t2, g1, g2, g3, g4, ⟨news2, g5, g6⟩, g7⟩ := ih v' t' (by rw [h5, List.length_append]; omega) h2 h3 h4
        refine ⟨pk, v2, t2, g1, g2, g3, g4, ⟨news ++ news2, by rw [g5, h5]; simp, fun t ht => ?_⟩, g7⟩
        rcases List.mem_append.1 ht with h | h
        · exact h6 t h
        · exact g6 t h
      | false =>
        have hnil := (h8 rfl).2
        subst hnil
        rw [List.append_nil] at h5
        subst h5
        exact ⟨-1, v', _, rfl, h2, h3, h4, ⟨[], by simp, by intro t ht; cases ht⟩, .inr ⟨rfl, fun k c hc ha => h10 rfl rfl k c (Nat.zero_le _) hc ha⟩⟩
end
end Go.Proofs.Ytcglokippflioaa

/-! Pure facts of a search: what holds at the head of each round. -/
namespace Go.Proofs.Ytcglokippflioaa
def sat (a : Int → Int) (c : List Int) : Prop := ∃ x ∈ c, a (size x) = x
def Tot (n : Nat) (a : Int → Int) : Prop := ∀ v : Int, 1 ≤ v → v ≤ n → a v = v ∨ a v = -v
def isModel (n : Nat) (cls : List (List Int)) (a : Int → Int) : Prop := Tot n a ∧ ∀ c ∈ cls, sat a c
/-- b is not ahead of a. -/
def ahead (row : List Int) (a b : Int → Int) : Prop := ∃ pre l post, row = pre ++ l :: post ∧ (∀ y ∈ pre, a (size y) = b (size y)) ∧ a (size l) = l ∧ b (size l) ≠ l
def code : Nat → List Int → Nat
  | 0, _ => 0
  | k + 1, c => 4 * code k c + (if ((k : Int) + 1) ∈ c then 1 else 0) + (if (-((k : Int) + 1)) ∈ c then 2 else 0)
theorem code_lt (n : Nat) (c : List Int) : code n c < 4 ^ n := by
  induction n with
  | zero => simp [code]
  | succ n ih =>
    unfold code
    rw [Nat.pow_succ]
    split <;> split <;> omega
theorem code_inj {n : Nat} {c d : List Int} (h : code n c = code n d) : ∀ y, litOk n y → (y ∈ c ↔ y ∈ d) := by
  induction n with
  | zero => intro y hy; obtain ⟨h0, h1, h2⟩ := hy; omega
  | succ n ih =>
    unfold code at h
    have h1 : code n c = code n d ∧ (((n : Int) + 1) ∈ c ↔ ((n : Int) + 1) ∈ d) ∧ ((-((n : Int) + 1)) ∈ c ↔ (-((n : Int) + 1)) ∈ d) := by
      by_cases h1 : ((n : Int) + 1) ∈ c <;> by_cases h2 : ((n : Int) + 1) ∈ d <;> by_cases h3 : (-((n : Int) + 1)) ∈ c <;> by_cases h4 : (-((n : Int) + 1)) ∈ d <;>
        simp only [h1, h2, h3, h4, if_true, if_false] at h <;> refine ⟨by omega, ?_, ?_⟩ <;> first | (simp only [h1, h2]; done) | (simp only [h3, h4]; done) | omega
    obtain ⟨h1, h2, h3⟩ := h1
    intro y hy
    obtain ⟨g0, g1, g2⟩ := hy
    by_cases e : y = (n : Int) + 1
    · rw [e]; exact h2
    · by_cases e2 : y = -((n : Int) + 1)
      · rw [e2]; exact h3
      · exact ih h1 y ⟨g0, by omega, by omega⟩
/-- At a level a clause is true, or two of its literals are not false. -/
def Two (r : List Tr) (j : Int) (c : List Int) : Prop :=
  (∃ x ∈ c, ∃ t ∈ r, t.lit = x ∧ t.level ≤ j) ∨ ∃ x ∈ c, ∃ y ∈ c, x ≠ y ∧ (∀ t ∈ r, t.lit = -x → j < t.level) ∧ (∀ t ∈ r, t.lit = -y → j < t.level)
theorem Two.ext {r : List Tr} {j : Int} {c : List Int} (h : Two r j c) (news : List Tr) (hn : ∀ t ∈ news, j < t.level) : Two (news ++ r) j c := by
  rcases h with ⟨x, hx, t, ht, h⟩ | ⟨x, hx, y, hy, hne, h1, h2⟩
  · exact .inl ⟨x, hx, t, List.mem_append_right _ ht, h⟩
  · refine .inr ⟨x, hx, y, hy, hne, fun t ht e => ?_, fun t ht e => ?_⟩
    · rcases List.mem_append.1 ht with h | h
      · exact hn t h
      · exact h1 t h e
    · rcases List.mem_append.1 ht with h | h
      · exact hn t h
      · exact h2 t h e
theorem Two.sub {r r' : List Tr} {j : Int} {c : List Int} (h : Two r j c) (h1 : ∀ t ∈ r, t.level ≤ j → t ∈ r') (h2 : ∀ t ∈ r', t ∈ r) : Two r' j c := by
  rcases h with ⟨x, hx, t, ht, h⟩ | ⟨x, hx, y, hy, hne, g1, g2⟩
  · exact .inl ⟨x, hx, t, h1 t ht h.2, h⟩
  · exact .inr ⟨x, hx, y, hy, hne, fun t ht e => g1 t (h2 t ht) e, fun t ht e => g2 t (h2 t ht) e⟩
structure SG (n : Nat) (order : List Int) (fcl : List (List Int)) (s : St) : Prop where
  vars : s.vars = n
  ord : s.order = order
  nf : s.nf ≤ fcl.length
  cls : ∃ L, s.cls = fcl ++ L ∧ (L.map (code n)).Nodup
  lits : ∀ c ∈ s.cls, c.Nodup ∧ ∀ x ∈ c, litOk n x
  sound : ∀ a, isModel n fcl a → ∀ c ∈ s.cls, sat a c
  tr : TrOK n (order ++ negs n) s.cls s.tr.reverse
  val : ValOK n s.val s.tr.reverse
  act1 : ∀ (i : Nat) c, s.cls[i]? = some c → s.act i = 1 ∨ (s.act i = 0 ∧ ∃ x ∈ c, ∃ t ∈ s.tr.reverse, t.lit = x ∧ t.level = 0)
  act0 : ∀ i : Nat, s.cls.length ≤ i → s.act i = 0
  closed : ∀ j : Int, 0 ≤ j → j < levR s.tr.reverse → ∀ (i : Nat) c, s.cls[i]? = some c → s.act i ≠ 0 → Two s.tr.reverse j c
  log : s.log.length + fcl.length = s.cls.length
/-- What a learned clause is. -/
structure LearnSpec (n : Nat) (fcl : List (List Int)) (r : List Tr) (x : Int) (c : List Int) (to : Int) : Prop where
  nodup : (x :: c).Nodup
  fls : ∀ y ∈ x :: c, TrF r y
  sound : ∀ a, isModel n fcl a → sat a (x :: c)
  top : ∃ t ∈ r, t.lit = -x ∧ t.level = levR r
  low : ∀ y ∈ c, ∀ t ∈ r, t.lit = -y → t.level ≤ to
  to0 : 0 ≤ to ∧ to < levR r
  hit : to = 0 ∨ ∃ y ∈ c, ∃ t ∈ r, t.lit = -y ∧ t.level = to
def LearnGood (LF : List (List Int) → List Tr → Int → Option (List Int × Int × Bool)) (n : Nat) (order : List Int) (fcl : List (List Int)) : Prop :=
  ∀ (s : St) (k : Nat) (c : List Int), SG n order fcl s → 1 ≤ levR s.tr.reverse → s.cls[k]? = some c → (∀ x ∈ c, TrF s.tr.reverse x) → (∃ x ∈ c, ∃ t ∈ s.tr.reverse, t.lit = -x ∧ t.level = levR s.tr.reverse) →
    ∃ x c' to, LF s.cls s.tr k = some (x :: c', to, true) ∧ LearnSpec n fcl s.tr.reverse x c' to
section
variable {n : Nat} {order : List Int} {fcl : List (List Int)} {s : St}
theorem levR_len {row : List Int} {cls : List (List Int)} {r : List Tr} (h : TrOK n row cls r) : levR r ≤ r.length := by
  induction r with
  | nil => simp [levR]
  | cons t r ih =>
    have := ih h.2
    show t.level ≤ ((t :: r).length : Int)
    rw [List.length_cons]
    rcases h.1.2.2 with ⟨_, e, _⟩ | ⟨_, e, _⟩ <;> omega
theorem SG.count (h : SG n order fcl s) : s.cls.length ≤ fcl.length + 4 ^ n := by
  obtain ⟨L, e, hd⟩ := h.cls
  have := pigeon (4 ^ n) (L.map (code n)) hd (fun k hk => by obtain ⟨c, _, rfl⟩ := List.mem_map.1 hk; exact code_lt n c)
  rw [List.length_map] at this
  rw [e, List.length_append]
  omega
/-- Every model goes with what was told without a choice. -/
theorem agrees {row : List Int} {r : List Tr} {cls : List (List Int)} {a : Int → Int} (ha : ∀ c ∈ cls, sat a c) (h : TrOK n row cls r) (h0 : levR r = 0) : ∀ t ∈ r, a (size t.lit) = t.lit := by
  induction r with
  | nil => intro t ht; cases ht
  | cons u r ih =>
    have hl := h.2.lev.1
    have hu : u.level = 0 := h0
    have hr0 : levR r = 0 := by rcases h.1.2.2 with ⟨_, e, _⟩ | ⟨_, e, _⟩ <;> omega
    intro t ht
    rcases List.mem_cons.1 ht with rfl | ht
    · rcases h.1.2.2 with ⟨_, e, _⟩ | ⟨_, _, c, hc, h1, h2⟩
      · omega
      · obtain ⟨x, hx, e⟩ := ha c (List.mem_of_getElem? hc)
        by_cases hxt : x = t.lit
        · rw [← hxt]; exact e
        · obtain ⟨u, hu, e2⟩ := h2 x hx hxt
          have := ih h.2 hr0 u hu
          rw [e2, size_neg, e] at this
          have := (h.2.lits u hu).1
          omega
    · exact ih h.2 hr0 t ht
theorem SG.unsat (h : SG n order fcl s) (h0 : levR s.tr.reverse = 0) {c : List Int} (hc : c ∈ s.cls) (hf : ∀ x ∈ c, TrF s.tr.reverse x) : ∀ a, ¬ isModel n fcl a := by
  intro a ha
  obtain ⟨x, hx, e⟩ := h.sound a ha c hc
  obtain ⟨t, ht, e2⟩ := hf x hx
  have := agrees (h.sound a ha) h.tr h0 t ht
  rw [e2, size_neg, e] at this
  have := (h.tr.lits t ht).1
  omega
/-- The first model. -/
def isFirst (n : Nat) (row : List Int) (cls : List (List Int)) (a : Int → Int) : Prop := isModel n cls a ∧ ∀ b, isModel n cls b → ¬ ahead row b a
theorem negs_mem (n : Nat) (y : Int) : y ∈ negs n ↔ -(n : Int) ≤ y ∧ y ≤ -1 := by
  unfold negs
  rw [List.mem_map]
  constructor
  · rintro ⟨i, hi, rfl⟩
    have := List.mem_range.1 hi
    omega
  · intro h
    exact ⟨(-y - 1).toNat, List.mem_range.2 (by omega), by omega⟩
theorem first_agrees {row : List Int} {r : List Tr} {cls : List (List Int)} {a b : Int → Int} (hb : ∀ c ∈ cls, sat b c) (_hT : Tot n b) (h : TrOK n row cls r) (hon : ∀ t ∈ r, a (size t.lit) = t.lit) (hah : ahead row b a) : ∀ t ∈ r, b (size t.lit) = t.lit := by
  induction r with
  | nil => intro t ht; cases ht
  | cons u r ih =>
    have ih := ih h.2 (fun t ht => hon t (List.mem_cons_of_mem _ ht))
    intro t ht
    rcases List.mem_cons.1 ht with rfl | ht
    · rcases h.1.2.2 with ⟨_, _, pre, post, hrow, hpre⟩ | ⟨_, _, c, hc, h1, h2⟩
      · apply Classical.byContradiction
        intro hne
        obtain ⟨p1, l, q1, hrow2, hp1, hl1, hl2⟩ := hah
        have hat : a (size t.lit) = t.lit := hon t (List.mem_cons_self ..)
        have hagr : ∀ y ∈ pre, b (size y) = a (size y) := fun y hy => by
          obtain ⟨w, hw, e⟩ := hpre y hy
          rw [← e, ih w hw, hon w (List.mem_cons_of_mem _ hw)]
        rw [hrow] at hrow2
        rcases List.append_eq_append_iff.1 hrow2 with ⟨m, e1, e2⟩ | ⟨m, e1, e2⟩
        · cases m with
          | nil =>
            simp only [List.append_nil, List.nil_append] at e1 e2
            injection e2 with e2 e3
            rw [← e2, hat] at hl2
            exact hl2 rfl
          | cons z m =>
            injection e2 with e2 e3
            have := hp1 t.lit (by rw [e1, e2]; simp)
            rw [hat] at this
            exact hne this
        · cases m with
          | nil =>
            simp only [List.append_nil, List.nil_append] at e1 e2
            injection e2 with e2 e3
            rw [e2, hat] at hl2
            exact hl2 rfl
          | cons z m =>
            injection e2 with e2 e3
            have := hagr l (by rw [e1, e2]; simp)
            rw [hl1] at this
            exact hl2 this.symm
      · obtain ⟨x, hx, e⟩ := hb c (List.mem_of_getElem? hc)
        by_cases hxt : x = t.lit
        · rw [← hxt]; exact e
        · obtain ⟨u, hu, e2⟩ := h2 x hx hxt
          have := ih u hu
          rw [e2, size_neg, e] at this
          have := (h.2.lits u hu).1
          omega
    · exact ih t ht
theorem SG.first (h : SG n order fcl s) (hall : ∀ y ∈ order ++ negs n, ¬ TrO s.tr.reverse y) (hq : ∀ (k : Nat) c, s.cls[k]? = some c → s.act k ≠ 0 → Quiet2 s.tr.reverse c) :
    isFirst n (order ++ negs n) fcl (gi s.val) := by
  have hT : Tot n (gi s.val) := by
    intro v h1 h2
    have hm : -v ∈ negs n := (negs_mem n _).2 (by omega)
    have ho := hall (-v) (List.mem_append_right _ hm)
    have ⟨t, ht, e⟩ : ∃ t, t ∈ s.tr.reverse ∧ size t.lit = size (-v) := by
      apply Classical.byContradiction
      intro hc
      exact ho fun t ht e => hc ⟨t, ht, e⟩
    have hs : size (-v) = v := by unfold size; split <;> omega
    have := h.val.on t ht
    rw [e, hs] at this
    rw [this]
    have e2 := size_eq e
    omega
  refine ⟨⟨hT, fun c hc => ?_⟩, ?_⟩
  · obtain ⟨L, hL, _⟩ := h.cls
    obtain ⟨k, hk, e⟩ := List.getElem_of_mem hc
    have hck : s.cls[k]? = some c := by rw [hL, List.getElem?_append_left hk, List.getElem?_eq_getElem hk, e]
    have hlit := (h.lits c (List.mem_of_getElem? hck)).2
    have hqk : Quiet2 s.tr.reverse c := by
      rcases h.act1 k c hck with e | ⟨_, x, hx, t, ht, h2, _⟩
      · exact hq k c hck (by omega)
      · exact .inl ⟨x, hx, t, ht, h2⟩
    rcases hqk with ⟨x, hx, t, ht, e⟩ | ⟨x, hx, y, _, _, ho, _⟩
    · refine ⟨x, hx, ?_⟩
      have := h.val.on t ht
      rw [e] at this; exact this
    · have hlx := hlit x hx
      have hsx := size_pos hlx
      have := (h.val.zero h.tr hlx).2 ho
      rcases hT (size x) hsx.1 hsx.2 with e | e <;> omega
  · rintro b ⟨hbT, hb⟩ hah
    have hag := first_agrees (h.sound b ⟨hbT, hb⟩) hbT h.tr (fun t ht => h.val.on t ht) hah
    obtain ⟨p1, l, q1, hrow, _, hl1, hl2⟩ := hah
    have hl : l ∈ order ++ negs n := by rw [hrow]; simp
    have hlo := hall l hl
    have ⟨t, ht, e⟩ : ∃ t, t ∈ s.tr.reverse ∧ size t.lit = size l := by
      apply Classical.byContradiction
      intro hc
      exact hlo fun t ht e => hc ⟨t, ht, e⟩
    have h1 := hag t ht
    have h2 := h.val.on t ht
    rw [e] at h1 h2
    rw [h2, ← h1, hl1] at hl2
    exact hl2 rfl
end
end Go.Proofs.Ytcglokippflioaa

/-! Pure facts of what a conflict teaches. -/
namespace Go.Proofs.Ytcglokippflioaa
theorem idxI_spec {α : Type} (p : α → Bool) : ∀ xs : List α, (idxI p xs = -1 ∧ ∀ x ∈ xs, p x = false) ∨ ∃ (k : Nat) (x : α), idxI p xs = k ∧ xs[k]? = some x ∧ p x = true
  | [] => .inl ⟨rfl, by simp⟩
  | x :: xs => by
    unfold idxI
    by_cases hx : p x = true
    · rw [if_pos hx]
      exact .inr ⟨0, x, rfl, rfl, hx⟩
    · rw [if_neg hx]
      rcases idxI_spec p xs with ⟨e, h⟩ | ⟨k, y, e, h1, h2⟩
      · rw [e, if_pos (by decide)]
        refine .inl ⟨rfl, fun y hy => ?_⟩
        rcases List.mem_cons.1 hy with rfl | hy
        · simpa using hx
        · exact h y hy
      · rw [e, if_neg (by omega)]
        exact .inr ⟨k + 1, y, by omega, h1, h2⟩
section
variable {n : Nat} {row : List Int} {cls : List (List Int)} {tr : List Tr}
theorem TrOK.split (h : TrOK n row cls tr.reverse) {pre post : List Tr} {t : Tr} (e : tr = pre ++ t :: post) : stepOK n row cls t pre.reverse ∧ TrOK n row cls pre.reverse := by
  subst e
  rw [List.reverse_append, List.reverse_cons, List.append_assoc] at h
  generalize post.reverse = q at h
  induction q with
  | nil => exact h
  | cons u q ih => exact ih h.2
theorem split_at {k : Nat} {t : Tr} (h : tr[k]? = some t) : tr = tr.take k ++ t :: tr.drop (k + 1) := by
  obtain ⟨hk, e⟩ := List.getElem?_eq_some_iff.1 h
  conv => lhs; rw [← List.take_append_drop k tr, List.drop_eq_getElem_cons hk, e]
theorem mem_take_at {k : Nat} {u : Tr} (h : u ∈ tr.take k) : ∃ j : Nat, j < k ∧ tr[j]? = some u := by
  obtain ⟨j, hj, e⟩ := List.mem_take_iff_getElem.1 h
  exact ⟨j, by omega, by rw [List.getElem?_eq_getElem (by omega), e]⟩
theorem at_inj (h : TrOK n row cls tr.reverse) {i j : Nat} {t u : Tr} (hi : tr[i]? = some t) (hj : tr[j]? = some u) (e : size t.lit = size u.lit) : i = j := by
  apply Classical.byContradiction
  intro hne
  have key : ∀ {i j : Nat} {t u : Tr}, tr[i]? = some t → tr[j]? = some u → size t.lit = size u.lit → i < j → False := by
    intro i j t u hi hj e hlt
    obtain ⟨⟨_, hd, _⟩, _⟩ := h.split (split_at hj)
    have hm : t ∈ tr.take j := List.mem_of_getElem? (i := i) (by rw [List.getElem?_take, if_pos hlt]; exact hi)
    exact hd t (by simpa using hm) e
  rcases Nat.lt_or_gt_of_ne hne with hl | hl
  · exact key hi hj e hl
  · exact key hj hi e.symm hl
theorem at_lev (h : TrOK n row cls tr.reverse) {i j : Nat} {t u : Tr} (hi : tr[i]? = some t) (hj : tr[j]? = some u) (hij : i ≤ j) : t.level ≤ u.level := by
  by_cases e : i = j
  · subst e
    rw [hi] at hj
    cases hj
    exact Int.le_refl _
  · obtain ⟨⟨_, _, hs⟩, hp⟩ := h.split (split_at hj)
    have hm : t ∈ tr.take j := List.mem_of_getElem? (i := i) (by rw [List.getElem?_take, if_pos (by omega)]; exact hi)
    have h1 := (hp.lev.2 t (by simpa using hm)).2
    rcases hs with ⟨_, e, _⟩ | ⟨_, e, _⟩ <;> omega
/-- Where a false literal's opposite stands. -/
theorem fAt_of (h : TrOK n row cls tr.reverse) {x : Int} {k : Nat} {t : Tr} (hk : tr[k]? = some t) (e : t.lit = -x) : fAt tr x = k := by
  unfold fAt
  rcases idxI_spec (fun t : Tr => t.lit == -x) tr with ⟨_, h1⟩ | ⟨j, u, e1, h1, h2⟩
  · have := h1 t (List.mem_of_getElem? hk)
    simp [e] at this
  · have h2 : u.lit = -x := by simpa using h2
    rw [e1, at_inj h hk h1 (by rw [e, h2])]
theorem fAt_some {x : Int} (h : isF tr x = true) : ∃ (k : Nat) (t : Tr), fAt tr x = k ∧ tr[k]? = some t ∧ t.lit = -x ∧ levAt tr x = t.level := by
  unfold isF at h
  have h := of_decide_eq_true h
  rcases idxI_spec (fun t : Tr => t.lit == -x) tr with ⟨e, _⟩ | ⟨j, u, e1, h1, h2⟩
  · have e : fAt tr x = -1 := e
    omega
  · have e1 : fAt tr x = j := e1
    refine ⟨j, u, e1, h1, by simpa using h2, ?_⟩
    unfold levAt
    rw [e1, Int.toNat_natCast, h1]
theorem isF_iff (x : Int) : isF tr x = true ↔ TrF tr.reverse x := by
  constructor
  · intro h
    obtain ⟨k, t, _, h1, h2, _⟩ := fAt_some h
    exact ⟨t, by simpa using List.mem_of_getElem? h1, h2⟩
  · rintro ⟨t, ht, e⟩
    unfold isF
    rw [decide_eq_true_iff]
    rcases idxI_spec (fun t : Tr => t.lit == -x) tr with ⟨_, h1⟩ | ⟨j, u, e1, h1, h2⟩
    · have := h1 t (by simpa using ht)
      simp [e] at this
    · have e1 : fAt tr x = j := e1
      omega
theorem atL_len (L : Int) (c : List Int) : atL tr L c = ((c.filter fun x => isF tr x && levAt tr x == L).length : Int) := by
  induction c with
  | nil => rfl
  | cons x c ih =>
    unfold atL
    rw [ih, List.filter_cons]
    by_cases hx : isF tr x = true ∧ levAt tr x = L
    · rw [if_pos hx, if_pos (by simp [hx.1, hx.2]), List.length_cons]; omega
    · rw [if_neg hx, if_neg (by simpa using hx)]; omega
theorem markL_mono (but : Int) : ∀ (c : List Int) (f : Int → Int) (j : Int), f j ≠ 0 → markL tr but c f j ≠ 0
  | [], _, _, h => h
  | x :: c, f, j, h => by
    unfold markL
    refine markL_mono but c _ j ?_
    split
    · dsimp only; split
      · decide
      · exact h
    · exact h
theorem markL_hit (but : Int) : ∀ (c : List Int) (f : Int → Int) (x : Int), x ∈ c → isF tr x = true → x ≠ but → markL tr but c f (fAt tr x) ≠ 0
  | y :: c, f, x, hx, hf, hb => by
    unfold markL
    rcases List.mem_cons.1 hx with rfl | hx
    · refine markL_mono but c _ _ ?_
      rw [if_pos ⟨hf, hb⟩]
      simp
    · exact markL_hit but c _ x hx hf hb
end
/-! Sorting, and compacting. -/
theorem compactF_mem {le : Int → Int → Prop} (hanti : ∀ x y, le x y → le y x → x = y) : ∀ (zs : List Int) (p : Int), (p :: zs).Pairwise le → (∀ x, x ∈ compactF (some p) zs ↔ x ∈ zs ∧ x ≠ p) ∧ (compactF (some p) zs).Nodup
  | [], p, _ => by simp [compactF]
  | y :: zs, p, h => by
    obtain ⟨h1, h2⟩ := List.pairwise_cons.1 h
    obtain ⟨i1, i2⟩ := compactF_mem hanti zs y h2
    obtain ⟨h3, h4⟩ := List.pairwise_cons.1 h2
    unfold compactF
    by_cases e : p = y
    · subst e
      rw [if_pos rfl]
      refine ⟨fun x => ?_, i2⟩
      rw [i1, List.mem_cons]
      constructor
      · rintro ⟨a, b⟩; exact ⟨.inr a, b⟩
      · rintro ⟨rfl | a, b⟩
        · exact absurd rfl b
        · exact ⟨a, b⟩
    · rw [if_neg (fun h => e (by injection h))]
      have hp : ∀ x ∈ zs, x ≠ p := fun x hx hxp => by
        subst hxp
        exact e (hanti _ _ (h1 y (List.mem_cons_self ..)) (h3 x hx))
      refine ⟨fun x => ?_, ?_⟩
      · rw [List.mem_cons, i1, List.mem_cons]
        constructor
        · rintro (rfl | ⟨a, b⟩)
          · exact ⟨.inl rfl, fun h => e h.symm⟩
          · exact ⟨.inr a, hp x a⟩
        · rintro ⟨rfl | a, b⟩
          · exact .inl rfl
          · by_cases hxy : x = y
            · exact .inl hxy
            · exact .inr ⟨a, hxy⟩
      · rw [List.nodup_cons]
        exact ⟨fun hm => ((i1 y).1 hm).2 rfl, i2⟩
theorem compactF_none {le : Int → Int → Prop} (hanti : ∀ x y, le x y → le y x → x = y) {zs : List Int} (h : zs.Pairwise le) : (∀ x, x ∈ compactF none zs ↔ x ∈ zs) ∧ (compactF none zs).Nodup := by
  cases zs with
  | nil => simp [compactF]
  | cons y zs =>
    obtain ⟨i1, i2⟩ := compactF_mem hanti zs y h
    unfold compactF
    rw [if_neg (by simp)]
    refine ⟨fun x => ?_, ?_⟩
    · rw [List.mem_cons, i1, List.mem_cons]
      by_cases hxy : x = y <;> simp [hxy]
    · rw [List.nodup_cons]
      exact ⟨fun hm => ((i1 y).1 hm).2 rfl, i2⟩
theorem cmpI_neg (x y : Int) : cmpI x y < 0 ↔ x < y := by
  unfold cmpI
  split
  · omega
  · split <;> omega
theorem leR_iff (x y : Int) : leOf cmpR x y = true ↔ size x < size y ∨ (size x = size y ∧ y ≤ x) := by
  unfold leOf
  rw [Bool.not_eq_true', decide_eq_false_iff_not]
  unfold cmpR
  by_cases e : size y = size x
  · have h0 : cmpI (size y) (size x) = 0 := by unfold cmpI; rw [if_neg (by omega), if_neg (by omega)]
    rw [if_neg (fun h => h h0), cmpI_neg]
    omega
  · have h0 : cmpI (size y) (size x) ≠ 0 := by
      unfold cmpI
      by_cases h1 : size y < size x
      · rw [if_pos h1]; decide
      · rw [if_neg h1, if_pos (by omega)]; decide
    rw [if_pos h0, cmpI_neg]
    omega
theorem sorted_R (l : List Int) : (l.mergeSort (leOf cmpR)).Pairwise (fun a b => leOf cmpR a b = true) := by
  refine List.pairwise_mergeSort (fun a b c h1 h2 => ?_) (fun a b => ?_) l
  · rw [leR_iff] at *
    omega
  · rw [Bool.or_eq_true, leR_iff, leR_iff]
    omega
theorem anti_R : ∀ x y, leOf cmpR x y = true → leOf cmpR y x = true → x = y := by
  intro x y h1 h2
  rw [leR_iff] at *
  omega
theorem resolveL_ok {a b : List Int} {v : Int} (h1 : 1 ≤ v) (h2 : v ≤ 4096) (ha : ∀ x ∈ a, goodI x) (hb : ∀ x ∈ b, goodI x) (hh : (v ∈ a ∧ -v ∈ b) ∨ (-v ∈ a ∧ v ∈ b)) (hal : a.length ≤ LIM) (hbl : b.length ≤ LIM) :
    ∃ c, resolveL a b v = some c ∧ (∀ x, x ∈ c ↔ (x ∈ a ∨ x ∈ b) ∧ x ≠ v ∧ x ≠ -v) ∧ c.Nodup := by
  unfold resolveL
  rw [if_pos ⟨h1, h2, ha, hb, hh, hal, hbl⟩]
  obtain ⟨i1, i2⟩ := compactF_none anti_R (sorted_R ((a ++ b).filter fun x => !(x == v || x == -v)))
  refine ⟨_, rfl, fun x => ?_, i2⟩
  rw [i1, (List.mergeSort_perm _ _).mem_iff, List.mem_filter, List.mem_append]
  simp
theorem sorted_I (l : List Int) : (l.mergeSort leI).Pairwise (fun a b => leI a b = true) := by
  refine List.pairwise_mergeSort (fun a b c h1 h2 => ?_) (fun a b => ?_) l
  · unfold leI at *
    simp only [decide_eq_true_eq] at *
    omega
  · unfold leI
    simp only [Bool.or_eq_true, decide_eq_true_eq]
    omega
theorem startL {c0 : List Int} : (∀ x, x ∈ compactF none (c0.mergeSort leI) ↔ x ∈ c0) ∧ (compactF none (c0.mergeSort leI)).Nodup := by
  obtain ⟨i1, i2⟩ := compactF_none (le := fun a b => leI a b = true) (fun x y h1 h2 => by unfold leI at *; simp only [decide_eq_true_eq] at *; omega) (sorted_I c0)
  exact ⟨fun x => by rw [i1, (List.mergeSort_perm _ _).mem_iff], i2⟩
end Go.Proofs.Ytcglokippflioaa

/-! Learn's image is right. -/
namespace Go.Proofs.Ytcglokippflioaa
section
variable {n : Nat} {order : List Int} {fcl : List (List Int)} {s : St}
/-- What holds of the clause that is being learned; k places are still to be gone through. -/
structure LI (n : Nat) (fcl : List (List Int)) (tr : List Tr) (L : Int) (k : Nat) (f : Int → Int) (c : List Int) : Prop where
  nodup : c.Nodup
  fls : ∀ x ∈ c, isF tr x = true ∧ litOk n x
  sound : ∀ a, isModel n fcl a → sat a c
  top : ∃ x ∈ c, levAt tr x = L
  left : ∀ x ∈ c, levAt tr x = L → fAt tr x < k ∧ f (fAt tr x) ≠ 0
theorem atL_two {tr : List Tr} {L : Int} {c : List Int} (hf : ∀ x ∈ c, isF tr x = true) (hn : c.Nodup) (h : atL tr L c ≠ 1) (ht : ∃ x ∈ c, levAt tr x = L) (x0 : Int) : ∃ y ∈ c, y ≠ x0 ∧ levAt tr y = L := by
  rw [atL_len] at h
  obtain ⟨x, hx, hl⟩ := ht
  have hm : ∀ z, z ∈ (c.filter fun x => isF tr x && levAt tr x == L) ↔ z ∈ c ∧ levAt tr z = L := fun z => by
    rw [List.mem_filter]
    constructor
    · rintro ⟨h1, h2⟩
      simp only [Bool.and_eq_true, beq_iff_eq] at h2
      exact ⟨h1, h2.2⟩
    · rintro ⟨h1, h2⟩
      exact ⟨h1, by simp [hf z h1, h2]⟩
  have hnd : (c.filter fun x => isF tr x && levAt tr x == L).Nodup := hn.sublist List.filter_sublist
  match he : c.filter fun x => isF tr x && levAt tr x == L with
  | [] =>
    have := (hm x).2 ⟨hx, hl⟩
    rw [he] at this; cases this
  | [z] => rw [he] at h; simp at h
  | z :: z2 :: l =>
    have h1 := (hm z).1 (by rw [he]; simp)
    have h2 := (hm z2).1 (by rw [he]; simp)
    rw [he, List.nodup_cons] at hnd
    by_cases e : z = x0
    · exact ⟨z2, h2.1, fun e2 => hnd.1 (by rw [e, ← e2]; simp), h2.2⟩
    · exact ⟨z, h1.1, e, h1.2⟩
theorem lit_good {n : Nat} (hn : n ≤ 4096) {x : Int} (h : litOk n x) : goodI x := by
  obtain ⟨h0, h1, h2⟩ := h
  exact ⟨h0, by omega, by omega⟩
theorem loop_ok (hn : n ≤ 14) (h : SG n order fcl s) : ∀ (k : Nat) (f : Int → Int) (c : List Int), k ≤ s.tr.length → LI n fcl s.tr (levR s.tr.reverse) k f c →
    ∃ c' f', loopL s.cls s.tr (levR s.tr.reverse) (coneL s.cls s.tr k f) c = some c' ∧ atL s.tr (levR s.tr.reverse) c' = 1 ∧ (∃ k', LI n fcl s.tr (levR s.tr.reverse) k' f' c') := by
  intro k
  induction k with
  | zero =>
    intro f c _ hi
    obtain ⟨x, hx, hl⟩ := hi.top
    have := (hi.left x hx hl).1
    obtain ⟨j, _, e, _⟩ := fAt_some (hi.fls x hx).1
    omega
  | succ k ih =>
    intro f c hk hi
    have hclen : c.length ≤ LIM := by have := clause_len hi.nodup (fun x hx => (hi.fls x hx).2); unfold LIM; omega
    have hgood : ∀ x ∈ c, goodI x := fun x hx => lit_good (by omega) (hi.fls x hx).2
    show ∃ c' f', loopL s.cls s.tr (levR s.tr.reverse) (if f k = 0 then coneL s.cls s.tr k f else (k : Int) :: coneL s.cls s.tr k (match s.tr[k]? with
      | some t => if 0 ≤ t.reason then markL s.tr t.lit (s.cls.getD t.reason.toNat []) f else f
      | none => f)) c = some c' ∧ _
    by_cases hf : f k = 0
    · rw [if_pos hf]
      refine ih f c (by omega) ⟨hi.nodup, hi.fls, hi.sound, hi.top, fun x hx hl => ?_⟩
      obtain ⟨h1, h2⟩ := hi.left x hx hl
      refine ⟨?_, h2⟩
      rcases Int.lt_or_le (fAt s.tr x) k with hlt | hge
      · exact hlt
      · have e : fAt s.tr x = k := by omega
        rw [e] at h2
        exact absurd hf h2
    · rw [if_neg hf]
      obtain ⟨t, ht⟩ : ∃ t, s.tr[k]? = some t := ⟨_, List.getElem?_eq_getElem (by omega)⟩
      rw [ht]
      simp only
      obtain ⟨hstep, hpre⟩ := h.tr.split (split_at ht)
      unfold loopL
      rw [if_pos ⟨hclen, hgood⟩]
      by_cases ha : atL s.tr (levR s.tr.reverse) c = 1
      · rw [if_pos ha]
        exact ⟨c, f, rfl, ha, k + 1, hi⟩
      · rw [if_neg ha, Int.toNat_natCast, ht]
        simp only
        -- what is marked stays marked
        obtain ⟨f', hf'⟩ : ∃ f', (if 0 ≤ t.reason then markL s.tr t.lit (s.cls.getD t.reason.toNat []) f else f) = f' := ⟨_, rfl⟩
        have hmono : ∀ j, f j ≠ 0 → f' j ≠ 0 := fun j hj => by
          rw [← hf']
          split
          · exact markL_mono _ _ _ _ hj
          · exact hj
        rw [hf']
        by_cases hsk : t.level ≠ levR s.tr.reverse ∨ -t.lit ∉ c
        · rw [if_pos hsk]
          refine ih f' c (by omega) ⟨hi.nodup, hi.fls, hi.sound, hi.top, fun x hx hl => ?_⟩
          obtain ⟨h1, h2⟩ := hi.left x hx hl
          refine ⟨?_, hmono _ h2⟩
          rcases Int.lt_or_le (fAt s.tr x) k with hlt | hge
          · exact hlt
          · obtain ⟨j, u, e1, e2, e3, e4⟩ := fAt_some (hi.fls x hx).1
            have hjk : j = k := by omega
            subst hjk
            rw [ht] at e2
            cases e2
            rcases hsk with h | h
            · exact absurd (by rw [← e4, hl]) h
            · exact absurd (by rw [e3, Int.neg_neg]; exact hx) h
        · rw [if_neg hsk]
          have hlev : t.level = levR s.tr.reverse := Classical.byContradiction fun e => hsk (.inl e)
          have hx0 : -t.lit ∈ c := Classical.byContradiction fun e => hsk (.inr e)
          clear hsk
          obtain ⟨y, hy, hyx, hyl⟩ := atL_two (fun x hx => (hi.fls x hx).1) hi.nodup ha hi.top (-t.lit)
          obtain ⟨jy, u, ey1, ey2, ey3, ey4⟩ := fAt_some (hi.fls y hy).1
          have hjk : jy < k := by
            have := (hi.left y hy hyl).1
            have hne : jy ≠ k := fun e => by
              subst e
              rw [ht] at ey2
              cases ey2
              exact hyx (by rw [ey3, Int.neg_neg])
            omega
          have hum : u ∈ s.tr.take k := List.mem_of_getElem? (i := jy) (by rw [List.getElem?_take, if_pos hjk]; exact ey2)
          -- the place is no choice
          have hre : 0 ≤ t.reason ∧ ∃ r, s.cls[t.reason.toNat]? = some r ∧ t.lit ∈ r ∧ ∀ z ∈ r, z ≠ t.lit → TrF (s.tr.take k).reverse z := by
            rcases hstep.2.2 with ⟨_, e, _⟩ | ⟨h0, _, r, h1, h2, h3⟩
            · have := (hpre.lev.2 u (by simpa using hum)).2
              have : u.level = levR s.tr.reverse := by rw [← ey4]; exact hyl
              omega
            · exact ⟨h0, r, h1, h2, h3⟩
          obtain ⟨hr0, r, hr1, hr2, hr3⟩ := hre
          rw [if_pos hr0, hr1]
          simp only
          have hrl := h.lits r (List.mem_of_getElem? hr1)
          have htl := hstep.1
          have hts := size_pos htl
          have hv : size t.lit = t.lit ∨ size t.lit = -t.lit := by unfold size; split <;> omega
          have hrlen : r.length ≤ LIM := by have := clause_len hrl.1 hrl.2; unfold LIM; omega
          obtain ⟨c', hc1, hc2, hc3⟩ := resolveL_ok (a := c) (b := r) (v := size t.lit) (by omega) (by omega) hgood (fun x hx => lit_good (by omega) (hrl.2 x hx)) (by
            rcases hv with e | e
            · rw [e]; exact .inr ⟨hx0, hr2⟩
            · rw [e, Int.neg_neg]; exact .inl ⟨hx0, hr2⟩) hclen hrlen
          have hpm : ∀ z, (z ≠ size t.lit ∧ z ≠ -size t.lit) ↔ (z ≠ t.lit ∧ z ≠ -t.lit) := fun z => by
            rcases hv with e | e <;> rw [e]
            rw [Int.neg_neg]
            exact And.comm
          have hc2 : ∀ z, z ∈ c' ↔ (z ∈ c ∨ z ∈ r) ∧ z ≠ t.lit ∧ z ≠ -t.lit := fun z => by rw [hc2, hpm]
          rw [hc1]
          simp only
          -- a false literal ahead of the place
          have hpos : ∀ z, TrF (s.tr.take k).reverse z → ∃ j : Nat, fAt s.tr z = j ∧ j < k ∧ isF s.tr z = true := fun z hz => by
            obtain ⟨w, hw, e⟩ := hz
            obtain ⟨j, hj, hw2⟩ := mem_take_at (by simpa using hw)
            exact ⟨j, fAt_of h.tr hw2 e, hj, (isF_iff z).2 ⟨w, by simpa using List.mem_of_getElem? hw2, e⟩⟩
          have htrue : TrT s.tr.reverse t.lit := ⟨t, by simpa using List.mem_of_getElem? ht, rfl⟩
          refine ih f' c' (by omega) ⟨hc3, fun z hz => ?_, fun a hm => ?_, ⟨y, ?_, hyl⟩, fun z hz hl => ?_⟩
          · obtain ⟨hz1 | hz1, hz2, _⟩ := (hc2 z).1 hz
            · exact hi.fls z hz1
            · obtain ⟨_, _, _, h3⟩ := hpos z (hr3 z hz1 hz2)
              exact ⟨h3, hrl.2 z hz1⟩
          · obtain ⟨x, hx, ex⟩ := hi.sound a hm
            by_cases e1 : x = -t.lit
            · obtain ⟨z, hz, ez⟩ := h.sound a hm r (List.mem_of_getElem? hr1)
              have hz1 : z ≠ t.lit := fun e => by
                rw [e] at ez
                rw [e1, size_neg, ez] at ex
                have := htl.1
                omega
              refine ⟨z, (hc2 z).2 ⟨.inr hz, hz1, fun e => ?_⟩, ez⟩
              obtain ⟨w, hw, e3⟩ := hr3 z hz hz1
              rw [e, Int.neg_neg] at e3
              exact hstep.2.1 w hw (by rw [e3])
            · by_cases e2 : x = t.lit
              · have h1 := (isF_iff x).1 (hi.fls x hx).1
                rw [e2] at h1
                exact (h.tr.not_both htrue h1).elim
              · exact ⟨x, (hc2 x).2 ⟨.inl hx, e2, e1⟩, ex⟩
          · refine (hc2 y).2 ⟨.inl hy, fun e => ?_, hyx⟩
            have h1 := (isF_iff y).1 (hi.fls y hy).1
            rw [e] at h1
            exact h.tr.not_both htrue h1
          · obtain ⟨hz1, hz2, hz3⟩ := (hc2 z).1 hz
            rcases hz1 with hz1 | hz1
            · obtain ⟨h1, h2⟩ := hi.left z hz1 hl
              refine ⟨?_, hmono _ h2⟩
              rcases Int.lt_or_le (fAt s.tr z) k with hlt | hge
              · exact hlt
              · obtain ⟨j, w, e1, e2, e3, _⟩ := fAt_some (hi.fls z hz1).1
                have hjk2 : j = k := by omega
                subst hjk2
                rw [ht] at e2
                cases e2
                exact absurd (by rw [e3, Int.neg_neg]) hz3
            · obtain ⟨j, e1, e2, e3⟩ := hpos z (hr3 z hz1 hz2)
              refine ⟨by omega, ?_⟩
              rw [← hf', if_pos hr0]
              have hgd : s.cls.getD t.reason.toNat [] = r := by rw [List.getD_eq_getElem?_getD, hr1]; rfl
              rw [hgd]
              exact markL_hit _ _ _ _ hz1 e3 hz2
theorem toL_spec {tr : List Tr} : ∀ (c : List Int) (m : Int), m ≤ toL tr c m ∧ (∀ x ∈ c, levAt tr x ≤ toL tr c m) ∧ (toL tr c m = m ∨ ∃ x ∈ c, toL tr c m = levAt tr x)
  | [], m => ⟨Int.le_refl _, by simp, .inl rfl⟩
  | x :: c, m => by
    obtain ⟨h1, h2, h3⟩ := toL_spec (tr := tr) c (max m (levAt tr x))
    unfold toL
    refine ⟨by omega, fun y hy => ?_, ?_⟩
    · rcases List.mem_cons.1 hy with rfl | hy
      · omega
      · exact h2 y hy
    · rcases h3 with h3 | ⟨y, hy, h3⟩
      · rcases Int.le_total (levAt tr x) m with h | h
        · exact .inl (by omega)
        · exact .inr ⟨x, List.mem_cons_self .., by omega⟩
      · exact .inr ⟨y, List.mem_cons_of_mem _ hy, h3⟩
theorem leP_iff (tr : List Tr) (x y : Int) : leOf (cmpP tr) x y = true ↔ max (fAt tr y) 0 ≤ max (fAt tr x) 0 := by
  unfold leOf
  rw [Bool.not_eq_true', decide_eq_false_iff_not]
  unfold cmpP
  rw [cmpI_neg]
  omega
theorem learn_good (hn : n ≤ 14) : LearnGood learnL n order fcl := by
  intro s k c0 h hlv hk hf htop
  have hL : lastLevel s.tr = levR s.tr.reverse := lastLevel_rev _
  have hfF : ∀ x ∈ c0, isF s.tr x = true := fun x hx => (isF_iff x).2 (hf x hx)
  have hlits := h.lits c0 (List.mem_of_getElem? hk)
  have htopl : ∃ x ∈ c0, levAt s.tr x = levR s.tr.reverse := by
    obtain ⟨x, hx, t, ht, e1, e2⟩ := htop
    obtain ⟨j, u, g1, g2, g3, g4⟩ := fAt_some (hfF x hx)
    have hum : u ∈ s.tr.reverse := by simpa using List.mem_of_getElem? g2
    have := h.tr.inj u hum t ht (by rw [g3, e1])
    subst this
    exact ⟨x, hx, by rw [g4, e2]⟩
  have hguard : 0 ≤ (k : Int) ∧ (∀ c ∈ s.cls, c.length ≤ LIM ∧ ∀ x ∈ c, goodI x) ∧ (∀ t ∈ s.tr, t.reason < s.cls.length ∧ goodI t.lit) := by
    refine ⟨by omega, fun c hc => ?_, fun t ht => ?_⟩
    · have hl := h.lits c hc
      have := clause_len hl.1 hl.2
      exact ⟨by unfold LIM; omega, fun x hx => lit_good (by omega) (hl.2 x hx)⟩
    · obtain ⟨j, hj, e⟩ := List.getElem_of_mem ht
      have hj2 : s.tr[j]? = some t := by rw [List.getElem?_eq_getElem hj, e]
      obtain ⟨⟨h1, _, h2⟩, _⟩ := h.tr.split (split_at hj2)
      refine ⟨?_, lit_good (by omega) h1⟩
      rcases h2 with ⟨e, _⟩ | ⟨h0, _, r, h3, _⟩
      · omega
      · have := (List.getElem?_eq_some_iff.1 h3).1
        omega
  obtain ⟨st1, st2⟩ := startL (c0 := c0)
  have hli : LI n fcl s.tr (levR s.tr.reverse) s.tr.length (markL s.tr 0 c0 fun _ => 0) (compactF none (c0.mergeSort leI)) := by
    refine ⟨st2, fun x hx => ⟨hfF x ((st1 x).1 hx), hlits.2 x ((st1 x).1 hx)⟩, fun a hm => ?_, ?_, fun x hx _ => ?_⟩
    · obtain ⟨x, hx, e⟩ := h.sound a hm c0 (List.mem_of_getElem? hk)
      exact ⟨x, (st1 x).2 hx, e⟩
    · obtain ⟨x, hx, e⟩ := htopl
      exact ⟨x, (st1 x).2 hx, e⟩
    · have hx := (st1 x).1 hx
      obtain ⟨j, u, g1, g2, _⟩ := fAt_some (hfF x hx)
      refine ⟨?_, markL_hit 0 c0 _ x hx (hfF x hx) (hlits.2 x hx).1⟩
      have := (List.getElem?_eq_some_iff.1 g2).1
      omega
  obtain ⟨c, f', hc1, hc2, kk, hc⟩ := loop_ok hn h s.tr.length _ _ (Nat.le_refl _) hli
  have hclen := clause_len hc.nodup (fun x hx => (hc.fls x hx).2)
  have hcf : conflB s.tr c0 = true := by
    unfold conflB
    rw [Bool.not_eq_true']
    rw [List.any_eq_false]
    intro x hx
    simp [hfF x hx]
  have hat : atL s.tr (lastLevel s.tr) c0 ≠ 0 := by
    rw [atL_len, hL]
    obtain ⟨x, hx, e⟩ := htopl
    have hm : x ∈ (c0.filter fun x => isF s.tr x && levAt s.tr x == levR s.tr.reverse) := List.mem_filter.2 ⟨hx, by simp [hfF x hx, e]⟩
    have := List.length_pos_of_mem hm
    omega
  obtain ⟨x0, hx0, hl0⟩ := hc.top
  have hne : c ≠ [] := fun e => by rw [e] at hx0; cases hx0
  -- the sorted clause
  have hperm := List.mergeSort_perm c (leOf (cmpP s.tr))
  have hsort : (c.mergeSort (leOf (cmpP s.tr))).Pairwise (fun a b => leOf (cmpP s.tr) a b = true) :=
    List.pairwise_mergeSort (fun a b c h1 h2 => by rw [leP_iff] at *; omega) (fun a b => by rw [Bool.or_eq_true, leP_iff, leP_iff]; omega) c
  have hres : learnL s.cls s.tr k = some (c.mergeSort (leOf (cmpP s.tr)), toL s.tr (c.mergeSort (leOf (cmpP s.tr))).tail 0, true) := by
    unfold learnL
    rw [if_pos hguard, Int.toNat_natCast, hk]
    simp only
    rw [if_neg (by rw [hcf, hL]; simp only [Bool.true_eq_false, false_or]; rw [hL] at hat; omega), hL, hc1]
    simp only
    rw [if_pos ⟨hne, fun x hx => ⟨(hc.fls x hx).1, lit_good (by omega) (hc.fls x hx).2⟩, hc.nodup, by unfold LIM; omega⟩]
  rw [hres]
  cases hsrt : c.mergeSort (leOf (cmpP s.tr)) with
  | nil =>
    have := hperm.length_eq
    rw [hsrt] at this
    exact absurd (List.eq_nil_of_length_eq_zero this.symm) hne
  | cons x rest =>
    rw [hsrt] at hperm hsort
    have hmem : ∀ y, y ∈ x :: rest ↔ y ∈ c := fun y => hperm.mem_iff
    have hnd : (x :: rest).Nodup := hperm.nodup_iff.2 hc.nodup
    obtain ⟨hsx, _⟩ := List.pairwise_cons.1 hsort
    -- only one stands at the last level
    have honly : ∀ y ∈ c, levAt s.tr y = levR s.tr.reverse → y = x0 := fun y hy hl => by
      apply Classical.byContradiction
      intro hne
      have h1 : x0 ∈ (c.filter fun x => isF s.tr x && levAt s.tr x == levR s.tr.reverse) := List.mem_filter.2 ⟨hx0, by simp [(hc.fls x0 hx0).1, hl0]⟩
      have h2 : y ∈ (c.filter fun x => isF s.tr x && levAt s.tr x == levR s.tr.reverse) := List.mem_filter.2 ⟨hy, by simp [(hc.fls y hy).1, hl]⟩
      rw [atL_len] at hc2
      match he : c.filter fun x => isF s.tr x && levAt s.tr x == levR s.tr.reverse with
      | [] => rw [he] at h1; cases h1
      | [z] =>
        rw [he, List.mem_singleton] at h1 h2
        exact hne (h2.trans h1.symm)
      | z :: z2 :: l => rw [he] at hc2; simp only [List.length_cons] at hc2; omega
    have hmax : ∀ y ∈ c, levAt s.tr y ≤ levR s.tr.reverse := fun y hy => by
      obtain ⟨j, u, _, g2, _, g4⟩ := fAt_some (hc.fls y hy).1
      rw [g4]
      exact (h.tr.lev.2 u (by simpa using List.mem_of_getElem? g2)).2
    have hmin : ∀ y ∈ c, 0 ≤ levAt s.tr y := fun y hy => by
      obtain ⟨j, u, _, g2, _, g4⟩ := fAt_some (hc.fls y hy).1
      rw [g4]
      exact (h.tr.lev.2 u (by simpa using List.mem_of_getElem? g2)).1
    have hxtop : x = x0 := by
      refine honly x ((hmem x).1 (List.mem_cons_self ..)) ?_
      have hx0' := (hmem x0).2 hx0
      rcases List.mem_cons.1 hx0' with e | hin
      · rw [← e]; exact hl0
      · have h1 := hsx x0 hin
        rw [leP_iff] at h1
        obtain ⟨j0, u0, g1, g2, g3, g4⟩ := fAt_some (hc.fls x0 hx0).1
        obtain ⟨j, u, e1, e2, e3, e4⟩ := fAt_some (hc.fls x ((hmem x).1 (List.mem_cons_self ..))).1
        have hle := at_lev h.tr g2 e2 (by omega)
        have := hmax x ((hmem x).1 (List.mem_cons_self ..))
        omega
    subst hxtop
    obtain ⟨t1, t2, t3⟩ := toL_spec (tr := s.tr) rest 0
    refine ⟨x, rest, toL s.tr rest 0, rfl, ⟨hnd, fun y hy => (isF_iff y).1 (hc.fls y ((hmem y).1 hy)).1, fun a hm => ?_, ?_, fun y hy t ht e => ?_, ⟨t1, ?_⟩, ?_⟩⟩
    · obtain ⟨y, hy, e⟩ := hc.sound a hm
      exact ⟨y, (hmem y).2 hy, e⟩
    · obtain ⟨j, u, _, g2, g3, g4⟩ := fAt_some (hc.fls x hx0).1
      exact ⟨u, by simpa using List.mem_of_getElem? g2, g3, by rw [← g4]; exact hl0⟩
    · obtain ⟨j, u, _, g2, g3, g4⟩ := fAt_some (hc.fls y ((hmem y).1 (List.mem_cons_of_mem _ hy))).1
      have := h.tr.inj u (by simpa using List.mem_of_getElem? g2) t ht (by rw [g3, e])
      subst this
      rw [← g4]
      exact t2 y hy
    · rcases t3 with e | ⟨y, hy, e⟩
      · omega
      · have hyc := (hmem y).1 (List.mem_cons_of_mem _ hy)
        have h1 := hmax y hyc
        have h2 : levAt s.tr y ≠ levR s.tr.reverse := fun e2 => by
          have := honly y hyc e2
          subst this
          exact (List.nodup_cons.1 hnd).1 hy
        omega
    · rcases t3 with e | ⟨y, hy, e⟩
      · exact .inl e
      · obtain ⟨j, u, _, g2, g3, g4⟩ := fAt_some (hc.fls y ((hmem y).1 (List.mem_cons_of_mem _ hy))).1
        exact .inr ⟨y, hy, u, by simpa using List.mem_of_getElem? g2, g3, by rw [← g4]; exact e.symm⟩
end
end Go.Proofs.Ytcglokippflioaa

/-! Pure facts of a search: it ends, and what it tells. -/
namespace Go.Proofs.Ytcglokippflioaa
section
variable {n : Nat} {order : List Int} {fcl : List (List Int)} {s : St}
theorem SG.withTr (h : SG n order fcl s) {v : List Int} {news : List Tr} (ht : TrOK n (order ++ negs n) s.cls (s.tr ++ news).reverse) (hv : ValOK n v (s.tr ++ news).reverse) (hn : ∀ t ∈ news, levR s.tr.reverse ≤ t.level)
    (hc : ∀ j : Int, 0 ≤ j → levR s.tr.reverse ≤ j → j < levR (s.tr ++ news).reverse → ∀ (i : Nat) c, s.cls[i]? = some c → s.act i ≠ 0 → Two (s.tr ++ news).reverse j c) : SG n order fcl { s with val := v, tr := s.tr ++ news } := by
  have e : (s.tr ++ news).reverse = news.reverse ++ s.tr.reverse := by simp
  refine ⟨h.vars, h.ord, h.nf, h.cls, h.lits, h.sound, ht, hv, fun i c hi => ?_, h.act0, fun j h0 hj i c hi ha => ?_, h.log⟩
  · rcases h.act1 i c hi with h1 | ⟨h1, x, hx, t, ht, h3⟩
    · exact .inl h1
    · refine .inr ⟨h1, x, hx, t, ?_, h3⟩
      show t ∈ (s.tr ++ news).reverse
      rw [e]
      exact List.mem_append_right _ ht
  · show Two (s.tr ++ news).reverse j c
    rcases Int.lt_or_le j (levR s.tr.reverse) with hlt | hge
    · rw [e]
      exact (h.closed j h0 hlt i c hi ha).ext _ (fun t ht => by have := hn t (by simpa using ht); omega)
    · exact hc j h0 hge hj i c hi ha
theorem propS_ok (hn : n ≤ 4096) (h : SG n order fcl s) : ∃ pk s1, propS (levR s.tr.reverse) s = some (pk, s1) ∧ SG n order fcl s1 ∧ levR s1.tr.reverse = levR s.tr.reverse ∧ s1.cls = s.cls ∧ s1.log = s.log ∧ s1.steps = s.steps ∧ s.tr.length ≤ s1.tr.length ∧
    ((0 ≤ pk ∧ ∃ c, s1.cls[pk.toNat]? = some c ∧ s1.act pk ≠ 0 ∧ ∀ x ∈ c, TrF s1.tr.reverse x) ∨ (pk = -1 ∧ ∀ (k : Nat) c, s1.cls[k]? = some c → s1.act k ≠ 0 → Quiet2 s1.tr.reverse c)) := by
  obtain ⟨pk, v', t', h1, h2, h3, h4, ⟨news, rfl, h6⟩, h7⟩ := prop_ok (cls := s.cls) (act := s.act) (row := order ++ negs n) (lvl := levR s.tr.reverse) hn h.lits (s.val.length + 2) s.val s.tr (by have := h.val.len; omega) h.val h.tr rfl
  refine ⟨pk, { s with val := v', tr := s.tr ++ news }, ?_, ?_, h4, rfl, rfl, rfl, by simp, h7⟩
  · unfold propS
    rw [h1]
    simp only
    rw [if_pos (by rw [h2.len, h.val.len])]
  · exact h.withTr h3 h2 (fun t ht => by rw [h6 t ht]; exact Int.le_refl _) (fun j _ hj1 hj2 => by rw [h4] at hj2; omega)
theorem quiet_two {row : List Int} {cls : List (List Int)} {r : List Tr} (hr : TrOK n row cls r) {c : List Int} (h : Quiet2 r c) {j : Int} (hj : levR r ≤ j) : Two r j c := by
  rcases h with ⟨x, hx, t, ht, e⟩ | ⟨x, hx, y, hy, hne, h1, h2⟩
  · exact .inl ⟨x, hx, t, ht, e, by have := (hr.lev.2 t ht).2; omega⟩
  · exact .inr ⟨x, hx, y, hy, hne, fun t ht e => absurd (by rw [e, size_neg]) (h1 t ht), fun t ht e => absurd (by rw [e, size_neg]) (h2 t ht)⟩
theorem row_lits (hord : ∀ x ∈ order, litOk n x) : ∀ x ∈ order ++ negs n, litOk n x := by
  intro x hx
  rcases List.mem_append.1 hx with h | h
  · exact hord x h
  · have := (negs_mem n x).1 h
    exact ⟨by omega, by omega, by omega⟩
theorem choose_ok (hn : n ≤ 4096) (hord : ∀ x ∈ order, litOk n x) (h : SG n order fcl s) (hq : ∀ (k : Nat) c, s.cls[k]? = some c → s.act k ≠ 0 → Quiet2 s.tr.reverse c) :
    (chooseL (levR s.tr.reverse) s = some (.inl s) ∧ isFirst n (order ++ negs n) fcl (gi s.val)) ∨
    ∃ s', chooseL (levR s.tr.reverse) s = some (.inr s') ∧ SG n order fcl s' ∧ levR s'.tr.reverse = levR s.tr.reverse + 1 ∧ s'.cls = s.cls ∧ s'.log = s.log ∧ s'.steps = s.steps ∧ s'.tr.length = s.tr.length + 1 := by
  have hrow : rowL s.order s.vars.toNat s.val = (order ++ negs n).filter (opn s.val) := by unfold rowL; rw [h.ord, h.vars, Int.toNat_natCast, List.filter_append]
  have hrl := row_lits hord
  unfold chooseL
  rw [hrow]
  cases hf : (order ++ negs n).filter (opn s.val) with
  | nil =>
    refine .inl ⟨rfl, h.first (fun y hy ho => ?_) hq⟩
    have := List.filter_eq_nil_iff.1 hf y hy
    apply this
    unfold opn
    have := (h.val.zero h.tr (hrl y hy)).2 ho
    simpa using this
  | cons x tl =>
    obtain ⟨pre, post, e1, e2, e3, _⟩ := List.filter_eq_cons_iff.1 hf
    have hx := hrl x (by rw [e1]; simp)
    have hxo : TrO s.tr.reverse x := (h.val.zero h.tr hx).1 (by unfold opn at e3; simpa using e3)
    have hs := size_pos hx
    have hlen := h.tr.length
    rw [List.length_reverse] at hlen
    simp only
    rw [if_pos ⟨by omega, by rw [h.val.len]; omega, by unfold LIM; omega⟩]
    have er : (s.tr ++ [(⟨x, -1, levR s.tr.reverse + 1⟩ : Tr)]).reverse = ⟨x, -1, levR s.tr.reverse + 1⟩ :: s.tr.reverse := by simp
    have ht : TrOK n (order ++ negs n) s.cls (s.tr ++ [(⟨x, -1, levR s.tr.reverse + 1⟩ : Tr)]).reverse := by
      rw [er]
      refine ⟨⟨hx, hxo, .inl ⟨rfl, rfl, pre, post, e1, fun y hy => ?_⟩⟩, h.tr⟩
      apply Classical.byContradiction
      intro hc
      have hyl := hrl y (by rw [e1]; simp [hy])
      have := (h.val.zero h.tr hyl).2 (fun t ht e => hc ⟨t, ht, e⟩)
      have h2 := e2 y hy
      unfold opn at h2
      simp [this] at h2
    refine .inr ⟨_, rfl, ?_, by show levR (s.tr ++ [_]).reverse = _; rw [er]; rfl, rfl, rfl, rfl, by simp⟩
    refine h.withTr ht (by rw [er]; exact h.val.push (t := ⟨x, -1, levR s.tr.reverse + 1⟩) hx h.tr hxo) (fun t ht => ?_) (fun j _ hj1 hj2 i c hi ha => ?_)
    · rw [List.mem_singleton.1 ht]; show levR s.tr.reverse ≤ levR s.tr.reverse + 1; omega
    · rw [er] at hj2 ⊢
      have hj2 : j < levR s.tr.reverse + 1 := hj2
      exact (quiet_two h.tr (hq i c hi ha) hj1).ext [_] (fun t ht => by rw [List.mem_singleton.1 ht]; exact hj2)
theorem back_ok (h : SG n order fcl s) (lv : Int) : (backL lv s.val s.tr).2.reverse = cutR lv s.tr.reverse ∧ ValOK n (backL lv s.val s.tr).1 (cutR lv s.tr.reverse) := by
  obtain ⟨h1, h2⟩ := backR_eq lv h.val h.tr
  unfold backL
  exact ⟨by rw [List.reverse_reverse]; exact h1, h2⟩
theorem cutR_len (lv : Int) (r : List Tr) : (cutR lv r).length ≤ r.length := (List.dropWhile_sublist _).length_le
theorem conflict_ok {LF : List (List Int) → List Tr → Int → Option (List Int × Int × Bool)} (hLF : LearnGood LF n order fcl) (hn : n ≤ 14) (hfl : fcl.length ≤ 65536) (h : SG n order fcl s) {k : Int} (hk : 0 ≤ k) {c : List Int} (hc : s.cls[k.toNat]? = some c) (ha : s.act k ≠ 0) (hf : ∀ x ∈ c, TrF s.tr.reverse x) (hl : 1 ≤ levR s.tr.reverse) :
    ∃ s', conflL LF s k = some (s', true) ∧ SG n order fcl s' ∧ s'.cls.length = s.cls.length + 1 ∧ s'.log.length = s.log.length + 1 ∧ s'.steps = s.steps := by
  obtain ⟨kn, rfl⟩ := Int.eq_ofNat_of_zero_le hk
  rw [Int.toNat_natCast] at hc
  have hcnt := h.count
  have h4 : 4 ^ n ≤ 4 ^ 14 := Nat.pow_le_pow_right (by omega) hn
  have h4' : 4 ^ 14 = 268435456 := by decide
  rw [h4'] at h4
  have hlog := h.log
  have hlen := h.tr.length
  have hll := levR_len h.tr
  rw [List.length_reverse] at hlen hll
  have hact0 := h.act0 s.cls.length (Nat.le_refl _)
  -- one of the clause's literals is false at the last level
  have htop : ∃ x ∈ c, ∃ t ∈ s.tr.reverse, t.lit = -x ∧ t.level = levR s.tr.reverse := by
    have hfx : ∀ x ∈ c, ∃ t ∈ s.tr.reverse, t.lit = -x := hf
    rcases h.closed (levR s.tr.reverse - 1) (by omega) (by omega) kn c hc ha with ⟨x, hx, t, ht, e, _⟩ | ⟨x, hx, y, hy, hne, h1, _⟩
    · exact (h.tr.not_both ⟨t, ht, e⟩ (hf x hx)).elim
    · obtain ⟨t, ht, e⟩ := hfx x hx
      have h5 := h1 t ht e
      have h6 := (h.tr.lev.2 t ht).2
      exact ⟨x, hx, t, ht, e, by omega⟩
  obtain ⟨x, c', to, hL, hS⟩ := hLF s kn c h hl hc hf htop
  obtain ⟨b1, b2⟩ := back_ok h to
  have hxt : ∀ y ∈ x :: c', litOk n y := fun y hy => by
    obtain ⟨t, ht, e⟩ := hS.fls y hy
    have := litOk_neg (h.tr.lits t ht)
    rw [e, Int.neg_neg] at this
    exact this
  have hxl := hxt x (List.mem_cons_self ..)
  have hsx := size_pos hxl
  have hto := hS.to0
  have hcl := clause_len hS.nodup hxt
  have hok := cutR_ok to h.tr
  have hblen : (backL to s.val s.tr).2.length ≤ n := by
    have := hok.length
    rw [← b1, List.length_reverse] at this
    exact this
  -- the literal is open again
  have hxo : TrO (cutR to s.tr.reverse) x := by
    intro t ht e
    obtain ⟨ht1, ht2⟩ := (cutR_mem to h.tr t).1 ht
    obtain ⟨u, hu, e1, e2⟩ := hS.top
    have := h.tr.inj t ht1 u hu (by rw [e, e1, size_neg])
    subst this
    omega
  have hlevc : levR (cutR to s.tr.reverse) = to := by
    rcases hS.hit with e | ⟨y, hy, t, ht, _, e⟩
    · subst e
      have h1 := hok.lev.1
      rcases cutR_lev 0 h.tr with h | h <;> omega
    · exact levR_cut h.tr ht e
  -- the new clause is new
  have hnew : ∀ (i : Nat) d, s.cls[i]? = some d → fcl.length ≤ i → code n d ≠ code n (x :: c') := by
    intro i d hi hfi he
    have hiff := code_inj he
    have hdl := (h.lits d (List.mem_of_getElem? hi)).2
    rcases h.act1 i d hi with e1 | ⟨_, y, hy, t, ht, e2, _⟩
    · rcases h.closed to hto.1 hto.2 i d hi (by omega) with ⟨y, hy, t, ht, e, _⟩ | ⟨y, hy, z, hz, hne, g1, g2⟩
      · exact h.tr.not_both ⟨t, ht, e⟩ (hS.fls y ((hiff y (hdl y hy)).1 hy))
      · have key : ∀ w ∈ d, (∀ t ∈ s.tr.reverse, t.lit = -w → to < t.level) → w = x := by
          intro w hw hgw
          have hm := (hiff w (hdl w hw)).1 hw
          rcases List.mem_cons.1 hm with e | hm2
          · exact e
          · obtain ⟨t, ht, e⟩ := hS.fls w hm
            have := hS.low w hm2 t ht e
            have := hgw t ht e
            omega
        exact hne ((key y hy g1).trans (key z hz g2).symm)
    · exact h.tr.not_both ⟨t, ht, e2⟩ (hS.fls y ((hiff y (hdl y hy)).1 hy))
  refine ⟨learnt s x (x :: c') to, ?_, ?_, by simp [learnt], by simp [learnt], rfl⟩
  · unfold conflL
    have hokl : okLits s.val s.tr := by
      intro t ht
      have := size_pos (h.tr.lits t (by simpa using ht))
      rw [h.val.len]
      omega
    rw [if_pos (by unfold LIM; omega), lastLevel_rev, if_neg (by omega), if_pos ⟨by unfold LIM; omega, by unfold LIM; omega, fun d hd => by have := clause_len (h.lits d hd).1 (h.lits d hd).2; unfold LIM; omega, hokl, by omega, by omega, by unfold LIM; omega, by unfold LIM; omega⟩, hL]
    simp only
    rw [if_pos ⟨by omega, by rw [b2.len]; omega, by unfold LIM; omega, by unfold LIM; omega⟩]
  · have etr : (learnt s x (x :: c') to).tr.reverse = ⟨x, s.cls.length, to⟩ :: cutR to s.tr.reverse := by simp [learnt, b1]
    have htr : TrOK n (order ++ negs n) (s.cls ++ [x :: c']) (⟨x, s.cls.length, to⟩ :: cutR to s.tr.reverse) := by
      refine ⟨⟨hxl, hxo, .inr ⟨by show (0 : Int) ≤ (s.cls.length : Int); omega, hlevc.symm, x :: c', ?_, List.mem_cons_self .., fun y hy hne => ?_⟩⟩, hok.mono _⟩
      · show (s.cls ++ [x :: c'])[((s.cls.length : Int)).toNat]? = _
        rw [Int.toNat_natCast]; simp
      · rcases List.mem_cons.1 hy with e | hy
        · exact absurd e hne
        · obtain ⟨t, ht, e⟩ := hS.fls y (List.mem_cons_of_mem _ hy)
          exact ⟨t, (cutR_mem to h.tr t).2 ⟨ht, hS.low y hy t ht e⟩, e⟩
    have hlev' : levR (learnt s x (x :: c') to).tr.reverse = to := by rw [etr]; rfl
    obtain ⟨L, hL1, hL2⟩ := h.cls
    have hact : ∀ i : Nat, i < s.cls.length → (learnt s x (x :: c') to).act i = s.act i := fun i hi => by
      show (if (i : Int) = (s.cls.length : Int) then s.act i + 1 else s.act i) = s.act i
      rw [if_neg (by omega)]
    have hactn : (learnt s x (x :: c') to).act s.cls.length = 1 := by
      show (if (s.cls.length : Int) = (s.cls.length : Int) then s.act s.cls.length + 1 else s.act s.cls.length) = 1
      rw [if_pos rfl, hact0]; rfl
    have hget : ∀ (i : Nat) d, (learnt s x (x :: c') to).cls[i]? = some d → (i < s.cls.length ∧ s.cls[i]? = some d) ∨ (i = s.cls.length ∧ d = x :: c') := by
      intro i d hi
      have hi : (s.cls ++ [x :: c'])[i]? = some d := hi
      rcases Nat.lt_or_ge i s.cls.length with hlt | hge
      · rw [List.getElem?_append_left hlt] at hi; exact .inl ⟨hlt, hi⟩
      · have := (List.getElem?_eq_some_iff.1 hi).1
        rw [List.length_append, List.length_singleton] at this
        have e : i = s.cls.length := by omega
        subst e
        rw [List.getElem?_append_right (Nat.le_refl _), Nat.sub_self] at hi
        injection hi with hi
        exact .inr ⟨rfl, hi.symm⟩
    have htwo : ∀ j : Int, j < to → ∀ d, Two s.tr.reverse j d → Two (⟨x, s.cls.length, to⟩ :: cutR to s.tr.reverse) j d := fun j hj d hd =>
      (hd.sub (r' := cutR to s.tr.reverse) (fun t ht hl => (cutR_mem to h.tr t).2 ⟨ht, by omega⟩) (fun t ht => ((cutR_mem to h.tr t).1 ht).1)).ext [_] (fun t ht => by rw [List.mem_singleton.1 ht]; exact hj)
    refine ⟨h.vars, h.ord, h.nf, ⟨L ++ [x :: c'], ?_, ?_⟩, ?_, ?_, ?_, ?_, ?_, ?_, ?_, ?_⟩
    · show s.cls ++ [x :: c'] = _
      rw [hL1, List.append_assoc]
    · rw [List.map_append, List.nodup_append]
      refine ⟨hL2, by simp, fun a ha b hb e => ?_⟩
      obtain ⟨d, hd, rfl⟩ := List.mem_map.1 ha
      rw [List.map_singleton, List.mem_singleton] at hb
      obtain ⟨i, hi, e2⟩ := List.getElem_of_mem hd
      refine hnew (fcl.length + i) d ?_ (by omega) (e.trans hb)
      rw [hL1, List.getElem?_append_right (by omega), show fcl.length + i - fcl.length = i by omega, List.getElem?_eq_getElem hi, e2]
    · intro d hd
      rcases List.mem_append.1 (show d ∈ s.cls ++ [x :: c'] from hd) with hd | hd
      · exact h.lits d hd
      · rw [List.mem_singleton.1 hd]; exact ⟨hS.nodup, hxt⟩
    · intro a hm d hd
      rcases List.mem_append.1 (show d ∈ s.cls ++ [x :: c'] from hd) with hd | hd
      · exact h.sound a hm d hd
      · rw [List.mem_singleton.1 hd]; exact hS.sound a hm
    · rw [etr]; exact htr
    · rw [etr]
      exact b2.push (t := ⟨x, s.cls.length, to⟩) hxl hok hxo
    · intro i d hi
      rcases hget i d hi with ⟨hlt, hi⟩ | ⟨rfl, rfl⟩
      · rw [hact i hlt]
        rcases h.act1 i d hi with e1 | ⟨e1, y, hy, t, ht, e3, e4⟩
        · exact .inl e1
        · refine .inr ⟨e1, y, hy, t, ?_, e3, e4⟩
          rw [etr]
          exact List.mem_cons_of_mem _ ((cutR_mem to h.tr t).2 ⟨ht, by omega⟩)
      · exact .inl hactn
    · intro i hi
      have hi : s.cls.length + 1 ≤ i := by simpa [learnt] using hi
      show (if (i : Int) = (s.cls.length : Int) then s.act i + 1 else s.act i) = 0
      rw [if_neg (by omega)]
      exact h.act0 i (by omega)
    · intro j h0 hj i d hi hai
      rw [hlev'] at hj
      rw [etr]
      rcases hget i d hi with ⟨hlt, hi⟩ | ⟨rfl, rfl⟩
      · rw [hact i hlt] at hai
        exact htwo j hj d (h.closed j h0 (by omega) i d hi hai)
      · rcases hS.hit with e | ⟨y, hy, t, ht, e1, e2⟩
        · omega
        · refine htwo j hj _ (.inr ⟨x, List.mem_cons_self .., y, List.mem_cons_of_mem _ hy, fun e => ?_, fun u hu e => ?_, fun u hu e => ?_⟩)
          · subst e
            exact (List.nodup_cons.1 hS.nodup).1 hy
          · obtain ⟨v, hv, e3, e4⟩ := hS.top
            have := h.tr.inj u hu v hv (by rw [e, e3])
            subst this
            omega
          · have := h.tr.inj u hu t ht (by rw [e, e1])
            subst this
            omega
    · show (s.log ++ [x :: c']).length + fcl.length = (s.cls ++ [x :: c']).length
      simp; omega
end
end Go.Proofs.Ytcglokippflioaa

/-! Pure facts of a search: it ends, and what it tells. -/
namespace Go.Proofs.Ytcglokippflioaa
section
variable {n : Nat} {order : List Int} {fcl : List (List Int)} {s : St}
theorem forget_ok {row : List Int} {cls : List (List Int)} {r : List Tr} {val : List Int} (hn : n ≤ 4096) (hlits : ∀ c ∈ cls, c.Nodup ∧ ∀ x ∈ c, litOk n x) (hv : ValOK n val r) (hr : TrOK n row cls r) : ∀ (cs : List (List Int)) (i : Nat) (act : Int → Int), cls.drop i = cs →
    ∃ act', forgetL val cs i act = some act' ∧ ∀ k : Nat, act' k = act k ∨ (act' k = 0 ∧ ∀ c, cls[k]? = some c → ∃ x ∈ c, TrT r x) := by
  intro cs
  induction cs with
  | nil => intro i act _; exact ⟨act, rfl, fun k => .inl rfl⟩
  | cons c cs ih =>
    intro i act hd
    have hi : i < cls.length := by
      apply Classical.byContradiction
      intro h
      rw [List.drop_eq_nil_of_le (by omega)] at hd
      cases hd
    rw [List.drop_eq_getElem_cons hi] at hd
    injection hd with hc hd
    have hci : cls[i]? = some c := by rw [List.getElem?_eq_getElem hi, hc]
    obtain ⟨hcn, hcl⟩ := hlits c (List.mem_of_getElem? hci)
    have hcL : c.length ≤ LIM := by have := clause_len hcn hcl; unfold LIM; omega
    obtain ⟨o, l, t, hL, hcase⟩ := look_cases hv hr hcn hcl
    unfold forgetL
    rw [hL]
    simp only
    rw [if_pos hcL]
    obtain ⟨act', h1, h2⟩ := ih (i + 1) (if t = true then (fun j => if j = (i : Int) then 0 else act j) else act) hd
    refine ⟨act', h1, fun k => ?_⟩
    rcases h2 k with h | h
    · cases t with
      | false => exact .inl h
      | true =>
        rw [if_pos rfl] at h
        by_cases hk : (k : Int) = (i : Int)
        · rw [if_pos hk] at h
          have hk : k = i := by omega
          subst hk
          refine .inr ⟨h, fun c' hc' => ?_⟩
          rw [hci] at hc'
          cases hc'
          rcases hcase with ⟨_, hq⟩ | ⟨h, _⟩ | ⟨h, _⟩ | ⟨h, _⟩
          · exact hq
          · cases h
          · cases h
          · cases h
        · rw [if_neg hk] at h
          exact .inl h
    · exact .inr h
theorem after_ok (hn : n ≤ 14) (hfl : fcl.length ≤ 65536) (h : SG n order fcl s) (left rst : Int) :
    ∃ l' r' s', afterL left rst s = some (l', r', levR s'.tr.reverse, s') ∧ SG n order fcl s' ∧ s'.cls = s.cls ∧ s'.log = s.log ∧ s'.steps = s.steps ∧ ((l' = left - 1 ∧ r' = rst) ∨ (l' = 32 * lub (rst + 1).toNat ∧ r' = rst + 1)) := by
  have hcnt := h.count
  have h4 : 4 ^ n ≤ 4 ^ 14 := Nat.pow_le_pow_right (by omega) hn
  have h4' : 4 ^ 14 = 268435456 := by decide
  rw [h4'] at h4
  have hlog := h.log
  have hnf := h.nf
  unfold afterL
  rw [lastLevel_rev]
  by_cases hc : left - 1 ≤ 0 ∧ 0 < levR s.tr.reverse
  · rw [if_pos hc]
    obtain ⟨b1, b2⟩ := back_ok h 0
    have hok := cutR_ok 0 h.tr
    have hokl : okLits s.val s.tr := by
      intro t ht
      have := size_pos (h.tr.lits t (by simpa using ht))
      rw [h.val.len]
      omega
    rw [if_pos ⟨hokl, by omega, by unfold LIM; omega, by rw [h.val.len]; omega, by rw [b2.len]; omega⟩]
    obtain ⟨act', f1, f2⟩ := forget_ok (by omega) h.lits b2 hok (s.cls.drop s.nf) s.nf s.act rfl
    rw [f1]
    have hlev0 : levR (cutR 0 s.tr.reverse) = 0 := by
      have h1 := hok.lev.1
      rcases cutR_lev 0 h.tr with h | h <;> omega
    refine ⟨_, _, { s with val := (backL 0 s.val s.tr).1, tr := (backL 0 s.val s.tr).2, act := act' }, ?_, ?_, rfl, rfl, rfl, .inr ⟨rfl, rfl⟩⟩
    · show some (_, _, (0 : Int), _) = some (_, _, levR (backL 0 s.val s.tr).2.reverse, _)
      rw [b1, hlev0]
    · refine ⟨h.vars, h.ord, h.nf, h.cls, h.lits, h.sound, ?_, ?_, ?_, ?_, ?_, h.log⟩
      · show TrOK _ _ _ (backL 0 s.val s.tr).2.reverse; rw [b1]; exact hok
      · show ValOK _ _ (backL 0 s.val s.tr).2.reverse; rw [b1]; exact b2
      · intro i c hi
        show act' i = 1 ∨ (act' i = 0 ∧ ∃ x ∈ c, ∃ t ∈ (backL 0 s.val s.tr).2.reverse, t.lit = x ∧ t.level = 0)
        rw [b1]
        rcases f2 i with e | ⟨e, hx⟩
        · rw [e]
          rcases h.act1 i c hi with e1 | ⟨e1, y, hy, t, ht, e3, e4⟩
          · exact .inl e1
          · exact .inr ⟨e1, y, hy, t, (cutR_mem 0 h.tr t).2 ⟨ht, by omega⟩, e3, e4⟩
        · obtain ⟨x, hx1, t, ht, e2⟩ := hx c hi
          refine .inr ⟨e, x, hx1, t, ht, e2, ?_⟩
          have := (hok.lev.2 t ht)
          omega
      · intro i hi
        show act' i = 0
        rcases f2 i with e | ⟨e, _⟩
        · rw [e]; exact h.act0 i hi
        · exact e
      · intro j h0 hj
        have hj : j < levR (backL 0 s.val s.tr).2.reverse := hj
        rw [b1, hlev0] at hj
        omega
  · rw [if_neg hc]
    exact ⟨_, _, s, by rw [← lastLevel_rev], h, rfl, rfl, rfl, .inl ⟨rfl, rfl⟩⟩
/-- What a search tells. -/
def Told (n : Nat) (order : List Int) (fcl : List (List Int)) (budget : Int) (r : Int) (s : St) : Prop :=
  (r = 1 ∧ isFirst n (order ++ negs n) fcl (gi s.val) ∧ s.val.length = n + 1) ∨ (r = 2 ∧ ∀ a, ¬ isModel n fcl a) ∨ (r = 3 ∧ budget ≤ ((4 ^ n : Nat) : Int))
theorem run_ok {LF : List (List Int) → List Tr → Int → Option (List Int × Int × Bool)} (hLF : LearnGood LF n order fcl) (hn : n ≤ 14) (hfl : fcl.length ≤ 65536) (hord : ∀ x ∈ order, litOk n x) (hol : order.length ≤ LIM) (budget : Int) :
    ∀ (M : Nat) (s : St) (left rst : Int), SG n order fcl s → s.steps = s.log.length → 0 ≤ rst → rst ≤ s.log.length → -(s.log.length : Int) ≤ left → left ≤ 32 * (s.log.length + 1) → s.steps ≤ budget →
      (4 ^ n - s.log.length) * (n + 1) + (n - s.tr.length) < M → ∃ r s', runL LF budget M left rst (levR s.tr.reverse) s = some (r, s') ∧ Told n order fcl budget r s' ∧ s'.steps ≤ budget ∧ 0 ≤ s'.steps := by
  have h4 : 4 ^ n ≤ 4 ^ 14 := Nat.pow_le_pow_right (by omega) hn
  have h4' : 4 ^ 14 = 268435456 := by decide
  rw [h4'] at h4
  intro M
  induction M with
  | zero => intro s left rst _ _ _ _ _ _ _ h; omega
  | succ M ih =>
    intro s left rst h hst hr0 hr1 hl0 hl1 hb hM
    have hcnt := h.count
    have hlog := h.log
    have hnf := h.nf
    have hlen := h.tr.length
    have hll := levR_len h.tr
    have hl0' := h.tr.lev.1
    rw [List.length_reverse] at hlen hll
    have hokr : okRun s := by
      refine ⟨by rw [h.vars]; omega, by rw [h.vars]; unfold LIM; omega, by rw [h.vars, h.val.len]; simp, by rw [h.ord]; exact hol, by omega, by unfold LIM; omega, by omega, by omega, fun x hx => ?_⟩
      rw [h.ord] at hx
      have := size_pos (hord x hx)
      rw [h.val.len]
      omega
    have hokn : okNums left rst (levR s.tr.reverse) := ⟨by omega, by omega, by omega, by omega, hl0', by unfold LIM; omega⟩
    obtain ⟨pk, s1, hp, g, glev, gcls, glog, gst, glen, hcase⟩ := propS_ok (by omega) h
    unfold runL
    rw [if_pos ⟨hokr, hokn⟩, hp]
    simp only
    rcases hcase with ⟨hpk, c, hc, ha, hf⟩ | ⟨hpk, hq⟩
    · rw [if_pos hpk]
      by_cases hbb : s1.steps = budget
      · rw [if_pos hbb]
        exact ⟨3, s1, rfl, .inr (.inr ⟨rfl, by omega⟩), by omega, by omega⟩
      · rw [if_neg hbb]
        have g' : SG n order fcl { s1 with steps := s1.steps + 1 } := ⟨g.vars, g.ord, g.nf, g.cls, g.lits, g.sound, g.tr, g.val, g.act1, g.act0, g.closed, g.log⟩
        by_cases hlv : 1 ≤ levR s1.tr.reverse
        · obtain ⟨s2, hcf, g2, hc2, hlg2, hst2⟩ := conflict_ok hLF hn hfl g' hpk hc ha hf hlv
          rw [hcf]
          simp only
          have hcnt2 := g2.count
          have hlog2 := g2.log
          have hst2 : s2.steps = s1.steps + 1 := hst2
          have hc2 : s2.cls.length = s1.cls.length + 1 := hc2
          have hlg2 : s2.log.length = s1.log.length + 1 := hlg2
          rw [glog] at hlg2
          obtain ⟨l', r', s3, haf, g3, ecls, elog, est, hnum⟩ := after_ok hn hfl g2 left rst
          rw [haf]
          simp only
          rw [← elog] at hlg2
          refine ih s3 l' r' g3 (by omega) ?_ ?_ ?_ ?_ (by omega) ?_
          · rcases hnum with ⟨rfl, rfl⟩ | ⟨rfl, rfl⟩ <;> omega
          · rcases hnum with ⟨rfl, rfl⟩ | ⟨rfl, rfl⟩ <;> omega
          · rcases hnum with ⟨rfl, rfl⟩ | ⟨rfl, rfl⟩ <;> omega
          · rcases hnum with ⟨rfl, rfl⟩ | ⟨rfl, rfl⟩
            · omega
            · have := lub_le (rst + 1).toNat
              omega
          · have e1 : 4 ^ n - s.log.length = (4 ^ n - s3.log.length) + 1 := by rw [elog] at hlg2; rw [elog]; omega
            rw [e1, Nat.succ_mul] at hM
            generalize (4 ^ n - s3.log.length) * (n + 1) = K at *
            omega
        · have hl00 := g.tr.lev.1
          have e0 : lastLevel s1.tr = 0 := by rw [lastLevel_rev]; omega
          have hun := g.unsat (by omega) (List.mem_of_getElem? hc) hf
          have hcf : conflL LF { s1 with steps := s1.steps + 1 } pk = some ({ s1 with steps := s1.steps + 1, log := s1.log ++ [[]] }, false) := by
            unfold conflL
            rw [if_pos (by show s1.log.length < LIM; rw [glog]; unfold LIM; omega), if_pos e0]
          rw [hcf]
          exact ⟨2, _, rfl, .inr (.inl ⟨rfl, hun⟩), by show s1.steps + 1 ≤ budget; omega, by show 0 ≤ s1.steps + 1; omega⟩
    · rw [if_neg (by omega)]
      have hch := choose_ok (by omega) hord g hq
      rw [glev] at hch
      rcases hch with ⟨hch, hfirst⟩ | ⟨s2, hch, g2, glev2, ecls, elog, est, elen⟩
      · rw [hch]
        exact ⟨1, s1, rfl, .inl ⟨rfl, hfirst, g.val.len⟩, by omega, by omega⟩
      · rw [hch]
        simp only
        rw [← glev2]
        have hl2 := g2.tr.length
        rw [List.length_reverse] at hl2
        refine ih s2 left rst g2 (by rw [est, elog, glog]; omega) hr0 (by rw [elog, glog]; omega) (by rw [elog, glog]; omega) (by rw [elog, glog]; omega) (by omega) ?_
        rw [elog, glog]
        generalize (4 ^ n - s.log.length) * (n + 1) = K at *
        omega
end
end Go.Proofs.Ytcglokippflioaa

/-! Solve, plainly: a fit formula of at most fourteen variables has its first model told, or that there is none. -/
namespace Go.Proofs.Ytcglokippflioaa
theorem fitC_mono {vars : Int} {l : List Int} (h : fitC vars l) : ∀ (d i : Nat) (hj : i + d + 1 < l.length), size (l[i]'(by omega)) < size l[i + d + 1] := by
  have step : ∀ (i : Nat) (hj : i + 1 < l.length), size (l[i]'(by omega)) < size l[i + 1] := by
    intro i hj
    have := (h (i + 1) hj).2 (by omega)
    have e : gi l (((i + 1 : Nat) : Int) - 1) = l[i]'(by omega) := by
      unfold gi
      rw [show (((i + 1 : Nat) : Int) - 1).toNat = i by omega, List.getD_eq_getElem?_getD, List.getElem?_eq_getElem (by omega)]
      rfl
    rw [e] at this
    exact this
  intro d
  induction d with
  | zero => exact step
  | succ d ih =>
    intro i hj
    have h1 := ih i (by omega)
    have h2 := step (i + d + 1) (by omega)
    show size l[i] < size l[i + d + 1 + 1]
    omega
theorem fitC_lt {vars : Int} {l : List Int} (h : fitC vars l) {i j : Nat} (hj : j < l.length) (hij : i < j) : size (l[i]'(by omega)) < size l[j] := by
  obtain ⟨d, rfl⟩ : ∃ d, j = i + d + 1 := ⟨j - i - 1, by omega⟩
  exact fitC_mono h d i hj
theorem fitC_nodup {vars : Int} {l : List Int} (h : fitC vars l) : l.Nodup := by
  refine List.pairwise_iff_getElem.2 fun i j hi hj hij e => ?_
  have := fitC_lt h hj hij
  rw [e] at this
  omega
theorem fitC_lit {vars : Int} {l : List Int} (h : fitC vars l) : ∀ x ∈ l, litOk vars x := by
  intro x hx
  obtain ⟨i, hi, rfl⟩ := List.getElem_of_mem hx
  exact (h i hi).1
theorem fitC_size {vars : Int} {l : List Int} (h : fitC vars l) : ∀ (i : Nat) (hi : i < l.length), (i : Int) + 1 ≤ size l[i]
  | 0, hi => by
    have := (h 0 hi).1.1
    unfold size
    split <;> omega
  | i + 1, hi => by
    have h1 := fitC_size h i (by omega)
    have h2 := fitC_lt h hi (Nat.lt_succ_self i)
    omega
theorem fitC_len {vars : Int} {l : List Int} (h : fitC vars l) (hv : 0 ≤ vars) : (l.length : Int) ≤ vars := by
  rcases Nat.eq_zero_or_pos l.length with e | e
  · omega
  · have h1 := fitC_size h (l.length - 1) (by omega)
    have h2 := (h (l.length - 1) (by omega)).1
    unfold size at h1
    unfold litOk at h2
    split at h1 <;> omega
theorem nodup_len {vars : Int} {l : List Int} (hv : 0 ≤ vars) (h : ∀ x ∈ l, litOk vars x) (hd : l.Nodup) : (l.length : Int) ≤ 2 * vars + 1 := by
  have := pigeon (2 * vars + 1).toNat (l.map fun x => (x + vars).toNat) (by
    refine List.pairwise_map.2 (hd.imp_of_mem fun {a b} ha hb hne e => hne ?_)
    have h1 := (h a ha).2
    have h2 := (h b hb).2
    omega) (fun k hk => by
    obtain ⟨x, hx, rfl⟩ := List.mem_map.1 hk
    have := (h x hx).2
    omega)
  rw [List.length_map] at this
  omega
theorem SG.beg {n : Nat} {order : List Int} {fcl : List Cl} (hc : ∀ c ∈ fcl, fitC n c.lits) : SG n order (fcl.map Cl.lits) (begSt n order fcl fcl.length) where
  vars := rfl
  ord := rfl
  nf := by rw [List.length_map]; exact Nat.le_refl _
  cls := ⟨[], by unfold begSt; simp, List.nodup_nil⟩
  lits := by
    intro c h
    have h : c ∈ (fcl.take fcl.length).map Cl.lits := h
    rw [List.take_length] at h
    obtain ⟨d, hd, rfl⟩ := List.mem_map.1 h
    exact ⟨fitC_nodup (hc d hd), fitC_lit (hc d hd)⟩
  sound := by
    intro a ha c h
    have h : c ∈ (fcl.take fcl.length).map Cl.lits := h
    rw [List.take_length] at h
    exact ha.2 c h
  tr := trivial
  val := ⟨by show (List.replicate _ _).length = _; rw [List.length_replicate]; omega, fun t ht => (by cases ht), fun v h1 h2 _ => by
    show (List.replicate _ _).getD _ _ = _
    rw [List.getD_eq_getElem?_getD, List.getElem?_replicate]
    split <;> rfl⟩
  act1 := by
    intro i c h
    have h : ((fcl.take fcl.length).map Cl.lits)[i]? = some c := h
    rw [List.take_length] at h
    have := (List.getElem?_eq_some_iff.1 h).1
    rw [List.length_map] at this
    left
    show (if _ ∧ _ then (1 : Int) else 0) = 1
    rw [if_pos (by omega)]
  act0 := by
    intro i h
    have h : ((fcl.take fcl.length).map Cl.lits).length ≤ i := h
    rw [List.take_length, List.length_map] at h
    show (if _ ∧ _ then (1 : Int) else 0) = 0
    rw [if_neg (by omega)]
  closed := by
    intro j h0 h1
    have h1 : j < 0 := h1
    omega
  log := by
    show 0 + _ = ((fcl.take fcl.length).map Cl.lits).length
    rw [List.take_length, Nat.zero_add]
theorem solve_pure {n : Nat} {fcl : List Cl} {order : List Int} (hf : fitF n fcl order) (h14 : n ≤ 14) {budget : Int} (hb : 0 ≤ budget) :
    ∃ fuel r s', runL learnL budget fuel 0 0 0 (begSt n order fcl fcl.length) = some (r, s') ∧ Told n order (fcl.map Cl.lits) budget r s' ∧ s'.steps ≤ budget ∧ 0 ≤ s'.steps := by
  obtain ⟨h1, h2, h3, h4, h5, h6⟩ := hf
  have hl := nodup_len h1 h5 h6
  obtain ⟨M, hM⟩ : ∃ M, M = 4 ^ n * (n + 1) + n + 1 := ⟨_, rfl⟩
  refine ⟨M, ?_⟩
  have e0 : (begSt n order fcl fcl.length).log.length = 0 := rfl
  have e1 : (begSt n order fcl fcl.length).tr.length = 0 := rfl
  have e2 : (begSt n order fcl fcl.length).steps = 0 := rfl
  have e3 : levR (begSt n order fcl fcl.length).tr.reverse = 0 := rfl
  have hS := SG.beg (order := order) h4
  generalize begSt n order fcl fcl.length = s at *
  have := run_ok (learn_good h14) h14 (by rw [List.length_map]; exact h3) h5 (by unfold LIM; omega) budget M s 0 0 hS (by rw [e2, e0]; rfl) (Int.le_refl _) (by omega) (by omega) (by omega) (by omega) (by rw [e0, e1, hM, Nat.sub_zero, Nat.sub_zero]; omega)
  rw [e3] at this
  exact this
theorem first_unique {n : Nat} {order : List Int} {cls : List (List Int)} {a b : Int → Int} (ha : isFirst n (order ++ negs n) cls a) (hb : isFirst n (order ++ negs n) cls b) (ho : ∀ x ∈ order, litOk n x) : ∀ v : Int, 1 ≤ v → v ≤ n → a v = b v := by
  intro v h1 h2
  apply Classical.byContradiction
  intro hne
  have hrow : ∀ y ∈ order ++ negs n, 1 ≤ size y ∧ size y ≤ n := by
    intro y hy
    rcases List.mem_append.1 hy with hy | hy
    · have := ho y hy
      unfold litOk at this
      unfold size
      split <;> omega
    · have := (negs_mem n y).1 hy
      unfold size
      split <;> omega
  have key : ∀ (row : List Int), (∃ y ∈ row, a (size y) ≠ b (size y)) → ∃ pre l post, row = pre ++ l :: post ∧ (∀ y ∈ pre, a (size y) = b (size y)) ∧ a (size l) ≠ b (size l) := by
    intro row
    induction row with
    | nil => rintro ⟨y, hy, _⟩; cases hy
    | cons x row ih =>
      rintro ⟨y, hy, hn⟩
      by_cases hx : a (size x) = b (size x)
      · have hyr : y ∈ row := by
          rcases List.mem_cons.1 hy with rfl | h
          · exact absurd hx hn
          · exact h
        obtain ⟨pre, l, post, e, h3, h4⟩ := ih ⟨y, hyr, hn⟩
        exact ⟨x :: pre, l, post, by rw [e]; rfl, fun z hz => by rcases List.mem_cons.1 hz with rfl | hz; exact hx; exact h3 z hz, h4⟩
      · exact ⟨[], x, row, rfl, fun z hz => (by cases hz), hx⟩
  have hs : size (-v) = v := by unfold size; split <;> omega
  obtain ⟨pre, l, post, e, hp, hl⟩ := key (order ++ negs n) ⟨-v, List.mem_append_right _ ((negs_mem n _).2 (by omega)), by rw [hs]; exact hne⟩
  have hlr := hrow l (by rw [e]; simp)
  have h3 := ha.1.1 (size l) hlr.1 hlr.2
  have h4 := hb.1.1 (size l) hlr.1 hlr.2
  have hsl : size l = l ∨ size l = -l := by unfold size; split <;> omega
  by_cases hal : a (size l) = l
  · exact hb.2 a ha.1 ⟨pre, l, post, e, hp, hal, by omega⟩
  · exact ha.2 b hb.1 ⟨pre, l, post, e, fun y hy => (hp y hy).symm, by omega, hal⟩
theorem model_mem {n : Nat} {c1 c2 : List (List Int)} {a : Int → Int} (h : isModel n c1 a) (hm : ∀ c ∈ c2, c ∈ c1) : isModel n c2 a := ⟨h.1, fun c hc => h.2 c (hm c hc)⟩
end Go.Proofs.Ytcglokippflioaa

/-! What Solve tells, of the row that it hands back. -/
namespace Go.Proofs.Ytcglokippflioaa
theorem size_ge1 {n : Nat} {x : Int} (h : litOk n x) : 1 ≤ size x := by
  obtain ⟨h0, _, _⟩ := h
  unfold size
  split <;> omega
theorem isModel_congr {n : Nat} {cls : List (List Int)} {a b : Int → Int} (hc : ∀ c ∈ cls, ∀ x ∈ c, litOk n x) (h : ∀ v : Int, 1 ≤ v → a v = b v) (ha : isModel n cls a) : isModel n cls b :=
  ⟨fun v h1 h2 => by rw [← h v h1]; exact ha.1 v h1 h2, fun c hcc => by
    obtain ⟨x, hx, e⟩ := ha.2 c hcc
    exact ⟨x, hx, by rw [← h _ (size_ge1 (hc c hcc x hx))]; exact e⟩⟩
theorem ahead_congr {n : Nat} {row : List Int} {a b c d : Int → Int} (hr : ∀ y ∈ row, litOk n y) (h1 : ∀ v : Int, 1 ≤ v → a v = c v) (h2 : ∀ v : Int, 1 ≤ v → b v = d v) (h : ahead row a b) : ahead row c d := by
  obtain ⟨pre, l, post, e, hp, ha, hb⟩ := h
  have hl := size_ge1 (hr l (by rw [e]; simp))
  refine ⟨pre, l, post, e, fun y hy => ?_, by rw [← h1 _ hl]; exact ha, by rw [← h2 _ hl]; exact hb⟩
  have := size_ge1 (hr y (by rw [e]; simp [hy]))
  rw [← h1 _ this, ← h2 _ this]
  exact hp y hy
theorem isFirst_congr {n : Nat} {row : List Int} {cls : List (List Int)} {a b : Int → Int} (hc : ∀ c ∈ cls, ∀ x ∈ c, litOk n x) (hr : ∀ y ∈ row, litOk n y) (h : ∀ v : Int, 1 ≤ v → a v = b v) (ha : isFirst n row cls a) : isFirst n row cls b :=
  ⟨isModel_congr hc h ha.1, fun d hd hah => ha.2 d hd (ahead_congr hr (fun _ _ => rfl) (fun v hv => (h v hv).symm) hah)⟩
theorem gi_tail {val : List Int} {v : Int} (h : 1 ≤ v) : gi (0 :: val.tail) v = gi val v := by
  obtain ⟨k, rfl⟩ : ∃ k : Nat, v = (k : Int) + 1 := ⟨(v - 1).toNat, by omega⟩
  unfold gi
  rw [show ((k : Int) + 1).toNat = k + 1 by omega, List.getD_eq_getElem?_getD, List.getD_eq_getElem?_getD, List.getElem?_cons_succ, List.getElem?_tail]
/-- The answer: the first model, or none. -/
def Answer (n : Nat) (order : List Int) (cls : List (List Int)) (r : Int) (m : List Int) : Prop :=
  (r = 1 ∧ m.length = n ∧ isFirst n (order ++ negs n) cls (gi (0 :: m))) ∨ (r = 2 ∧ m = [] ∧ ∀ a, ¬ isModel n cls a)
theorem solve_answer {n : Nat} {fcl : List Cl} {order : List Int} (hf : fitF n fcl order) (h14 : n ≤ 14) {budget : Int} (hb : 268435456 < budget) :
    ∃ fuel r s', runL learnL budget fuel 0 0 0 (begSt n order fcl fcl.length) = some (r, s') ∧ (r = 1 → s'.val.length = n + 1) ∧ Answer n order (fcl.map Cl.lits) r (if r = 1 then s'.val.tail else []) ∧ s'.steps ≤ budget ∧ 0 ≤ s'.steps := by
  obtain ⟨fuel, r, s', h1, h2, h3, h4⟩ := solve_pure hf h14 (budget := budget) (by omega)
  have hc : ∀ c ∈ fcl.map Cl.lits, ∀ x ∈ c, litOk n x := by
    intro c hcm x hx
    obtain ⟨d, hd, rfl⟩ := List.mem_map.1 hcm
    exact fitC_lit (hf.2.2.2.1 d hd) x hx
  have hr : ∀ y ∈ order ++ negs n, litOk n y := by
    intro y hy
    rcases List.mem_append.1 hy with hy | hy
    · exact hf.2.2.2.2.1 y hy
    · have := (negs_mem n y).1 hy
      exact ⟨by omega, by omega, by omega⟩
  refine ⟨fuel, r, s', h1, ?_, ?_, h3, h4⟩
  · intro e
    rcases h2 with ⟨_, _, h⟩ | ⟨e2, _⟩ | ⟨e3, _⟩
    · exact h
    · omega
    · omega
  · rcases h2 with ⟨e, hf1, h⟩ | ⟨e, hno⟩ | ⟨e, hbu⟩
    · left
      rw [if_pos e]
      exact ⟨e, by rw [List.length_tail]; omega, isFirst_congr hc hr (fun v hv => (gi_tail hv).symm) hf1⟩
    · right
      rw [if_neg (by omega)]
      exact ⟨e, rfl, hno⟩
    · have h4' : 4 ^ n ≤ 4 ^ 14 := Nat.pow_le_pow_right (by omega) h14
      have : (4 ^ 14 : Nat) = 268435456 := by decide
      omega
/-- Two lists of one answer. -/
theorem answer_same {n : Nat} {order : List Int} {c1 c2 : List (List Int)} {r1 r2 : Int} {m1 m2 : List Int} (ho : ∀ x ∈ order, litOk n x) (h12 : ∀ c, c ∈ c1 ↔ c ∈ c2) (h1 : Answer n order c1 r1 m1) (h2 : Answer n order c2 r2 m2) : r1 = r2 ∧ m1 = m2 := by
  have hmod : ∀ a, isModel n c1 a ↔ isModel n c2 a := fun a => ⟨fun h => model_mem h (fun c hc => (h12 c).2 hc), fun h => model_mem h (fun c hc => (h12 c).1 hc)⟩
  rcases h1 with ⟨e1, l1, f1⟩ | ⟨e1, l1, n1⟩
  · rcases h2 with ⟨e2, l2, f2⟩ | ⟨e2, l2, n2⟩
    · refine ⟨by omega, ?_⟩
      have f1' : isFirst n (order ++ negs n) c2 (gi (0 :: m1)) := ⟨(hmod _).1 f1.1, fun b hb => f1.2 b ((hmod _).2 hb)⟩
      have hu := first_unique f1' f2 ho
      refine List.ext_getElem (by omega) fun i h1 h2 => ?_
      have := hu ((i : Int) + 1) (by omega) (by omega)
      unfold gi at this
      rw [show ((i : Int) + 1).toNat = i + 1 by omega, List.getD_eq_getElem?_getD, List.getD_eq_getElem?_getD, List.getElem?_cons_succ, List.getElem?_cons_succ, List.getElem?_eq_getElem h1, List.getElem?_eq_getElem h2] at this
      exact this
    · exact absurd ((hmod _).1 f1.1) (n2 _)
  · rcases h2 with ⟨e2, l2, f2⟩ | ⟨e2, l2, n2⟩
    · exact absurd ((hmod _).2 f2.1) (n1 _)
    · exact ⟨by omega, by rw [l1, l2]⟩
/-- With a clause more. -/
theorem answer_more {n : Nat} {order : List Int} {c1 c2 : List (List Int)} {r1 r2 : Int} {m1 m2 : List Int} (h12 : ∀ c ∈ c1, c ∈ c2) (h1 : Answer n order c1 r1 m1) (h2 : Answer n order c2 r2 m2) (hr : r2 = 1) : r1 = 1 ∧ isModel n c1 (gi (0 :: m2)) ∧ ¬ ahead (order ++ negs n) (gi (0 :: m2)) (gi (0 :: m1)) := by
  rcases h2 with ⟨e2, l2, f2⟩ | ⟨e2, _⟩
  · have hm := model_mem f2.1 h12
    rcases h1 with ⟨e1, l1, f1⟩ | ⟨e1, l1, n1⟩
    · exact ⟨e1, hm, f1.2 _ hm⟩
    · exact absurd hm (n1 _)
  · omega
end Go.Proofs.Ytcglokippflioaa

/-! Two searches, run. -/
namespace Go.Proofs.Ytcglokippflioaa
def noLearn : List (List Int) → List Tr → Int → Option (List Int × Int × Bool) := fun _ _ _ => none
theorem run1 : ∃ s', runL noLearn 100 5 0 0 0 (begSt 2 [-1, 2] [⟨[1, 2], 0⟩] 1) = some (1, s') ∧ s'.val = [0, -1, 2] ∧ s'.log = [] := by
  have h : (runL noLearn 100 5 0 0 0 (begSt 2 [-1, 2] [⟨[1, 2], 0⟩] 1)).map (fun p => (p.1, p.2.val, p.2.log)) = some (1, [0, -1, 2], []) := by decide +kernel
  cases hx : runL noLearn 100 5 0 0 0 (begSt 2 [-1, 2] [⟨[1, 2], 0⟩] 1) with
  | none => rw [hx] at h; cases h
  | some p =>
    rw [hx] at h
    obtain ⟨r, s⟩ := p
    simp only [Option.map_some, Option.some.injEq, Prod.mk.injEq] at h
    exact ⟨s, by rw [h.1], h.2.1, h.2.2⟩
theorem run2 : ∃ s', runL noLearn 100 5 0 0 0 (begSt 1 [] [⟨[1], 0⟩, ⟨[-1], 0⟩] 2) = some (2, s') ∧ s'.log = [[]] := by
  have h : (runL noLearn 100 5 0 0 0 (begSt 1 [] [⟨[1], 0⟩, ⟨[-1], 0⟩] 2)).map (fun p => (p.1, p.2.log)) = some (2, [[]]) := by decide +kernel
  cases hx : runL noLearn 100 5 0 0 0 (begSt 1 [] [⟨[1], 0⟩, ⟨[-1], 0⟩] 2) with
  | none => rw [hx] at h; cases h
  | some p =>
    rw [hx] at h
    obtain ⟨r, s⟩ := p
    simp only [Option.map_some, Option.some.injEq, Prod.mk.injEq] at h
    exact ⟨s, by rw [h.1], h.2⟩
theorem fit1 : fitF 2 [⟨[1, 2], 0⟩] [-1, 2] := by
  refine ⟨by omega, by omega, by simp, ?_, ?_, by decide⟩
  · intro c hc
    rw [List.mem_singleton] at hc
    subst hc
    intro i hi
    match i, hi with
    | 0, _ => exact ⟨show litOk 2 1 by decide, fun h => by omega⟩
    | 1, _ => exact ⟨show litOk 2 2 by decide, fun _ => show size (gi [1, 2] (((1 : Nat) : Int) - 1)) < size 2 by decide⟩
  · intro x hx
    simp only [List.mem_cons, List.not_mem_nil, or_false] at hx
    rcases hx with rfl | rfl <;> decide
theorem fit2 : fitF 1 [⟨[1], 0⟩, ⟨[-1], 0⟩] [] := by
  refine ⟨by omega, by omega, by simp, ?_, by simp, by simp⟩
  intro c hc
  simp only [List.mem_cons, List.not_mem_nil, or_false] at hc
  rcases hc with rfl | rfl
  all_goals
    intro i hi
    match i, hi with
    | 0, _ => first | exact ⟨show litOk 1 1 by decide, fun h => by omega⟩ | exact ⟨show litOk 1 (-1) by decide, fun h => by omega⟩
theorem lub3 : lub 3 = 2 := by
  unfold lub
  rw [dif_neg (by omega), show (3 : Nat).log2 = 1 by decide]; rfl
theorem lub7 : lub 7 = 4 := by
  unfold lub
  rw [dif_neg (by omega), show (7 : Nat).log2 = 2 by decide]; rfl
end Go.Proofs.Ytcglokippflioaa
