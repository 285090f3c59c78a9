/-! The images of the search's functions: plain Lean, no program. -/
namespace Go.Proofs.Ytcglokippflioaa
def size (x : Int) : Int := if 0 ≤ x then x else -x
def gi (xs : List Int) (i : Int) : Int := xs.getD i.toNat 0
/-- No list of a search grows past this. -/
def LIM : Nat := 1000000000
structure Tr where
  lit : Int
  reason : Int
  level : Int
  deriving DecidableEq
structure Cl where
  lits : List Int
  tag : Int
  deriving DecidableEq
structure St where
  vars : Int
  nf : Nat
  order : List Int
  val : List Int
  tr : List Tr
  cls : List (List Int)
  act : Int → Int
  log : List (List Int)
  steps : Int
def lastLevel (tr : List Tr) : Int := match tr.getLast? with | some t => t.level | none => 0
def backR (lv : Int) : List Int → List Tr → List Int × List Tr
  | val, [] => (val, [])
  | val, t :: r => if t.level > lv then backR lv (val.set (size t.lit).toNat 0) r else (val, t :: r)
/-- Back to a level. -/
def backL (lv : Int) (val : List Int) (tr : List Tr) : List Int × List Tr := ((backR lv val tr.reverse).1, (backR lv val tr.reverse).2.reverse)
theorem backL_nil (lv : Int) (val : List Int) : backL lv val [] = (val, []) := rfl
theorem backL_yes {lv : Int} {val : List Int} {pre : List Tr} {t : Tr} (h : t.level > lv) : backL lv val (pre ++ [t]) = backL lv (val.set (size t.lit).toNat 0) pre := by simp [backL, backR, h]
theorem backL_no {lv : Int} {val : List Int} {pre : List Tr} {t : Tr} (h : ¬ t.level > lv) : backL lv val (pre ++ [t]) = (val, pre ++ [t]) := by simp [backL, backR, h]
def lookL (val : List Int) : List Int → Int → Int → Option (Int × Int × Bool)
  | [], o, l => some (o, l, false)
  | x :: xs, o, l => if 0 ≤ size x ∧ size x < val.length then (if gi val (size x) = x then some (0, 0, true) else if gi val (size x) = 0 then lookL val xs (o + 1) x else lookL val xs o l) else none
def forgetL (val : List Int) : List (List Int) → Nat → (Int → Int) → Option (Int → Int)
  | [], _, act => some act
  | c :: cs, i, act => match lookL val c 0 0 with
    | none => none
    | some (_, _, t) => if c.length ≤ LIM then forgetL val cs (i + 1) (if t = true then (fun j => if j = i then 0 else act j) else act) else none
def scanL (act : Int → Int) (lvl : Int) : List (List Int) → Nat → List Int → List Tr → Bool → Option (Option Nat × List Int × List Tr × Bool)
  | [], _, val, tr, ag => some (none, val, tr, ag)
  | c :: cs, i, val, tr, ag => if act i = 0 then scanL act lvl cs (i + 1) val tr ag else
    match lookL val c 0 0 with
    | none => none
    | some (o, l, t) => if c.length ≤ LIM then
        (if t = true then scanL act lvl cs (i + 1) val tr ag else if 1 < o then scanL act lvl cs (i + 1) val tr ag else if o = 0 then some (some i, val, tr, ag)
         else if 0 ≤ size l ∧ size l < val.length ∧ tr.length < LIM then scanL act lvl cs (i + 1) (val.set (size l).toNat l) (tr ++ [⟨l, i, lvl⟩]) true else none) else none
def propL (cls : List (List Int)) (act : Int → Int) (lvl : Int) : Nat → List Int → List Tr → Option (Int × List Int × List Tr)
  | 0, _, _ => none
  | k + 1, val, tr => match scanL act lvl cls 0 val tr false with
    | none => none
    | some (some i, v, t, _) => some ((i : Int), v, t)
    | some (none, v, t, true) => propL cls act lvl k v t
    | some (none, v, t, false) => some (-1, v, t)
def propK (cls : List (List Int)) (act : Int → Int) (lvl : Int) (k : Nat) : Option (Option Nat × List Int × List Tr × Bool) → Option (Int × List Int × List Tr)
  | none => none
  | some (some i, v, t, _) => some ((i : Int), v, t)
  | some (none, v, t, true) => propL cls act lvl k v t
  | some (none, v, t, false) => some (-1, v, t)
theorem propL_succ (cls : List (List Int)) (act : Int → Int) (lvl : Int) (k : Nat) (val : List Int) (tr : List Tr) : propL cls act lvl (k + 1) val tr = propK cls act lvl k (scanL act lvl cls 0 val tr false) := rfl
def okLits (val : List Int) (tr : List Tr) : Prop := ∀ t ∈ tr, 0 ≤ size t.lit ∧ size t.lit < val.length
instance (val : List Int) (tr : List Tr) : Decidable (okLits val tr) := by unfold okLits; infer_instance
/-- A clause learned and its first literal set. -/
def learnt (s : St) (x : Int) (c : List Int) (lv : Int) : St :=
  { s with val := (backL lv s.val s.tr).1.set (size x).toNat x, tr := (backL lv s.val s.tr).2 ++ [⟨x, s.cls.length, lv⟩], log := s.log ++ [c], cls := s.cls ++ [c], act := fun j => if j = s.cls.length then s.act j + 1 else s.act j }
def conflL (LF : List (List Int) → List Tr → Int → Option (List Int × Int × Bool)) (s : St) (k : Int) : Option (St × Bool) :=
  if s.log.length < LIM then
    if lastLevel s.tr = 0 then some ({ s with log := s.log ++ [[]] }, false)
    else if s.cls.length < LIM ∧ s.tr.length < LIM ∧ (∀ c ∈ s.cls, c.length ≤ LIM) ∧ okLits s.val s.tr ∧ 0 ≤ s.act s.cls.length ∧ s.act s.cls.length ≤ 1 ∧ -LIM ≤ lastLevel s.tr ∧ lastLevel s.tr ≤ LIM then
      match LF s.cls s.tr k with
      | none => none
      | some (_, _, false) => some ({ s with val := (backL (lastLevel s.tr - 1) s.val s.tr).1, tr := (backL (lastLevel s.tr - 1) s.val s.tr).2 }, true)
      | some ([], _, true) => none
      | some (x :: c, lv, true) => if 0 ≤ size x ∧ size x < (backL lv s.val s.tr).1.length ∧ (backL lv s.val s.tr).2.length < LIM ∧ (x :: c).length ≤ LIM then some (learnt s x (x :: c) lv, true) else none
    else none
  else none
def lub (u : Nat) : Nat :=
  if h : u < 2 then u else if 2 ^ (u.log2 + 1) - 1 = u then 2 ^ u.log2 else lub (u - (2 ^ u.log2 - 1))
termination_by u
decreasing_by
  have h1 : 1 ≤ u.log2 := (Nat.le_log2 (by omega)).2 (by omega)
  have h2 : 2 ≤ 2 ^ u.log2 := by
    have := Nat.pow_le_pow_right (n := 2) (by omega) h1
    omega
  omega
def opn (val : List Int) (x : Int) : Bool := gi val (size x) == 0
def negs (n : Nat) : List Int := (List.range n).map fun i : Nat => -((i : Int) + 1)
def rowL (order : List Int) (vars : Nat) (val : List Int) : List Int := order.filter (opn val) ++ (negs vars).filter (opn val)
def begSt (vars : Int) (order : List Int) (fcl : List Cl) (k : Nat) : St :=
  { vars := vars, nf := fcl.length, order := order, val := List.replicate (vars.toNat + 1) 0, tr := [], cls := (fcl.take k).map Cl.lits, act := fun j => if 0 ≤ j ∧ j < k then 1 else 0, log := [], steps := 0 }
def litOk (vars x : Int) : Prop := x ≠ 0 ∧ -vars ≤ x ∧ x ≤ vars
instance (vars x : Int) : Decidable (litOk vars x) := by unfold litOk; infer_instance
def fitC (vars : Int) (l : List Int) : Prop := ∀ i (h : i < l.length), litOk vars l[i] ∧ (0 < i → size (gi l ((i : Int) - 1)) < size l[i])
def fitF (vars : Int) (cls : List Cl) (order : List Int) : Prop := 0 ≤ vars ∧ vars ≤ 4096 ∧ cls.length ≤ 65536 ∧ (∀ c ∈ cls, fitC vars c.lits) ∧ (∀ x ∈ order, litOk vars x) ∧ order.Nodup
def okRun (s : St) : Prop :=
  0 ≤ s.vars ∧ s.vars < LIM ∧ s.val.length = s.vars.toNat + 1 ∧ s.order.length ≤ LIM ∧ s.nf ≤ s.cls.length ∧ s.cls.length < LIM ∧ 0 ≤ s.steps ∧ s.steps ≤ 1152921504606846976 ∧ ∀ x ∈ s.order, 0 ≤ size x ∧ size x < s.val.length
instance (s : St) : Decidable (okRun s) := by unfold okRun; infer_instance
def okNums (left rst lv : Int) : Prop := -1152921504606846976 ≤ left ∧ left ≤ 1152921504606846976 ∧ 0 ≤ rst ∧ rst ≤ 1125899906842624 ∧ 0 ≤ lv ∧ lv ≤ LIM
instance (left rst lv : Int) : Decidable (okNums left rst lv) := by unfold okNums; infer_instance
/-- What becomes of a search behind a conflict. -/
def afterL (left rst : Int) (s2 : St) : Option (Int × Int × Int × St) :=
  if left - 1 ≤ 0 ∧ 0 < lastLevel s2.tr then
    if okLits s2.val s2.tr ∧ s2.nf ≤ s2.cls.length ∧ s2.cls.length ≤ LIM ∧ 0 < s2.val.length ∧ 0 < (backL 0 s2.val s2.tr).1.length then
      match forgetL (backL 0 s2.val s2.tr).1 (s2.cls.drop s2.nf) s2.nf s2.act with
      | none => none
      | some a => some (32 * lub (rst + 1).toNat, rst + 1, 0, { s2 with val := (backL 0 s2.val s2.tr).1, tr := (backL 0 s2.val s2.tr).2, act := a })
    else none
  else some (left - 1, rst, lastLevel s2.tr, s2)
def chooseL (lv : Int) (s : St) : Option (St ⊕ St) :=
  match rowL s.order s.vars.toNat s.val with
  | [] => some (.inl s)
  | x :: _ => if 0 ≤ size x ∧ size x < s.val.length ∧ s.tr.length < LIM then some (.inr { s with val := s.val.set (size x).toNat x, tr := s.tr ++ [⟨x, -1, lv + 1⟩] }) else none
def propS (lv : Int) (s : St) : Option (Int × St) :=
  match propL s.cls s.act lv (s.val.length + 2) s.val s.tr with
  | none => none
  | some (k, v, t) => if v.length = s.val.length then some (k, { s with val := v, tr := t }) else none
def runL (LF : List (List Int) → List Tr → Int → Option (List Int × Int × Bool)) (budget : Int) : Nat → Int → Int → Int → St → Option (Int × St)
  | 0, _, _, _, _ => none
  | k + 1, left, rst, lv, s =>
    if okRun s ∧ okNums left rst lv then
      match propS lv s with
      | none => none
      | some (pk, s1) =>
        if 0 ≤ pk then
          if s1.steps = budget then some (3, s1)
          else match conflL LF { s1 with steps := s1.steps + 1 } pk with
            | none => none
            | some (s2, false) => some (2, s2)
            | some (s2, true) => match afterL left rst s2 with
              | none => none
              | some (l', r', v', s3) => runL LF budget k l' r' v' s3
        else match chooseL lv s1 with
          | none => none
          | some (.inl s2) => some (1, s2)
          | some (.inr s2) => runL LF budget k left rst (lv + 1) s2
    else none
end Go.Proofs.Ytcglokippflioaa
