import Derived.Test.YtcglokippflioaaImg
/-! Two searches, run. -/
namespace Go.Proofs.Ytcglokippflioaa
def noLearn : List (List Int) → List Tr → Int → Option (List Int × Int × Bool) := fun _ _ _ => none
theorem ex1 : ∃ s', runL noLearn 100 5 0 0 0 (begSt 2 [-1, 2] [⟨[1, 2], 0⟩] 1) = some (1, s') ∧ s'.val = [0, -1, 2] ∧ s'.log = [] := by
  have h : (runL noLearn 100 5 0 0 0 (begSt 2 [-1, 2] [⟨[1, 2], 0⟩] 1)).map (fun p => (p.1, p.2.val, p.2.log)) = some (1, [0, -1, 2], []) := by decide +kernel
  cases hx : runL noLearn 100 5 0 0 0 (begSt 2 [-1, 2] [⟨[1, 2], 0⟩] 1) with
  | none => rw [hx] at h; cases h
  | some p =>
    rw [hx] at h
    obtain ⟨r, s⟩ := p
    simp only [Option.map_some, Option.some.injEq, Prod.mk.injEq] at h
    exact ⟨s, by rw [h.1], h.2.1, h.2.2⟩
theorem ex2 : ∃ s', runL noLearn 100 5 0 0 0 (begSt 1 [] [⟨[1], 0⟩, ⟨[-1], 0⟩] 2) = some (2, s') ∧ s'.log = [[]] := by
  have h : (runL noLearn 100 5 0 0 0 (begSt 1 [] [⟨[1], 0⟩, ⟨[-1], 0⟩] 2)).map (fun p => (p.1, p.2.log)) = some (2, [[]]) := by decide +kernel
  cases hx : runL noLearn 100 5 0 0 0 (begSt 1 [] [⟨[1], 0⟩, ⟨[-1], 0⟩] 2) with
  | none => rw [hx] at h; cases h
  | some p =>
    rw [hx] at h
    obtain ⟨r, s⟩ := p
    simp only [Option.map_some, Option.some.injEq, Prod.mk.injEq] at h
    exact ⟨s, by rw [h.1], h.2⟩
theorem fit1 : fitF 2 [⟨[1, 2], 0⟩] [-1, 2] := by
  refine ⟨by omega, by omega, by simp, ?_, ?_, by decide⟩
  · intro c hc
    rw [List.mem_singleton] at hc
    subst hc
    intro i hi
    match i, hi with
    | 0, _ => exact ⟨show litOk 2 1 by decide, fun h => by omega⟩
    | 1, _ => exact ⟨show litOk 2 2 by decide, fun _ => show size (gi [1, 2] (((1 : Nat) : Int) - 1)) < size 2 by decide⟩
  · intro x hx
    simp only [List.mem_cons, List.not_mem_nil, or_false] at hx
    rcases hx with rfl | rfl <;> decide
theorem fit2 : fitF 1 [⟨[1], 0⟩, ⟨[-1], 0⟩] [] := by
  refine ⟨by omega, by omega, by simp, ?_, by simp, by simp⟩
  intro c hc
  simp only [List.mem_cons, List.not_mem_nil, or_false] at hc
  rcases hc with rfl | rfl
  all_goals
    intro i hi
    match i, hi with
    | 0, _ => first | exact ⟨show litOk 1 1 by decide, fun h => by omega⟩ | exact ⟨show litOk 1 (-1) by decide, fun h => by omega⟩
theorem lub3 : lub 3 = 2 := by
  unfold lub
  rw [dif_neg (by omega), show (3 : Nat).log2 = 1 by decide]; rfl
theorem lub7 : lub 7 = 4 := by
  unfold lub
  rw [dif_neg (by omega), show (7 : Nat).log2 = 2 by decide]; rfl
end Go.Proofs.Ytcglokippflioaa
