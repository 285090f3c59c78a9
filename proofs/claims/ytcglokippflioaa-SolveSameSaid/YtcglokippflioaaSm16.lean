/- Texts of the claim, in one: Bri. -/
import Derived.Test.YtcglokippflioaaSm11
import Derived.Test.YtcglokippflioaaSm15

/-! The library's functions, in this proof's words. -/
namespace Go.Proofs.Ytcglokippflioaa
open Go Go.RowKit YLib
theorem getD_of {xs : List Int} {j : Nat} (h : j < xs.length) : xs.getD j 0 = xs[j] := by rw [List.getD_eq_getElem?_getD, List.getElem?_eq_getElem h]; rfl
/-- A row of numbers, in the shelf's words. -/
theorem intCells {w : World} {S : Nat → Prop} {b o : Nat} {xs : List Int} (h : RowAt Kind.int w S (some ⟨b, o, none⟩) xs) : ∀ j, j < xs.length → w.cell? ⟨b, o + j, none⟩ = some (.int .i64 (xs.getD j 0)) := by
  intro j hj
  obtain ⟨b', o', hA, hc⟩ := intAt h (List.getElem?_eq_getElem hj)
  injection hA with hA
  injection hA with hA hA2
  subst hA hA2
  rw [getD_of hj]; exact hc
theorem Clone_calls {w : World} {S : Nat → Prop} {A : Option Addr} {cc : Nat} {c : List Int} (h : RowAt Kind.int w S A c) (hb : c.length ≤ LIM) :
    Calls Try.prog 33 #[.slice A c.length cc] w fun e w' => ∃ A' c', e = .returned (.slice A' c.length c') ∧ Below w.heap.size w w' ∧ (rowP Kind.int 3 (.slice A' c.length c') c).holds w' (fun k => w.heap.size ≤ k) := by
  have key : Calls Try.prog 33 #[.slice A c.length cc] w fun e w' => ∃ v', e = .returned v' ∧ Below w.heap.size w w' ∧ (rowP Kind.int 3 v' c).holds w' (fun k => w.heap.size ≤ k) := by
    unfold LIM at hb
    rcases A with _ | a
    · have h0 : c = [] := by
        rcases h with h | ⟨_, _, h, _⟩
        · exact h
        · cases h
      subst h0
      exact (Try.slices_Clone_int_nil _ cc w).mono fun e w' ⟨he, hw⟩ => ⟨_, he, by rw [hw]; exact Below.refl _ _, Owned.nil _ _ _ _⟩
    · rcases Nat.eq_zero_or_pos c.length with h0 | h0
      · obtain rfl := List.eq_nil_of_length_eq_zero h0
        exact (Try.slices_Clone_int_zero a cc w).mono fun e w' ⟨v', he, ho, _, hbl⟩ => ⟨v', he, hbl, Owned.of_row (enc := Value.int .i64) (xs := []) ho (fun _ h => h)⟩
      · obtain ⟨b, o, hA⟩ := RowAt.addr h h0
        injection hA with hA
        subst hA
        exact (Try.slices_Clone_int b o c.length cc c w (Nat.le_refl _) (by omega) (intCells h)).mono fun e w' ⟨v', he, ho, _, hbl⟩ => ⟨v', he, hbl, by rw [List.take_length] at ho; exact Owned.of_row ho (fun _ h => h)⟩
  refine key.mono ?_
  rintro e w' ⟨v', rfl, hb, hr⟩
  obtain ⟨A', c', rfl, _⟩ := Owned.reads (d := Kind.int) hr
  exact ⟨A', c', rfl, hb, hr⟩
end Go.Proofs.Ytcglokippflioaa
