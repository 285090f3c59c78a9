import Derived.Test.YtcglokippflioaaSetW
import Derived.Outline
/-! Level, level, back. -/
namespace Go.Proofs.Ytcglokippflioaa
open Go Go.RowKit YLib
theorem trAt {w : World} {S : Nat → Prop} {A : Option Addr} {tr : List Tr} (h : RowAt trK w S A tr) {i : Nat} {t : Tr} (ht : tr[i]? = some t) : ∃ b o, A = some ⟨b, o, none⟩ ∧
    w.cell? ⟨b, o + i * 3, none⟩ = some (.int .i64 t.lit) ∧ w.cell? ⟨b, o + i * 3 + 1, none⟩ = some (.int .i64 t.reason) ∧ w.cell? ⟨b, o + i * 3 + 2, none⟩ = some (.int .i64 t.level) := by
  obtain ⟨hi, rfl⟩ := List.getElem?_eq_some_iff.1 ht
  rcases h with rfl | ⟨b, o, hA, _, _, h⟩
  · simp at hi
  · obtain ⟨cs, h1, h2⟩ := h i hi
    rw [trK_inv h1] at h2
    exact ⟨b, o, hA, h2 0 _ rfl, h2 1 _ rfl, h2 2 _ rfl⟩
theorem lastLevel_eq {tr : List Tr} {t : Tr} (h : tr[tr.length - 1]? = some t) : lastLevel tr = t.level := by
  unfold lastLevel
  rw [List.getLast?_eq_getElem?, h]
theorem Level_calls {w : World} {S : Nat → Prop} {A : Option Addr} {c : Nat} {tr : List Tr} (h : RowAt trK w S A tr) (hm : tr.length ≤ 9223372036854775807) (hc : tr.length ≤ c) :
    Calls Try.prog 36 #[.slice A tr.length c] w fun e w' => e = .returned (.int .i64 (lastLevel tr)) ∧ ∃ q, w' = w.drewN q := by
  rcases Nat.eq_zero_or_pos tr.length with h0 | h0
  · obtain rfl := List.eq_nil_of_length_eq_zero h0
    go_enter Try.func36, Try.ntmps36
    go_wp2
    go_ret
    exact ⟨rfl, 0, rfl⟩
  · obtain ⟨t, ht⟩ : ∃ t, tr[tr.length - 1]? = some t := ⟨_, List.getElem?_eq_getElem (by omega)⟩
    obtain ⟨b, o, rfl, _, _, h3⟩ := trAt h ht
    rw [lastLevel_eq ht]
    clear ht h
    generalize tr.length = n at *
    generalize t.level = l at *
    obtain ⟨k, rfl⟩ : ∃ k, n = k + 1 := ⟨n - 1, by omega⟩
    rw [Nat.add_sub_cancel] at h3
    go_enter Try.func36, Try.ntmps36
    go_wp2
    go_ret
    exact ⟨rfl, 0, rfl⟩
section
variable {w0 w : World} {T : Nat → Prop} {b m : Nat} {fc fo vc vv vt vl : Value} {s : St} {rest : List HP}
theorem level_calls (h : Inv w0 T w (sP b fc fo vc vv vt vl m s ++ rest)) :
    Calls Try.prog 26 #[.pointer (some ⟨b, 0, none⟩)] w fun e w' => e = .returned (.int .i64 (lastLevel s.tr)) ∧ ∃ q, w' = w.drewN q := by
  have hc6 := (h.cell (i := 0) rfl 6 rfl).1
  obtain ⟨A, c, rfl, hle, h63, hr⟩ := h.rowShape (i := 2) rfl
  have HL := hid (fun W q (hW : W = w.drewN q) => (by subst hW; exact Level_calls (w := w.drewN q) (S := fun _ => True) (A := A) (c := c) (tr := s.tr) (hr.move (fun _ _ _ => rfl) |>.mono (fun _ _ => trivial)) h63 hle : Calls Try.prog 36 #[.slice A s.tr.length c] W fun e w' => e = .returned (.int .i64 (lastLevel s.tr)) ∧ ∃ q, w' = W.drewN q))
  clear hr h
  generalize lastLevel s.tr = l at *
  go_enter Try.func26, Try.ntmps26
  go_wp2_with (go_at_call 36; refine (HL.out w 0 rfl).mono ?_; rintro e w' ⟨rfl, q, rfl⟩)
  go_ret
  exact ⟨rfl, q, rfl⟩
end
end Go.Proofs.Ytcglokippflioaa
