import Derived.Test.YtcglokippflioaaBackW
/-! look. -/
namespace Go.Proofs.Ytcglokippflioaa
open Go Go.RowKit YLib
theorem intAt {w : World} {S : Nat → Prop} {A : Option Addr} {xs : List Int} (h : RowAt Kind.int w S A xs) {i : Nat} {x : Int} (hx : xs[i]? = some x) : ∃ b o, A = some ⟨b, o, none⟩ ∧ w.cell? ⟨b, o + i, none⟩ = some (.int .i64 x) := by
  obtain ⟨hi, rfl⟩ := List.getElem?_eq_some_iff.1 hx
  rcases h with rfl | ⟨b, o, hA, _, _, h⟩
  · simp at hi
  · obtain ⟨cs, h1, h2⟩ := h i hi
    have h1 : cs = [.int .i64 xs[i]] := h1
    have := h2 0 (.int .i64 xs[i]) (by rw [h1]; rfl)
    have hsz : Kind.int.sz = 1 := rfl
    rw [hsz, Nat.mul_one, Nat.add_zero] at this
    exact ⟨b, o, hA, this⟩
/-- The address of a row that holds something. -/
theorem RowAt.addr {α : Type} {d : Kind α} {w : World} {S : Nat → Prop} {A : Option Addr} {xs : List α} (h : RowAt d w S A xs) (hp : 0 < xs.length) : ∃ b o, A = some ⟨b, o, none⟩ := by
  rcases h with rfl | ⟨b, o, hA, _⟩
  · simp at hp
  · exact ⟨b, o, hA⟩
theorem drop_of {α : Type} {xs : List α} {k : Nat} {x : α} (h : xs[k]? = some x) : xs.drop k = x :: xs.drop (k + 1) := by
  obtain ⟨hi, rfl⟩ := List.getElem?_eq_some_iff.1 h
  exact List.drop_eq_getElem_cons hi
section
variable {w0 w : World} {T : Nat → Prop} {b m : Nat} {fc fo vc vv vt vl : Value} {s : St} {rest : List HP}
set_option maxHeartbeats 2000000 in
theorem look_calls (h : Inv w0 T w (sP b fc fo vc vv vt vl m s ++ rest)) {S : Nat → Prop} {A : Option Addr} {cc : Nat} {c : List Int} (hc : RowAt Kind.int w S A c) (hc63 : c.length ≤ 9223372036854775807) {r1 r2 : Int} {r3 : Bool}
    (hv0 : 0 < s.val.length) (hr : lookL s.val c 0 0 = some (r1, r2, r3)) :
    Calls Try.prog 34 #[.pointer (some ⟨b, 0, none⟩), .slice A c.length cc] w fun e w' => e = .returned (.tuple #[.int .i64 r1, .int .i64 r2, .bool r3]) ∧ ∃ q, w' = w.drewN q := by
  obtain ⟨gv, cv, rfl, hv63⟩ := h.rowForm (i := 1) rfl hv0
  have hc5 := (h.cell (i := 0) rfl 5 rfl).1
  have HR := hid hr; clear hr
  have HC := hid hc; clear hc
  have H := hid h; clear h
  go_enter Try.func34, Try.ntmps34
  go_wp2
  go_loopw [4, 5, 11] (fun v4 v5 v11 wr => ∃ (o l : Int) (k : Nat), v4 = .int .i64 o ∧ v5 = .int .i64 l ∧ v11 = .int .i64 k ∧ k ≤ c.length ∧ 0 ≤ o ∧ o ≤ k ∧ Hid (lookL s.val (c.drop k) o l = some (r1, r2, r3)) ∧ ∃ q, wr = w.drewN q) (fun _ _ i _ => c.length - (intOf i).toNat)
  case atStart => exact ⟨0, 0, 0, rfl, rfl, rfl, by omega, by omega, by omega, HR, 0, rfl⟩
  case round =>
    clear HR
    obtain ⟨o, l, k, rfl, rfl, rfl, hk, ho1, ho2, HL, q, rfl⟩ := hrel
    by_cases hlt : k < c.length
    · obtain ⟨x, hx⟩ : ∃ x, c[k]? = some x := ⟨_, List.getElem?_eq_getElem hlt⟩
      obtain ⟨cb, co, hA, hck⟩ := intAt HC.out hx
      have hL := HL.out
      rw [drop_of hx] at hL
      simp only [lookL] at hL
      by_cases hsz : 0 ≤ size x ∧ size x < s.val.length
      · rw [if_pos hsz] at hL
        obtain ⟨hs0, hs1⟩ := hsz
        obtain ⟨v, hv, hr1, _⟩ := H.out.cellRowE (i := 1) rfl (size x).toNat (by omega)
        have hgi : gi s.val (size x) = v := by unfold gi; rw [List.getD_eq_getElem?_getD, show s.val[(size x).toNat]? = some v from hv]; rfl
        rw [hgi] at hL
        have HQ := hid (fun W => size_any x W (size_bd hs0 hs1 hv63))
        clear hv hgi hx HL
        generalize size x = sz at *
        have HL := hid hL; clear hL
        subst hA
        go_wp2
        go_quiet ((go_at_call 37; first | exact quiet0 ((HQ.out _).mono fun e w' ⟨h1, h2⟩ => ⟨h1, 0, h2.symm⟩) | exact quiet1 ((HQ.out _).mono fun e w' ⟨h1, h2⟩ => ⟨h1, 0, h2.symm⟩)))
        go_wp2
        · have hvx : v = x := by have h : (v == x) = true := by assumption
                                 simpa using h
          have hL := HL.out
          rw [if_pos hvx] at hL
          injection hL with hL
          injection hL with h1 h2
          injection h2 with h2 h3
          subst h1 h2 h3
          go_ret3
          exact ⟨rfl, _, rfl⟩
        · have hvx : ¬ v = x := by have h : (v == x) = false := by assumption
                                   simpa using h
          have hv0 : v = 0 := by have h : (v == 0) = true := by assumption
                                 simpa using h
          have hL := HL.out
          rw [if_neg hvx, if_pos hv0] at hL
          go_roundw
          case rel => exact ⟨o + 1, x, k + 1, rfl, rfl, by go_num, by omega, by omega, by omega, hid hL, _, rfl⟩
          case measure => simp [intOf]; omega
        · have hvx : ¬ v = x := by have h : (v == x) = false := by assumption
                                   simpa using h
          have hv0 : ¬ v = 0 := by have h : (v == 0) = false := by assumption
                                   simpa using h
          have hL := HL.out
          rw [if_neg hvx, if_neg hv0] at hL
          go_roundw
          case rel => exact ⟨o, l, k + 1, rfl, rfl, by go_num, by omega, by omega, by omega, hid hL, _, rfl⟩
          case measure => simp [intOf]; omega
      · rw [if_neg hsz] at hL; cases hL
    · have hL := HL.out
      rw [List.drop_eq_nil_of_le (by omega)] at hL
      injection hL with hL
      injection hL with h1 h2
      injection h2 with h2 h3
      subst h1 h2 h3
      go_wp2
      go_ret3
      exact ⟨rfl, q, rfl⟩
end
end Go.Proofs.Ytcglokippflioaa
