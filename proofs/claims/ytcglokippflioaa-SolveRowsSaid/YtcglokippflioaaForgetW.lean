import Derived.Test.YtcglokippflioaaAddW
/-! forget. -/
namespace Go.Proofs.Ytcglokippflioaa
open Go Go.RowKit YLib
theorem clAt {w : World} {S : Nat → Prop} {A : Option Addr} {xs : List (List Int)} (h : RowAt clK w S A xs) {i : Nat} {x : List Int} (hx : xs[i]? = some x) : ∃ b o A' c', A = some ⟨b, o, none⟩ ∧ w.cell? ⟨b, o + i, none⟩ = some (.slice A' x.length c') ∧ x.length ≤ c' ∧ RowAt Kind.int w S A' x := by
  obtain ⟨hi, rfl⟩ := List.getElem?_eq_some_iff.1 hx
  rcases h with rfl | ⟨b, o, hA, _, _, h⟩
  · simp at hi
  · obtain ⟨cs, ⟨A', c', h1, hl, hr⟩, h2⟩ := h i hi
    have := h2 0 (.slice A' xs[i].length c') (by rw [h1]; rfl)
    have hsz : clK.sz = 1 := rfl
    rw [hsz, Nat.mul_one, Nat.add_zero] at this
    exact ⟨b, o, A', c', hA, this, hl, hr⟩
section
variable {w0 w : World} {T : Nat → Prop} {b m : Nat} {fc fo vc vv vt vl : Value} {s : St} {rest : List HP}
set_option maxHeartbeats 2000000 in
theorem forget_calls {Af : Option Addr} {cf : Nat} (h : Inv w0 T w (sP b (.slice Af s.nf cf) fo vc vv vt vl m s ++ rest)) (hv0 : 0 < s.val.length) (hnf : s.nf ≤ s.cls.length) (hcl : s.cls.length ≤ LIM) {act' : Int → Int}
    (hf : forgetL s.val (s.cls.drop s.nf) s.nf s.act = some act') :
    Calls Try.prog 28 #[.pointer (some ⟨b, 0, none⟩)] w fun e w' => e = .returned (.tuple #[]) ∧ Inv w0 T w' (sP b (.slice Af s.nf cf) fo vc vv vt vl m { s with act := act' } ++ rest) := by
  obtain ⟨Ac, cc, rfl, hle, hcl63, _⟩ := h.rowShape (i := 3) rfl
  obtain ⟨hc1, _⟩ := h.cell (i := 0) rfl 1 rfl
  have HF := hid hf; clear hf
  unfold LIM at hcl
  have H := hid h; clear h
  go_enter Try.func28, Try.ntmps28
  go_wp2
  go_loopg [2] s.cls.length (fun kq v2 wr => ∃ (k : Nat) (a1 : Int → Int), v2 = .int .i64 k ∧ k ≤ s.cls.length ∧ Hid (Inv w0 T wr (sP b (.slice Af s.nf cf) fo (.slice Ac s.cls.length cc) vv vt vl m { s with act := a1 } ++ rest)) ∧ Hid (forgetL s.val (s.cls.drop k) k a1 = some act') ∧ Hid (kq + k = s.cls.length + s.nf))
  case atStart => exact ⟨s.nf, s.act, rfl, hnf, H, HF, hid rfl⟩
  case round =>
    clear H HF hc1
    obtain ⟨k, a1, rfl, hk, H, HF, HK⟩ := hrel
    have hc3 := (H.out.cell (i := 0) rfl 3 rfl).1
    by_cases hlt : k < s.cls.length
    · obtain ⟨c, hc⟩ : ∃ c, s.cls[k]? = some c := ⟨_, List.getElem?_eq_getElem hlt⟩
      obtain ⟨Ac', cc', hv, _, _, hr⟩ := H.out.rowShape (i := 3) rfl
      injection hv with hv
      subst hv
      obtain ⟨cb, co, A', c', rfl, hce, hle', hrc⟩ := clAt hr hc
      have hF := HF.out
      rw [drop_of hc] at hF
      simp only [forgetL] at hF
      cases hL : lookL s.val c 0 0 with
      | none => rw [hL] at hF; cases hF
      | some r =>
        obtain ⟨r1, r2, r3⟩ := r
        rw [hL] at hF
        dsimp only at hF
        by_cases hcL : c.length ≤ LIM
        · rw [if_pos hcL] at hF
          unfold LIM at hcL
          have HL := hid (fun W q (hW : W = wr.drewN q) => (by subst hW; exact look_calls (H.out.drewN q) (S := fun _ => True) (A := A') (cc := c') (c := c) (hrc.move (fun _ _ _ => rfl) |>.mono (fun _ _ => trivial)) (by omega) hv0 hL : Calls Try.prog 34 #[.pointer (some ⟨b, 0, none⟩), .slice A' c.length c'] W fun e w' => e = .returned (.tuple #[.int .i64 r1, .int .i64 r2, .bool r3]) ∧ ∃ q, w' = W.drewN q))
          clear hr hrc hL hc
          have HF' := hid hF; clear hF HF
          have hc4 := (H.out.cell (i := 0) rfl 4 rfl).1
          cases r3 with
          | true =>
            go_wp2_with (first
              | (go_at_call 34; refine (HL.out wr 0 rfl).mono ?_; rintro e w' ⟨rfl, q, rfl⟩)
              | (at_delete; refine wpList_of_wp rfl fun K hK => ?_; refine wp_delete_inv _ _ rfl Try.underlying50 Try.underlying3 5 (k : Int) (H.out.drewN _) rfl rfl rfl (YLib.wf_i64 (by omega)) ?_; intro w1 h1; have H1 := hid h1; clear h1; refine hK _ _ ?_; clear hK K))
            go_roundg (gk - 1)
            case measure => have := HK.out; omega
            case rel => exact ⟨k + 1, (fun j => if j = (k : Int) then 0 else a1 j), by go_num, by omega, H1, HF', hid (by have := HK.out; omega)⟩
          | false =>
            go_wp2_with (first
              | (go_at_call 34; refine (HL.out wr 0 rfl).mono ?_; rintro e w' ⟨rfl, q, rfl⟩))
            go_roundg (gk - 1)
            case measure => have := HK.out; omega
            case rel => exact ⟨k + 1, _, by go_num, by omega, hid (H.out.drewN _), HF', hid (by have := HK.out; omega)⟩
        · rw [if_neg hcL] at hF; cases hF
    · have hF := HF.out
      rw [List.drop_eq_nil_of_le (by omega)] at hF
      injection hF with hF
      subst hF
      go_wp2
      go_end0
      exact ⟨rfl, H.out⟩
end
end Go.Proofs.Ytcglokippflioaa
