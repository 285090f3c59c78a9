import Derived.Test.YtcglokippflioaaForgetW
/-! propagate. -/
namespace Go.Proofs.Ytcglokippflioaa
open Go Go.RowKit YLib
section
variable {w0 w : World} {T : Nat → Prop} {b m : Nat} {fc fo vc vv vt vl : Value} {s : St} {rest : List HP}
set_option maxRecDepth 100000 in
set_option maxHeartbeats 4000000 in
theorem propagate_calls (h : Inv w0 T w (sP b fc fo vc vv vt vl m s ++ rest)) (hv0 : 0 < s.val.length) (hcl : s.cls.length ≤ LIM) (lvl : Int) {kk : Nat} {rk : Int} {rv : List Int} {rt : List Tr}
    (hp : propL s.cls s.act lvl kk s.val s.tr = some (rk, rv, rt)) :
    Calls Try.prog 24 #[.pointer (some ⟨b, 0, none⟩), .int .i64 lvl] w fun e w' => e = .returned (.int .i64 rk) ∧ ∃ vt', Inv w0 T w' (sP b fc fo vc vv vt' vl m { s with val := rv, tr := rt } ++ rest) := by
  obtain ⟨Ac, cc, rfl, hle, hcl63, _⟩ := h.rowShape (i := 3) rfl
  have HP := hid hp; clear hp
  unfold LIM at hcl
  have H := hid h; clear h
  go_enter Try.func24, Try.ntmps24
  go_wp2
  go_loopg [5] kk (fun kq v5 wr => ∃ (ag : Bool) (v1 : List Int) (t1 : List Tr) (vt1 : Value), v5 = .bool ag ∧ Hid (Inv w0 T wr (sP b fc fo (.slice Ac s.cls.length cc) vv vt1 vl m { s with val := v1, tr := t1 } ++ rest)) ∧ Hid (0 < v1.length) ∧ Hid ((if ag = true then propL s.cls s.act lvl kq v1 t1 else some (-1, v1, t1)) = some (rk, rv, rt)))
  case atStart => exact ⟨true, s.val, s.tr, vt, rfl, H, hid hv0, HP⟩
  case round =>
    clear H HP
    obtain ⟨ag, v1, t1, vt1, rfl, H, HV, HP⟩ := hrel
    cases ag with
    | false =>
      have hP := HP.out
      injection hP with hP
      injection hP with h1 h2
      injection h2 with h2 h3
      subst h1 h2 h3
      go_wp2
      go_ret
      exact ⟨rfl, _, H.out⟩
    | true =>
      have hP := HP.out
      rw [if_pos rfl] at hP
      clear HP
      cases gk with
      | zero => cases hP
      | succ k1 =>
        rw [propL_succ] at hP
        have HP := hid hP; clear hP
        have hc3 := (H.out.cell (i := 0) rfl 3 rfl).1
        go_wp2
        clear hc3
        go_loopg [17, 5] s.cls.length (fun kq v17 v5 wr => ∃ (i : Nat) (ag : Bool) (v1 : List Int) (t1 : List Tr) (vt1 : Value), v17 = .int .i64 i ∧ v5 = .bool ag ∧ i ≤ s.cls.length ∧ Hid (Inv w0 T wr (sP b fc fo (.slice Ac s.cls.length cc) vv vt1 vl m { s with val := v1, tr := t1 } ++ rest)) ∧ Hid (0 < v1.length) ∧ Hid (propK s.cls s.act lvl k1 (scanL s.act lvl (s.cls.drop i) i v1 t1 ag) = some (rk, rv, rt)) ∧ Hid (kq + i = s.cls.length))
        case atStart => exact ⟨0, false, v1, t1, vt1, rfl, rfl, by omega, H, HV, HP, hid rfl⟩
        case round =>
          clear H HP HV v1 t1 vt1
          obtain ⟨i, ag, v1, t1, vt1, rfl, rfl, hi, H, HV, HP, HK⟩ := hrel
          by_cases hlt : i < s.cls.length
          · obtain ⟨c, hc⟩ : ∃ c, s.cls[i]? = some c := ⟨_, List.getElem?_eq_getElem hlt⟩
            obtain ⟨Ac', cc', hv, _, _, hr⟩ := H.out.rowShape (i := 3) rfl
            injection hv with hv _ hcc
            subst hv hcc
            obtain ⟨cb, co, A', c', rfl, hce, hle', hrc⟩ := clAt hr hc
            have hP := HP.out
            rw [drop_of hc] at hP
            simp only [scanL] at hP
            have hc4 := (H.out.cell (i := 0) rfl 4 rfl).1
            have hlk := (H.out.mapGet Try.underlying50 Try.underlying3 Try.underlying3 (fun w => by kernel_rfl) (i := 5) rfl (YLib.wf_i64 (x := (i : Int)) (by omega))).1
            clear hc hr HP
            dsimp only at hlk
            generalize s.act i = a0 at *
            by_cases ha0 : a0 = 0
            · rw [if_pos ha0] at hP
              have hd : (a0 == 0) = true := by simpa using ha0
              have HP' := hid hP
              clear hP ha0 hrc
              go_wp2
              go_roundg (gk - 1)
              case measure => have := HK.out; omega
              case rel => exact ⟨i + 1, ag, v1, t1, vt1, by go_num, rfl, by omega, H, HV, HP', hid (by have := HK.out; omega)⟩
            · rw [if_neg ha0] at hP
              have hd : (a0 == 0) = false := by simpa using ha0
              clear ha0
              cases hL : lookL v1 c 0 0 with
              | none => rw [hL] at hP; cases hP
              | some r =>
                obtain ⟨o, l, t⟩ := r
                rw [hL] at hP
                dsimp only at hP
                by_cases hcL : c.length ≤ LIM
                · rw [if_pos hcL] at hP
                  unfold LIM at hcL
                  have HL := hid (look_calls H.out (S := fun _ => True) (A := A') (cc := c') (c := c) (hrc.mono (fun _ _ => trivial)) (by omega) HV.out hL)
                  clear hrc hL
                  cases t with
                  | true =>
                    rw [if_pos rfl] at hP
                    have HP' := hid hP; clear hP
                    go_wp2_with (first | (go_at_call 34; refine HL.out.mono ?_; rintro e w' ⟨rfl, q, rfl⟩))
                    go_roundg (gk - 1)
                    case measure => have := HK.out; omega
                    case rel => exact ⟨i + 1, ag, v1, t1, vt1, by go_num, rfl, by omega, hid (H.out.drewN _), HV, HP', hid (by have := HK.out; omega)⟩
                  | false =>
                    rw [if_neg (by decide)] at hP
                    by_cases ho : 1 < o
                    · rw [if_pos ho] at hP
                      have HP' := hid hP; clear hP
                      go_wp2_with (first | (go_at_call 34; refine HL.out.mono ?_; rintro e w' ⟨rfl, q, rfl⟩))
                      go_roundg (gk - 1)
                      case measure => have := HK.out; omega
                      case rel => exact ⟨i + 1, ag, v1, t1, vt1, by go_num, rfl, by omega, hid (H.out.drewN _), HV, HP', hid (by have := HK.out; omega)⟩
                    · rw [if_neg ho] at hP
                      by_cases ho0 : o = 0
                      · rw [if_pos ho0] at hP
                        injection hP with hP
                        injection hP with h1 h2
                        injection h2 with h2 h3
                        subst h1 h2 h3 ho0
                        go_wp2_with (first | (go_at_call 34; refine HL.out.mono ?_; rintro e w' ⟨rfl, q, rfl⟩))
                        go_ret
                        exact ⟨rfl, _, H.out.drewN _⟩
                      · rw [if_neg ho0] at hP
                        by_cases hs : 0 ≤ size l ∧ size l < v1.length ∧ t1.length < LIM
                        · rw [if_pos hs] at hP
                          have ho0' : (o == 0) = false := by simpa using ho0
                          have HS := hid (fun q => set_calls (H.out.drewN q) l i lvl hs.1 hs.2.1 hs.2.2)
                          have HV' : Hid (0 < (v1.set (size l).toNat l).length) := hid (by rw [List.length_set]; exact HV.out)
                          have HP' := hid hP; clear hP hs
                          generalize v1.set (size l).toNat l = v2 at *
                          go_wp2_with (first | (go_at_call 34; refine HL.out.mono ?_; rintro e w' ⟨rfl, q, rfl⟩) | (go_at_call 30; refine (HS.out _).mono ?_; rintro e w' ⟨rfl, vt2, h1⟩; have H1 := hid h1; clear h1))
                          go_roundg (gk - 1)
                          case measure => have := HK.out; omega
                          case rel => exact ⟨i + 1, true, v2, _, vt2, by go_num, rfl, by omega, H1, HV', HP', hid (by have := HK.out; omega)⟩
                        · rw [if_neg hs] at hP; cases hP
                · rw [if_neg hcL] at hP; cases hP
          · have hP := HP.out
            rw [List.drop_eq_nil_of_le (by omega)] at hP
            have HP' : Hid ((if ag = true then propL s.cls s.act lvl k1 v1 t1 else some (-1, v1, t1)) = some (rk, rv, rt)) := hid (by cases ag <;> exact hP)
            go_wp2
            go_roundg k1
            case measure => omega
            case rel => exact ⟨ag, v1, t1, vt1, rfl, H, HV, HP'⟩
end
end Go.Proofs.Ytcglokippflioaa
