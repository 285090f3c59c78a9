import Derived.Test.YtcglokippflioaaLevW
import Derived.IntWalk
/-! back. -/
namespace Go.Proofs.Ytcglokippflioaa
open Go Go.RowKit YLib
section
variable {w0 w : World} {T : Nat → Prop} {b m : Nat} {fc fo vc vv vt vl : Value} {s : St} {rest : List HP}
set_option maxHeartbeats 2000000 in
theorem back_calls (h : Inv w0 T w (sP b fc fo vc vv vt vl m s ++ rest)) (lv : Int) (hv0 : 0 < s.val.length) (hok : ∀ t ∈ s.tr, 0 ≤ size t.lit ∧ size t.lit < s.val.length) :
    Calls Try.prog 27 #[.pointer (some ⟨b, 0, none⟩), .int .i64 lv] w fun e w' => e = .returned (.tuple #[]) ∧
      ∃ vt', Inv w0 T w' (sP b fc fo vc vv vt' vl m { s with val := (backL lv s.val s.tr).1, tr := (backL lv s.val s.tr).2 } ++ rest) := by
  obtain ⟨vN, tN, hb⟩ : ∃ vN tN, backL lv s.val s.tr = (vN, tN) := ⟨_, _, rfl⟩
  rw [hb]
  have HB := hid hb; clear hb
  have HOK := hid hok; clear hok
  obtain ⟨gv, cv, rfl, hv63⟩ := h.rowForm (i := 1) rfl hv0
  have H := hid h; clear h
  go_enter Try.func27, Try.ntmps27
  go_wp2
  go_loopg [] s.tr.length (fun kq wr => ∃ (v1 : List Int) (t1 : List Tr) (vt1 : Value), Hid (YLib.Inv w0 T wr (sP b fc fo vc (.slice (some ⟨gv, 0, none⟩) s.val.length cv) vt1 vl m { s with val := v1, tr := t1 } ++ rest)) ∧ Hid (backL lv v1 t1 = (vN, tN)) ∧ Hid (∀ t ∈ t1, 0 ≤ size t.lit ∧ size t.lit < v1.length) ∧ Hid (kq = t1.length) ∧ Hid (v1.length = s.val.length))
  case atStart => exact ⟨s.val, s.tr, vt, H, HB, HOK, hid rfl, hid rfl⟩
  case round =>
    clear H HB HOK
    obtain ⟨v1, t1, vt1, H, HB, HOK, HK, HV⟩ := hrel
    obtain ⟨hc6, hf6⟩ := H.out.cell (i := 0) rfl 6 rfl
    rcases List.eq_nil_or_concat t1 with rfl | ⟨pre, t, rfl⟩
    · obtain ⟨A, c, rfl, hle, h63, hr⟩ := H.out.rowShape (i := 2) rfl
      have hb := HB.out
      rw [backL_nil] at hb
      injection hb with hb1 hb2
      subst hb1 hb2
      go_wp2
      go_quiet (fail)
      go_wp2
      go_end0
      exact ⟨rfl, _, H.out.drewN _⟩
    · obtain ⟨g, cap, hvt, h63⟩ := H.out.rowForm (i := 2) rfl (by simp)
      simp only [List.concat_eq_append, List.length_append, List.length_singleton] at hvt h63 HB HOK HK H
      subst hvt
      obtain ⟨S, hS, _⟩ := H.out.get (i := 2) rfl
      obtain ⟨A, c, hA, hle, hr⟩ := hS.reads
      simp only [List.length_append, List.length_singleton] at hle hA
      injection hA with hA _ hc
      subst hA hc
      obtain ⟨_, _, hA, hlit, _, hlev⟩ := trAt hr (i := pre.length) (t := t) (by simp)
      injection hA with hA
      injection hA with hA hA2
      subst hA hA2
      clear hr hS
      rw [Nat.zero_add] at hlit hlev
      obtain ⟨ho1, ho2⟩ := HOK.out t (by simp)
      by_cases hlv : t.level > lv
      · have hb := HB.out
        rw [backL_yes hlv] at hb
        have HB' := hid hb; clear hb HB
        have hd : decide (t.level > lv) = true := decide_eq_true hlv
        have hvl : v1.length ≤ 9223372036854775807 := by have h := HV.out; rw [h]; exact hv63
        have HQ := hid (fun W => size_any t.lit W (size_bd ho1 ho2 hvl))
        have hlt : (size t.lit).toNat < v1.length := by omega
        obtain ⟨y, hy, hr1, hr2⟩ := H.out.cellRowE (i := 1) rfl (size t.lit).toNat hlt
        clear hlt hy
        have hne := Ne.symm (H.out.ne (i := 0) (j := 1) rfl rfl (by decide))
        have hc5 := (H.out.cell (i := 0) rfl 5 rfl).1
        have hne3 := H.out.ne2 (i := 1) (j := 2) rfl rfl (by decide)
        have hne2 := Ne.symm (H.out.ne (i := 0) (j := 2) rfl rfl (by decide))
        have H2 := hid ((H.out.setRow (i := 1) rfl (size t.lit).toNat 0))
        have hi1 : IntKind.i64.wrap ((pre.length : Int) + 1 - 1) = pre.length := by rw [Int.add_sub_cancel]; exact IntWalk.i64_in _ (by omega)
        have hi4 : IntKind.i64.wrap (pre.length : Int) = pre.length := IntWalk.i64_in _ (by omega)
        have ho3 : size t.lit < (s.val.length : Int) := by rw [← HV.out]; exact ho2
        have hi2 : (0 : Int) ≤ (pre.length : Int) := by omega
        have hi3 : (pre.length : Int) < (pre.length : Int) + 1 := by omega
        generalize size t.lit = sz at *
        generalize t.level = tl at *
        generalize t.lit = x at *
        go_wp2
        go_quiet (fail)
        go_wp2
        go_region_held3 (fun w' => w'.cell? ⟨b, 5, none⟩ = some (.slice (some ⟨gv, 0, none⟩) s.val.length cv) ∧ w'.cell? ⟨b, 6, none⟩ = some (.slice (some ⟨g, 0, none⟩) (pre.length + 1) cap) ∧ w'.cell? ⟨g, pre.length * 3, none⟩ = some (.int .i64 x)) (go_keep) (first | (go_at_call 37; refine (HQ.out _).mono ?_; rintro e w' ⟨rfl, rfl⟩))
        go_wp2
        go_region
        go_wp2
        go_roundg pre.length
        case measure => have := HK.out; omega
        case rel =>
          have H3 := ((H2.out).rowTake (i := 2) rfl pre.length (by simp)).set (i := 0) rfl 6 (.slice (some ⟨g, 0, none⟩) pre.length cap)
          rw [List.take_append_of_le_length (Nat.le_refl _), List.take_length] at H3
          refine ⟨v1.set sz.toNat 0, pre, _, hid (H3.same rfl rfl rfl rfl), HB', hid ?_, hid rfl, hid ?_⟩
          · intro t' ht'
            rw [List.length_set]
            exact HOK.out t' (List.mem_append_left _ ht')
          · rw [List.length_set]; exact HV.out
      · have hb := HB.out
        rw [backL_no hlv] at hb
        injection hb with hb1 hb2
        subst hb1 hb2
        have hd : decide (t.level > lv) = false := decide_eq_false hlv
        generalize t.level = tl at *
        clear hlit ho1 ho2 HOK
        go_wp2
        go_quiet (fail)
        go_wp2
        go_end0
        exact ⟨rfl, _, H.out.drewN _⟩
end
end Go.Proofs.Ytcglokippflioaa
