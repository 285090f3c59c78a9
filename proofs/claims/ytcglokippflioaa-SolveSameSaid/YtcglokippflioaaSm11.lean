/- Texts of the claim, in one: SetW, LevW, BackW, LookW, IntsW. -/
import Derived.Deep.RegionHeld3
import Derived.Deep.QuietTactic
import Derived.BigQuiet
import Derived.WalkLawsBesides
import Derived.Deep.LoopGhost
import Derived.Outline
import Derived.IntWalk
import Derived.Test.YtcglokippflioaaSm6

/-! The search's small methods. -/
namespace Go.Proofs.Ytcglokippflioaa
open Go Go.RowKit YLib
theorem size_any (x : Int) (w : World) (h : -9223372036854775807 ≤ x ∧ x ≤ 9223372036854775807) : Calls Try.prog 37 #[.int .i64 x] w fun e w' => e = .returned (.int .i64 (size x)) ∧ w = w' := by
  obtain ⟨h1, h2⟩ := h
  unfold size
  by_cases h0 : 0 ≤ x
  · rw [if_pos h0]
    go_enter Try.func37, Try.ntmps37
    go_wp2
    go_ret
    exact ⟨rfl, rfl⟩
  · rw [if_neg h0]
    have h0 : x < 0 := by omega
    go_enter Try.func37, Try.ntmps37
    go_wp2
    · go_ret
      exact ⟨rfl, rfl⟩
theorem size_bd {x : Int} {n : Nat} (_h0 : 0 ≤ size x) (h : size x < n) (hn : n ≤ 9223372036854775807) : -9223372036854775807 ≤ x ∧ x ≤ 9223372036854775807 := by
  unfold size at _h0 h; split at h <;> omega

section
variable {w0 w : World} {T : Nat → Prop} {b m : Nat} {fc fo vc vv vt vl : Value} {s : St} {rest : List HP}
set_option maxHeartbeats 1000000 in
theorem set_calls (h : Inv w0 T w (sP b fc fo vc vv vt vl m s ++ rest)) (x r l : Int) (hx0 : 0 ≤ size x) (hx : size x < s.val.length) (htr : s.tr.length < LIM) :
   Calls Try.prog 30 #[.pointer (some ⟨b, 0, none⟩), .int .i64 x, .int .i64 r, .int .i64 l] w fun e w' => e = .returned (.tuple #[]) ∧
     ∃ vt', Inv w0 T w' (sP b fc fo vc vv vt' vl m { s with val := s.val.set (size x).toNat x, tr := s.tr ++ [⟨x, r, l⟩] } ++ rest) := by
  obtain ⟨g, cap, rfl, hv63⟩ := h.rowForm (i := 1) rfl (by omega)
  unfold LIM at htr
  have HQ := hid (fun W => size_any x W (size_bd hx0 hx hv63))
  generalize size x = sz at *
  have hc5 := (h.cell (i := 0) rfl 5 rfl).1
  obtain ⟨hr1, hr2⟩ := h.cellRow (i := 1) rfl sz.toNat (by omega)
  have hne := Ne.symm (h.ne (i := 0) (j := 1) rfl rfl (by decide))
  have h2 := (h.setRow (i := 1) rfl sz.toNat x).drew
  have hc6 := (h2.cell (i := 0) rfl 6 rfl).1
  have h3 := hid h2
  clear h2 h
  go_enter Try.func30, Try.ntmps30
  go_wp2
  go_region_held3 (fun w' => w'.cell? ⟨b, 5, none⟩ = some (.slice (some ⟨g, 0, none⟩) s.val.length cap)) (go_keep) (first | (go_at_call 37; refine (HQ.out _).mono ?_; rintro e w' ⟨rfl, rfl⟩))
  clear hc5 hr1 hr2
  generalize (w.setCell ⟨g, sz.toNat, none⟩ (.int .i64 x)).drew = w1 at *
  have c1 : ∀ j u, ([.int .i64 x, .int .i64 r, .int .i64 l] : List Value)[j]? = some u → (w1.alloc (.cells #[.int .i64 x, .int .i64 r, .int .i64 l] 70)).cell? ((⟨w1.heap.size, 0, none⟩ : Addr).add j) = some u := World.news_of_block (heap_alloc_new w1 _)
  have C1 := hid c1; clear c1
  go_wp2_with (at_builtin; refine wpList_of_wp rfl fun K hK => ?_; go_loud (refine wp_append_inv (d := trK) _ _ 51 rfl Try.underlying51 infoTr rfl (by decide) 2 vt s.tr [⟨x, r, l⟩] (h3.out.alloc _) rfl rfl ⟨w1.heap.size, 0, none⟩ 1 1 rfl [.int .i64 x, .int .i64 r, .int .i64 l] rfl C1.out ⟨_, _, rfl, trK_mk ⟨x, r, l⟩, rfl⟩ (by omega) (by omega) (by omega) ?_); intro g1 cap1 w2 h4; obtain ⟨hc1, hc2⟩ := h4.cell (i := 0) rfl 6 rfl; have H4 := hid h4; clear h4; refine hK _ _ ?_; clear hK K)
  go_end0
  exact ⟨rfl, _, H4.out.set (i := 0) rfl 6 _⟩
end
end Go.Proofs.Ytcglokippflioaa

/-! Level, level, back. -/
namespace Go.Proofs.Ytcglokippflioaa
open Go Go.RowKit YLib
theorem trAt {w : World} {S : Nat → Prop} {A : Option Addr} {tr : List Tr} (h : RowAt trK w S A tr) {i : Nat} {t : Tr} (ht : tr[i]? = some t) : ∃ b o, A = some ⟨b, o, none⟩ ∧
    w.cell? ⟨b, o + i * 3, none⟩ = some (.int .i64 t.lit) ∧ w.cell? ⟨b, o + i * 3 + 1, none⟩ = some (.int .i64 t.reason) ∧ w.cell? ⟨b, o + i * 3 + 2, none⟩ = some (.int .i64 t.level) := by
  obtain ⟨hi, rfl⟩ := List.getElem?_eq_some_iff.1 ht
  rcases h with rfl | ⟨b, o, hA, _, _, h⟩
  · simp at hi
  · obtain ⟨cs, h1, h2⟩ := h i hi
    rw [trK_inv h1] at h2
    exact ⟨b, o, hA, h2 0 _ rfl, h2 1 _ rfl, h2 2 _ rfl⟩
theorem lastLevel_eq {tr : List Tr} {t : Tr} (h : tr[tr.length - 1]? = some t) : lastLevel tr = t.level := by
  unfold lastLevel
  rw [List.getLast?_eq_getElem?, h]
theorem Level_calls {w : World} {S : Nat → Prop} {A : Option Addr} {c : Nat} {tr : List Tr} (h : RowAt trK w S A tr) (hm : tr.length ≤ 9223372036854775807) (hc : tr.length ≤ c) :
    Calls Try.prog 36 #[.slice A tr.length c] w fun e w' => e = .returned (.int .i64 (lastLevel tr)) ∧ ∃ q, w' = w.drewN q := by
  rcases Nat.eq_zero_or_pos tr.length with h0 | h0
  · obtain rfl := List.eq_nil_of_length_eq_zero h0
    go_enter Try.func36, Try.ntmps36
    go_wp2
    go_ret
    exact ⟨rfl, 0, rfl⟩
  · obtain ⟨t, ht⟩ : ∃ t, tr[tr.length - 1]? = some t := ⟨_, List.getElem?_eq_getElem (by omega)⟩
    obtain ⟨b, o, rfl, _, _, h3⟩ := trAt h ht
    rw [lastLevel_eq ht]
    clear ht h
    generalize tr.length = n at *
    generalize t.level = l at *
    obtain ⟨k, rfl⟩ : ∃ k, n = k + 1 := ⟨n - 1, by omega⟩
    rw [Nat.add_sub_cancel] at h3
    go_enter Try.func36, Try.ntmps36
    go_wp2
    go_ret
    exact ⟨rfl, 0, rfl⟩
section
variable {w0 w : World} {T : Nat → Prop} {b m : Nat} {fc fo vc vv vt vl : Value} {s : St} {rest : List HP}
theorem level_calls (h : Inv w0 T w (sP b fc fo vc vv vt vl m s ++ rest)) :
    Calls Try.prog 26 #[.pointer (some ⟨b, 0, none⟩)] w fun e w' => e = .returned (.int .i64 (lastLevel s.tr)) ∧ ∃ q, w' = w.drewN q := by
  have hc6 := (h.cell (i := 0) rfl 6 rfl).1
  obtain ⟨A, c, rfl, hle, h63, hr⟩ := h.rowShape (i := 2) rfl
  have HL := hid (fun W q (hW : W = w.drewN q) => (by subst hW; exact Level_calls (w := w.drewN q) (S := fun _ => True) (A := A) (c := c) (tr := s.tr) (hr.move (fun _ _ _ => rfl) |>.mono (fun _ _ => trivial)) h63 hle : Calls Try.prog 36 #[.slice A s.tr.length c] W fun e w' => e = .returned (.int .i64 (lastLevel s.tr)) ∧ ∃ q, w' = W.drewN q))
  clear hr h
  generalize lastLevel s.tr = l at *
  go_enter Try.func26, Try.ntmps26
  go_wp2_with (go_at_call 36; refine (HL.out w 0 rfl).mono ?_; rintro e w' ⟨rfl, q, rfl⟩)
  go_ret
  exact ⟨rfl, q, rfl⟩
end
end Go.Proofs.Ytcglokippflioaa

/-! back. -/
namespace Go.Proofs.Ytcglokippflioaa
open Go Go.RowKit YLib
section
variable {w0 w : World} {T : Nat → Prop} {b m : Nat} {fc fo vc vv vt vl : Value} {s : St} {rest : List HP}
set_option maxHeartbeats 2000000 in
theorem back_calls (h : Inv w0 T w (sP b fc fo vc vv vt vl m s ++ rest)) (lv : Int) (hv0 : 0 < s.val.length) (hok : ∀ t ∈ s.tr, 0 ≤ size t.lit ∧ size t.lit < s.val.length) :
    Calls Try.prog 27 #[.pointer (some ⟨b, 0, none⟩), .int .i64 lv] w fun e w' => e = .returned (.tuple #[]) ∧
      ∃ vt', Inv w0 T w' (sP b fc fo vc vv vt' vl m { s with val := (backL lv s.val s.tr).1, tr := (backL lv s.val s.tr).2 } ++ rest) := by
  obtain ⟨vN, tN, hb⟩ : ∃ vN tN, backL lv s.val s.tr = (vN, tN) := ⟨_, _, rfl⟩
  rw [hb]
  have HB := hid hb; clear hb
  have HOK := hid hok; clear hok
  obtain ⟨gv, cv, rfl, hv63⟩ := h.rowForm (i := 1) rfl hv0
  have H := hid h; clear h
  go_enter Try.func27, Try.ntmps27
  go_wp2
  go_loopg [] s.tr.length (fun kq wr => ∃ (v1 : List Int) (t1 : List Tr) (vt1 : Value), Hid (YLib.Inv w0 T wr (sP b fc fo vc (.slice (some ⟨gv, 0, none⟩) s.val.length cv) vt1 vl m { s with val := v1, tr := t1 } ++ rest)) ∧ Hid (backL lv v1 t1 = (vN, tN)) ∧ Hid (∀ t ∈ t1, 0 ≤ size t.lit ∧ size t.lit < v1.length) ∧ Hid (kq = t1.length) ∧ Hid (v1.length = s.val.length))
  case atStart => exact ⟨s.val, s.tr, vt, H, HB, HOK, hid rfl, hid rfl⟩
  case round =>
    clear H HB HOK
    obtain ⟨v1, t1, vt1, H, HB, HOK, HK, HV⟩ := hrel
    obtain ⟨hc6, hf6⟩ := H.out.cell (i := 0) rfl 6 rfl
    rcases List.eq_nil_or_concat t1 with rfl | ⟨pre, t, rfl⟩
    · obtain ⟨A, c, rfl, hle, h63, hr⟩ := H.out.rowShape (i := 2) rfl
      have hb := HB.out
      rw [backL_nil] at hb
      injection hb with hb1 hb2
      subst hb1 hb2
      go_wp2
      go_quiet (fail)
      go_wp2
      go_end0
      exact ⟨rfl, _, H.out.drewN _⟩
    · obtain ⟨g, cap, hvt, h63⟩ := H.out.rowForm (i := 2) rfl (by simp)
      simp only [List.concat_eq_append, List.length_append, List.length_singleton] at hvt h63 HB HOK HK H
      subst hvt
      obtain ⟨S, hS, _⟩ := H.out.get (i := 2) rfl
      obtain ⟨A, c, hA, hle, hr⟩ := hS.reads
      simp only [List.length_append, List.length_singleton] at hle hA
      injection hA with hA _ hc
      subst hA hc
      obtain ⟨_, _, hA, hlit, _, hlev⟩ := trAt hr (i := pre.length) (t := t) (by simp)
      injection hA with hA
      injection hA with hA hA2
      subst hA hA2
      clear hr hS
      rw [Nat.zero_add] at hlit hlev
      obtain ⟨ho1, ho2⟩ := HOK.out t (by simp)
      by_cases hlv : t.level > lv
      · have hb := HB.out
        rw [backL_yes hlv] at hb
        have HB' := hid hb; clear hb HB
        have hd : decide (t.level > lv) = true := decide_eq_true hlv
        have hvl : v1.length ≤ 9223372036854775807 := by have h := HV.out; rw [h]; exact hv63
        have HQ := hid (fun W => size_any t.lit W (size_bd ho1 ho2 hvl))
        have hlt : (size t.lit).toNat < v1.length := by omega
        obtain ⟨y, hy, hr1, hr2⟩ := H.out.cellRowE (i := 1) rfl (size t.lit).toNat hlt
        clear hlt hy
        have hne := Ne.symm (H.out.ne (i := 0) (j := 1) rfl rfl (by decide))
        have hc5 := (H.out.cell (i := 0) rfl 5 rfl).1
        have hne3 := H.out.ne2 (i := 1) (j := 2) rfl rfl (by decide)
        have hne2 := Ne.symm (H.out.ne (i := 0) (j := 2) rfl rfl (by decide))
        have H2 := hid ((H.out.setRow (i := 1) rfl (size t.lit).toNat 0))
        have hi1 : IntKind.i64.wrap ((pre.length : Int) + 1 - 1) = pre.length := by rw [Int.add_sub_cancel]; exact IntWalk.i64_in _ (by omega)
        have hi4 : IntKind.i64.wrap (pre.length : Int) = pre.length := IntWalk.i64_in _ (by omega)
        have ho3 : size t.lit < (s.val.length : Int) := by rw [← HV.out]; exact ho2
        have hi2 : (0 : Int) ≤ (pre.length : Int) := by omega
        have hi3 : (pre.length : Int) < (pre.length : Int) + 1 := by omega
        generalize size t.lit = sz at *
        generalize t.level = tl at *
        generalize t.lit = x at *
        go_wp2
        go_quiet (fail)
        go_wp2
        go_region_held3 (fun w' => w'.cell? ⟨b, 5, none⟩ = some (.slice (some ⟨gv, 0, none⟩) s.val.length cv) ∧ w'.cell? ⟨b, 6, none⟩ = some (.slice (some ⟨g, 0, none⟩) (pre.length + 1) cap) ∧ w'.cell? ⟨g, pre.length * 3, none⟩ = some (.int .i64 x)) (go_keep) (first | (go_at_call 37; refine (HQ.out _).mono ?_; rintro e w' ⟨rfl, rfl⟩))
        go_wp2
        go_region
        go_wp2
        go_roundg pre.length
        case measure => have := HK.out; omega
        case rel =>
          have H3 := ((H2.out).rowTake (i := 2) rfl pre.length (by simp)).set (i := 0) rfl 6 (.slice (some ⟨g, 0, none⟩) pre.length cap)
          rw [List.take_append_of_le_length (Nat.le_refl _), List.take_length] at H3
          refine ⟨v1.set sz.toNat 0, pre, _, hid (H3.same rfl rfl rfl rfl), HB', hid ?_, hid rfl, hid ?_⟩
          · intro t' ht'
            rw [List.length_set]
            exact HOK.out t' (List.mem_append_left _ ht')
          · rw [List.length_set]; exact HV.out
      · have hb := HB.out
        rw [backL_no hlv] at hb
        injection hb with hb1 hb2
        subst hb1 hb2
        have hd : decide (t.level > lv) = false := decide_eq_false hlv
        generalize t.level = tl at *
        clear hlit ho1 ho2 HOK
        go_wp2
        go_quiet (fail)
        go_wp2
        go_end0
        exact ⟨rfl, _, H.out.drewN _⟩
end
end Go.Proofs.Ytcglokippflioaa

/-! look. -/
namespace Go.Proofs.Ytcglokippflioaa
open Go Go.RowKit YLib
theorem intAt {w : World} {S : Nat → Prop} {A : Option Addr} {xs : List Int} (h : RowAt Kind.int w S A xs) {i : Nat} {x : Int} (hx : xs[i]? = some x) : ∃ b o, A = some ⟨b, o, none⟩ ∧ w.cell? ⟨b, o + i, none⟩ = some (.int .i64 x) := by
  obtain ⟨hi, rfl⟩ := List.getElem?_eq_some_iff.1 hx
  rcases h with rfl | ⟨b, o, hA, _, _, h⟩
  · simp at hi
  · obtain ⟨cs, h1, h2⟩ := h i hi
    have h1 : cs = [.int .i64 xs[i]] := h1
    have := h2 0 (.int .i64 xs[i]) (by rw [h1]; rfl)
    have hsz : Kind.int.sz = 1 := rfl
    rw [hsz, Nat.mul_one, Nat.add_zero] at this
    exact ⟨b, o, hA, this⟩
/-- The address of a row that holds something. -/
theorem RowAt.addr {α : Type} {d : Kind α} {w : World} {S : Nat → Prop} {A : Option Addr} {xs : List α} (h : RowAt d w S A xs) (hp : 0 < xs.length) : ∃ b o, A = some ⟨b, o, none⟩ := by
  rcases h with rfl | ⟨b, o, hA, _⟩
  · simp at hp
  · exact ⟨b, o, hA⟩
theorem drop_of {α : Type} {xs : List α} {k : Nat} {x : α} (h : xs[k]? = some x) : xs.drop k = x :: xs.drop (k + 1) := by
  obtain ⟨hi, rfl⟩ := List.getElem?_eq_some_iff.1 h
  exact List.drop_eq_getElem_cons hi
section
variable {w0 w : World} {T : Nat → Prop} {b m : Nat} {fc fo vc vv vt vl : Value} {s : St} {rest : List HP}
set_option maxHeartbeats 2000000 in
theorem look_calls (h : Inv w0 T w (sP b fc fo vc vv vt vl m s ++ rest)) {S : Nat → Prop} {A : Option Addr} {cc : Nat} {c : List Int} (hc : RowAt Kind.int w S A c) (hc63 : c.length ≤ 9223372036854775807) {r1 r2 : Int} {r3 : Bool}
    (hv0 : 0 < s.val.length) (hr : lookL s.val c 0 0 = some (r1, r2, r3)) :
    Calls Try.prog 34 #[.pointer (some ⟨b, 0, none⟩), .slice A c.length cc] w fun e w' => e = .returned (.tuple #[.int .i64 r1, .int .i64 r2, .bool r3]) ∧ ∃ q, w' = w.drewN q := by
  obtain ⟨gv, cv, rfl, hv63⟩ := h.rowForm (i := 1) rfl hv0
  have hc5 := (h.cell (i := 0) rfl 5 rfl).1
  have HR := hid hr; clear hr
  have HC := hid hc; clear hc
  have H := hid h; clear h
  go_enter Try.func34, Try.ntmps34
  go_wp2
  go_loopw [4, 5, 11] (fun v4 v5 v11 wr => ∃ (o l : Int) (k : Nat), v4 = .int .i64 o ∧ v5 = .int .i64 l ∧ v11 = .int .i64 k ∧ k ≤ c.length ∧ 0 ≤ o ∧ o ≤ k ∧ Hid (lookL s.val (c.drop k) o l = some (r1, r2, r3)) ∧ ∃ q, wr = w.drewN q) (fun _ _ i _ => c.length - (intOf i).toNat)
  case atStart => exact ⟨0, 0, 0, rfl, rfl, rfl, by omega, by omega, by omega, HR, 0, rfl⟩
  case round =>
    clear HR
    obtain ⟨o, l, k, rfl, rfl, rfl, hk, ho1, ho2, HL, q, rfl⟩ := hrel
    by_cases hlt : k < c.length
    · obtain ⟨x, hx⟩ : ∃ x, c[k]? = some x := ⟨_, List.getElem?_eq_getElem hlt⟩
      obtain ⟨cb, co, hA, hck⟩ := intAt HC.out hx
      have hL := HL.out
      rw [drop_of hx] at hL
      simp only [lookL] at hL
      by_cases hsz : 0 ≤ size x ∧ size x < s.val.length
      · rw [if_pos hsz] at hL
        obtain ⟨hs0, hs1⟩ := hsz
        obtain ⟨v, hv, hr1, _⟩ := H.out.cellRowE (i := 1) rfl (size x).toNat (by omega)
        have hgi : gi s.val (size x) = v := by unfold gi; rw [List.getD_eq_getElem?_getD, show s.val[(size x).toNat]? = some v from hv]; rfl
        rw [hgi] at hL
        have HQ := hid (fun W => size_any x W (size_bd hs0 hs1 hv63))
        clear hv hgi hx HL
        generalize size x = sz at *
        have HL := hid hL; clear hL
        subst hA
        go_wp2
        go_quiet ((go_at_call 37; first | exact quiet0 ((HQ.out _).mono fun e w' ⟨h1, h2⟩ => ⟨h1, 0, h2.symm⟩) | exact quiet1 ((HQ.out _).mono fun e w' ⟨h1, h2⟩ => ⟨h1, 0, h2.symm⟩)))
        go_wp2
        · have hvx : v = x := by have h : (v == x) = true := by assumption
                                 simpa using h
          have hL := HL.out
          rw [if_pos hvx] at hL
          injection hL with hL
          injection hL with h1 h2
          injection h2 with h2 h3
          subst h1 h2 h3
          go_ret3
          exact ⟨rfl, _, rfl⟩
        · have hvx : ¬ v = x := by have h : (v == x) = false := by assumption
                                   simpa using h
          have hv0 : v = 0 := by have h : (v == 0) = true := by assumption
                                 simpa using h
          have hL := HL.out
          rw [if_neg hvx, if_pos hv0] at hL
          go_roundw
          case rel => exact ⟨o + 1, x, k + 1, rfl, rfl, by go_num, by omega, by omega, by omega, hid hL, _, rfl⟩
          case measure => simp [intOf]; omega
        · have hvx : ¬ v = x := by have h : (v == x) = false := by assumption
                                   simpa using h
          have hv0 : ¬ v = 0 := by have h : (v == 0) = false := by assumption
                                   simpa using h
          have hL := HL.out
          rw [if_neg hvx, if_neg hv0] at hL
          go_roundw
          case rel => exact ⟨o, l, k + 1, rfl, rfl, by go_num, by omega, by omega, by omega, hid hL, _, rfl⟩
          case measure => simp [intOf]; omega
      · rw [if_neg hsz] at hL; cases hL
    · have hL := HL.out
      rw [List.drop_eq_nil_of_le (by omega)] at hL
      injection hL with hL
      injection hL with h1 h2
      injection h2 with h2 h3
      subst h1 h2 h3
      go_wp2
      go_ret3
      exact ⟨rfl, q, rfl⟩
end
end Go.Proofs.Ytcglokippflioaa

/-! The reference's Ints. -/
namespace Go.Proofs.Ytcglokippflioaa
open Go Go.RowKit YLib
set_option maxHeartbeats 1000000 in
theorem Ints_same {w : World} {S1 S2 : Nat → Prop} {A B : Option Addr} {ca cb nb : Nat} {a b : List Int} (HA : Hid (RowAt Kind.int w S1 A a)) (HB : Hid (RowAt Kind.int w S2 B b)) (HNA : Hid (a.length = nb)) (HN : Hid (b.length = nb)) (hn63 : nb ≤ 9223372036854775807) :
    Calls Try.prog 12 #[.slice A nb ca, .slice B nb cb] w fun e w' => e = .returned (.bool (decide (a = b))) ∧ ∃ q, w' = w.drewN q := by
  go_enter Try.func12, Try.ntmps12
  go_wp2
  go_loopw [5] (fun v5 wr => ∃ (k : Nat), v5 = .int .i64 k ∧ k ≤ nb ∧ Hid (a.take k = b.take k) ∧ ∃ q, wr = w.drewN q) (fun i _ => nb - (intOf i).toNat)
  case atStart => exact ⟨0, rfl, by omega, hid (by simp), 0, rfl⟩
  case round =>
    obtain ⟨k, rfl, hk, HE, q, rfl⟩ := hrel
    by_cases hlt : k < nb
    · obtain ⟨x, hx⟩ : ∃ x, a[k]? = some x := ⟨_, List.getElem?_eq_getElem (by have := HNA.out; omega)⟩
      obtain ⟨y, hy⟩ : ∃ y, b[k]? = some y := ⟨_, List.getElem?_eq_getElem (by have := HN.out; omega)⟩
      obtain ⟨g1, o1, rfl, hc1⟩ := intAt HA.out hx
      obtain ⟨g2, o2, rfl, hc2⟩ := intAt HB.out hy
      have HX := hid hx
      have HY := hid hy
      clear hx hy
      by_cases hxy : x = y
      · subst hxy
        go_wp2
        go_quiet (fail)
        go_wp2
        go_roundw
        case rel => exact ⟨k + 1, by go_num, by omega, hid (by rw [List.take_add_one, List.take_add_one, HE.out, HX.out, HY.out]), _, rfl⟩
        case measure => simp [intOf]; omega
      · have hd : (x != y) = true := by simpa using hxy
        go_wp2
        go_quiet (fail)
        go_wp2
        go_ret
        refine ⟨?_, _, World.drewN_drewN _ _ _⟩
        have : a ≠ b := by
          intro e
          have h1 := HX.out
          rw [e, HY.out] at h1
          injection h1 with h1
          exact hxy h1.symm
        show Ending.returned (.bool false) = .returned (.bool (decide (a = b)))
        rw [decide_eq_false this]
    · obtain rfl : k = nb := by omega
      go_wp2
      go_ret
      have h1 := HE.out
      rw [List.take_of_length_le (by have := HNA.out; omega), List.take_of_length_le (by have := HN.out; omega)] at h1
      refine ⟨?_, q, rfl⟩
      show Ending.returned (.bool true) = .returned (.bool (decide (a = b)))
      rw [decide_eq_true h1]
theorem Ints_calls {w : World} {S1 S2 : Nat → Prop} {A B : Option Addr} {ca cb : Nat} {a b : List Int} (ha : RowAt Kind.int w S1 A a) (hb : RowAt Kind.int w S2 B b) (ha63 : a.length ≤ 9223372036854775807) :
    Calls Try.prog 12 #[.slice A a.length ca, .slice B b.length cb] w fun e w' => e = .returned (.bool (decide (a = b))) ∧ ∃ q, w' = w.drewN q := by
  by_cases hl : a.length = b.length
  · rw [← hl]
    exact Ints_same (hid ha) (hid hb) (hid rfl) (hid hl.symm) ha63
  · have hd : ((a.length : Int) != (b.length : Int)) = true := by simp; omega
    clear ha hb
    have hd2 : a ≠ b := fun e => hl (by rw [e])
    go_enter Try.func12, Try.ntmps12
    go_wp2
    go_ret
    refine ⟨?_, 0, rfl⟩
    show Ending.returned (.bool false) = .returned (.bool (decide (a = b)))
    rw [decide_eq_false hd2]
end Go.Proofs.Ytcglokippflioaa
