/- Texts of the claim, in one: FuncW. -/
import Derived.Shelf.Abstract
import Derived.IntWalk
import Derived.Test.YtcglokippflioaaSm5
import Derived.Test.YtcglokippflioaaSm11

/-! slices.IndexFunc, slices.ContainsFunc, at a function value that may lay blocks. -/
namespace Go.Proofs.Ytcglokippflioaa
open Go Go.RowKit YLib
set_option maxHeartbeats 1000000 in
theorem IndexFuncI_calls {g : Nat} {lb : Array Value} (eg : ∀ args w, (callFunc g args).run Try.prog w = .ok (.enter g args) w) {w : World} {S : Nat → Prop} {A : Option Addr} {c : Nat} {xs : List Int} {p : Int → Bool} (ha : RowAt Kind.int w S A xs) (hn : xs.length ≤ 9223372036854775807) (hp : AskI Try.prog g lb xs p w) :
    Calls Try.prog 70 #[.slice A xs.length c, .func (.func g) #[] lb] w fun e w' => e = .returned (.int .i64 (idxI p xs)) ∧ Gro w w' := by
  have HA := hid ha; clear ha
  have HP := hid hp; clear hp
  obtain ⟨n, hnn⟩ : ∃ n, xs.length = n := ⟨_, rfl⟩
  have HN := hid hnn
  rw [hnn] at hn ⊢
  clear hnn
  go_enter Try.func70, Try.ntmps70
  go_wp2
  go_loopg [5, 8] n (fun kq _ v8 wr => ∃ k : Nat, v8 = .int .i64 k ∧ k ≤ n ∧ Hid (kq + k = n) ∧ Hid (Gro w wr) ∧ Hid (∀ x ∈ xs.take k, p x = false))
  case atStart => exact ⟨0, rfl, by omega, hid (by omega), hid (Gro.refl _), hid (by simp)⟩
  case round =>
    obtain ⟨k, rfl, hk, HK, HG, HE⟩ := hrel
    by_cases hlt : k < n
    · obtain ⟨x, hx⟩ : ∃ x, xs[k]? = some x := ⟨_, List.getElem?_eq_getElem (by have := HN.out; omega)⟩
      obtain ⟨b, o, rfl, hc⟩ := intAt (HG.out.row HA.out) hx
      have hlt' : (k : Int) < (n : Int) := by omega
      have HC := hid (fun W hW => HP.out x (List.mem_of_getElem? hx) W hW)
      have HX := hid hx
      clear hx
      cases hpx : p x with
      | true =>
        rw [hpx] at HC
        have HPX := hid hpx; clear hpx
        go_wp2_with (go_at_fn g; refine (HC.out _ HG.out).mono ?_; rintro e w1 ⟨rfl, h1⟩; have H1 := hid h1; clear h1)
        go_ret
        refine ⟨?_, HG.out.trans H1.out⟩
        show Ending.returned (.int .i64 (k : Int)) = .returned (.int .i64 (idxI p xs))
        have hd := HX.out
        rw [idxI_skip xs k (by have := HN.out; omega) HE.out, drop_of hd]
        simp [idxI, HPX.out]
      | false =>
        rw [hpx] at HC
        have HPX := hid hpx; clear hpx
        go_wp2_with (go_at_fn g; refine (HC.out _ HG.out).mono ?_; rintro e w1 ⟨rfl, h1⟩; have H1 := hid h1; clear h1)
        go_roundg (gk - 1)
        case measure => have := HK.out; omega
        case rel =>
          refine ⟨k + 1, by go_num, by omega, hid (by have := HK.out; omega), hid (HG.out.trans H1.out), hid ?_⟩
          intro y hy
          rw [List.take_add_one, HX.out] at hy
          rcases List.mem_append.1 hy with hy | hy
          · exact HE.out y hy
          · rw [List.mem_singleton.1 hy]; exact HPX.out
    · have hlt' : ¬ (k : Int) < (n : Int) := by omega
      obtain rfl : k = n := by omega
      go_wp2
      go_ret
      refine ⟨?_, HG.out⟩
      show Ending.returned (.int .i64 (-1)) = .returned (.int .i64 (idxI p xs))
      rw [idxI_skip xs k (by have := HN.out; omega) HE.out, List.drop_eq_nil_of_le (by have := HN.out; omega)]
      rfl
theorem ContainsFuncI_calls {g : Nat} {lb : Array Value} (eg : ∀ args w, (callFunc g args).run Try.prog w = .ok (.enter g args) w) {w : World} {S : Nat → Prop} {A : Option Addr} {c : Nat} {xs : List Int} {p : Int → Bool} (ha : RowAt Kind.int w S A xs) (hn : xs.length ≤ 9223372036854775807) (hp : AskI Try.prog g lb xs p w) :
    Calls Try.prog 52 #[.slice A xs.length c, .func (.func g) #[] lb] w fun e w' => e = .returned (.bool (xs.any p)) ∧ Gro w w' := by
  have HI := hid (IndexFuncI_calls (c := c) eg ha hn hp)
  clear ha hp
  obtain ⟨i, hi⟩ : ∃ i, idxI p xs = i := ⟨_, rfl⟩
  have hres : xs.any p = decide (0 ≤ i) := by
    rw [← hi]
    obtain ⟨h1, _, h3⟩ := idxI_neg p xs
    cases hb : xs.any p with
    | true =>
      obtain ⟨x, hx, e⟩ := List.any_eq_true.1 hb
      symm
      rw [decide_eq_true_iff]
      apply Classical.byContradiction
      intro hn
      rw [h3.1 (by omega) x hx] at e
      cases e
    | false =>
      symm
      rw [decide_eq_false_iff_not]
      have := h3.2 (fun x hx => by have := List.any_eq_false.1 hb x hx; simpa using this)
      omega
  rw [hres]
  rw [hi] at HI
  clear hres hi
  go_enter Try.func52, Try.ntmps52
  go_wp2_with (go_at_call 70; refine HI.out.mono ?_; rintro e w' ⟨rfl, h1⟩; have H1 := hid h1; clear h1)
  go_ret
  exact ⟨rfl, H1.out⟩
theorem falseAt1_calls {B : Nat} {x : Int} (hx : -9223372036854775807 ≤ x) (hx2 : x ≤ 9223372036854775807) (t : Tr) (W : World) (hc : W.cell? ⟨B, 0, none⟩ = some (.int .i64 x)) :
    Calls Try.prog 68 #[.agg #[.int .i64 t.lit, .int .i64 t.reason, .int .i64 t.level], .pointer (some ⟨B, 0, none⟩)] W fun e W' => e = .returned (.bool (t.lit == -x)) ∧ Gro W W' := by
  have hw : wrap64 (-x) = -x := IntWalk.wrap64_in _ (by omega)
  have hlt : B < W.heap.size := World.block_lt_of_cell? W _ hc
  generalize t.lit = a
  generalize t.reason = b
  generalize t.level = c
  go_enter Try.func68, Try.ntmps68
  go_wp2
  go_ret
  exact ⟨rfl, (Gro.refl _).alloc _⟩
set_option maxHeartbeats 1000000 in
theorem IndexFuncT_calls {w : World} {S : Nat → Prop} {A : Option Addr} {c B : Nat} {tr : List Tr} {x : Int} (hx : -9223372036854775807 ≤ x) (hx2 : x ≤ 9223372036854775807) (ha : RowAt trK w S A tr) (hn : tr.length ≤ 9223372036854775807) (hB : w.cell? ⟨B, 0, none⟩ = some (.int .i64 x)) :
    Calls Try.prog 67 #[.slice A tr.length c, .func (.func 68) #[] #[.pointer (some ⟨B, 0, none⟩)]] w fun e w' => e = .returned (.int .i64 (fAt tr x)) ∧ Gro w w' := by
  have HA := hid ha; clear ha
  have HB := hid hB; clear hB
  have eg : ∀ args w, (callFunc 68 args).run Try.prog w = .ok (.enter 68 args) w := enters_of Try.func68 (by kernel_rfl) rfl
  obtain ⟨n, hnn⟩ : ∃ n, tr.length = n := ⟨_, rfl⟩
  have HN := hid hnn
  rw [hnn] at hn ⊢
  clear hnn
  go_enter Try.func67, Try.ntmps67
  go_wp2
  go_loopg [5, 8] n (fun kq _ v8 wr => ∃ k : Nat, v8 = .int .i64 k ∧ k ≤ n ∧ Hid (kq + k = n) ∧ Hid (Gro w wr) ∧ Hid (∀ t ∈ tr.take k, (t.lit == -x) = false))
  case atStart => exact ⟨0, rfl, by omega, hid (by omega), hid (Gro.refl _), hid (by simp)⟩
  case round =>
    obtain ⟨k, rfl, hk, HK, HG, HE⟩ := hrel
    by_cases hlt : k < n
    · obtain ⟨t, ht⟩ : ∃ t, tr[k]? = some t := ⟨_, List.getElem?_eq_getElem (by have := HN.out; omega)⟩
      obtain ⟨b, o, rfl, hc0, hc1, hc2⟩ := trAt (HG.out.row HA.out) ht
      have hlt' : (k : Int) < (n : Int) := by omega
      have HC := hid (fun W (hW : Gro wr W) => falseAt1_calls hx hx2 t W (hW.cell (HG.out.cell HB.out)))
      have HX := hid ht
      clear ht
      cases hpx : (t.lit == -x) with
      | true =>
        rw [hpx] at HC
        have HPX := hid hpx; clear hpx
        go_wp2_with (go_at_fn 68; refine (HC.out _ (Gro.refl _)).mono ?_; rintro e w1 ⟨rfl, h1⟩; have H1 := hid h1; clear h1)
        go_ret
        refine ⟨?_, HG.out.trans H1.out⟩
        show Ending.returned (.int .i64 (k : Int)) = .returned (.int .i64 (fAt tr x))
        have hd := HX.out
        unfold fAt
        rw [idxI_skip tr k (by have := HN.out; omega) HE.out, drop_of hd]
        simp [idxI, HPX.out]
      | false =>
        rw [hpx] at HC
        have HPX := hid hpx; clear hpx
        go_wp2_with (go_at_fn 68; refine (HC.out _ (Gro.refl _)).mono ?_; rintro e w1 ⟨rfl, h1⟩; have H1 := hid h1; clear h1)
        go_roundg (gk - 1)
        case measure => have := HK.out; omega
        case rel =>
          refine ⟨k + 1, by go_num, by omega, hid (by have := HK.out; omega), hid (HG.out.trans H1.out), hid ?_⟩
          intro y hy
          rw [List.take_add_one, HX.out] at hy
          rcases List.mem_append.1 hy with hy | hy
          · exact HE.out y hy
          · rw [List.mem_singleton.1 hy]; exact HPX.out
    · have hlt' : ¬ (k : Int) < (n : Int) := by omega
      obtain rfl : k = n := by omega
      go_wp2
      go_ret
      refine ⟨?_, HG.out⟩
      show Ending.returned (.int .i64 (-1)) = .returned (.int .i64 (fAt tr x))
      unfold fAt
      rw [idxI_skip tr k (by have := HN.out; omega) HE.out, List.drop_eq_nil_of_le (by have := HN.out; omega)]
      rfl
theorem falseAt_calls {w : World} {S : Nat → Prop} {A : Option Addr} {c : Nat} {tr : List Tr} {x : Int} (hx : -9223372036854775807 ≤ x) (hx2 : x ≤ 9223372036854775807) (ha : RowAt trK w S A tr) (hn : tr.length ≤ 9223372036854775807) :
    Calls Try.prog 50 #[.slice A tr.length c, .int .i64 x] w fun e w' => e = .returned (.tuple #[.int .i64 (max (fAt tr x) 0), .bool (decide (0 ≤ fAt tr x))]) ∧ Gro w w' := by
  have HG := hid ((Gro.refl w).alloc (.cells #[.int .i64 x] 3))
  have HI := hid (IndexFuncT_calls (w := w.alloc (.cells #[.int .i64 x] 3)) (B := w.heap.size) (c := c) hx hx2 (HG.out.row ha) hn (by simp [go_sem]))
  clear ha
  generalize fAt tr x = i at *
  by_cases h0 : 0 ≤ i
  · have hm : max i 0 = i := by omega
    rw [hm, decide_eq_true h0]
    clear hm
    go_enter Try.func50, Try.ntmps50
    go_wp2_with (go_at_call 67; refine HI.out.mono ?_; rintro e w' ⟨rfl, h1⟩; have H1 := hid h1; clear h1)
    go_ret2
    exact ⟨rfl, HG.out.trans H1.out⟩
  · have hm : max i 0 = 0 := by omega
    rw [hm, decide_eq_false h0]
    have hd : decide (0 ≤ i) = false := decide_eq_false h0
    have h0' : i < 0 := by omega
    clear hm h0
    go_enter Try.func50, Try.ntmps50
    go_wp2_with (go_at_call 67; refine HI.out.mono ?_; rintro e w' ⟨rfl, h1⟩; have H1 := hid h1; clear h1)
    go_ret2
    exact ⟨rfl, HG.out.trans H1.out⟩
end Go.Proofs.Ytcglokippflioaa
