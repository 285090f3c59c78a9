import Derived.Test.YtcglokippflioaaLookW
/-! The reference's Ints. -/
namespace Go.Proofs.Ytcglokippflioaa
open Go Go.RowKit YLib
set_option maxHeartbeats 1000000 in
theorem Ints_same {w : World} {S1 S2 : Nat → Prop} {A B : Option Addr} {ca cb nb : Nat} {a b : List Int} (HA : Hid (RowAt Kind.int w S1 A a)) (HB : Hid (RowAt Kind.int w S2 B b)) (HNA : Hid (a.length = nb)) (HN : Hid (b.length = nb)) (hn63 : nb ≤ 9223372036854775807) :
    Calls Try.prog 12 #[.slice A nb ca, .slice B nb cb] w fun e w' => e = .returned (.bool (decide (a = b))) ∧ ∃ q, w' = w.drewN q := by
  go_enter Try.func12, Try.ntmps12
  go_wp2
  go_loopw [5] (fun v5 wr => ∃ (k : Nat), v5 = .int .i64 k ∧ k ≤ nb ∧ Hid (a.take k = b.take k) ∧ ∃ q, wr = w.drewN q) (fun i _ => nb - (intOf i).toNat)
  case atStart => exact ⟨0, rfl, by omega, hid (by simp), 0, rfl⟩
  case round =>
    obtain ⟨k, rfl, hk, HE, q, rfl⟩ := hrel
    by_cases hlt : k < nb
    · obtain ⟨x, hx⟩ : ∃ x, a[k]? = some x := ⟨_, List.getElem?_eq_getElem (by have := HNA.out; omega)⟩
      obtain ⟨y, hy⟩ : ∃ y, b[k]? = some y := ⟨_, List.getElem?_eq_getElem (by have := HN.out; omega)⟩
      obtain ⟨g1, o1, rfl, hc1⟩ := intAt HA.out hx
      obtain ⟨g2, o2, rfl, hc2⟩ := intAt HB.out hy
      have HX := hid hx
      have HY := hid hy
      clear hx hy
      by_cases hxy : x = y
      · subst hxy
        go_wp2
        go_quiet (fail)
        go_wp2
        go_roundw
        case rel => exact ⟨k + 1, by go_num, by omega, hid (by rw [List.take_add_one, List.take_add_one, HE.out, HX.out, HY.out]), _, rfl⟩
        case measure => simp [intOf]; omega
      · have hd : (x != y) = true := by simpa using hxy
        go_wp2
        go_quiet (fail)
        go_wp2
        go_ret
        refine ⟨?_, _, World.drewN_drewN _ _ _⟩
        have : a ≠ b := by
          intro e
          have h1 := HX.out
          rw [e, HY.out] at h1
          injection h1 with h1
          exact hxy h1.symm
        show Ending.returned (.bool false) = .returned (.bool (decide (a = b)))
        rw [decide_eq_false this]
    · obtain rfl : k = nb := by omega
      go_wp2
      go_ret
      have h1 := HE.out
      rw [List.take_of_length_le (by have := HNA.out; omega), List.take_of_length_le (by have := HN.out; omega)] at h1
      refine ⟨?_, q, rfl⟩
      show Ending.returned (.bool true) = .returned (.bool (decide (a = b)))
      rw [decide_eq_true h1]
theorem Ints_calls {w : World} {S1 S2 : Nat → Prop} {A B : Option Addr} {ca cb : Nat} {a b : List Int} (ha : RowAt Kind.int w S1 A a) (hb : RowAt Kind.int w S2 B b) (ha63 : a.length ≤ 9223372036854775807) :
    Calls Try.prog 12 #[.slice A a.length ca, .slice B b.length cb] w fun e w' => e = .returned (.bool (decide (a = b))) ∧ ∃ q, w' = w.drewN q := by
  by_cases hl : a.length = b.length
  · rw [← hl]
    exact Ints_same (hid ha) (hid hb) (hid rfl) (hid hl.symm) ha63
  · have hd : ((a.length : Int) != (b.length : Int)) = true := by simp; omega
    clear ha hb
    have hd2 : a ≠ b := fun e => hl (by rw [e])
    go_enter Try.func12, Try.ntmps12
    go_wp2
    go_ret
    refine ⟨?_, 0, rfl⟩
    show Ending.returned (.bool false) = .returned (.bool (decide (a = b)))
    rw [decide_eq_false hd2]
end Go.Proofs.Ytcglokippflioaa
