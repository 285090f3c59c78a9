/- Texts of the claim, in one: LubW. -/
import Derived.Deep.LoopGhost
import Derived.IntWalk
import Derived.Test.YtcglokippflioaaSm6

/-! Luby. -/
namespace Go.Proofs.Ytcglokippflioaa
open Go Go.RowKit YLib
/-- What the walks need of a number: its highest power of two. -/
theorem lub_step {x : Nat} (hx : 1 ≤ x) (hx2 : x ≤ 9223372036854775807) : ∃ L q : Nat, L ≤ 62 ∧ (2 : Int) ^ L = q ∧ (2 : Int) ^ (L + 1) = 2 * q ∧ 1 ≤ q ∧ q ≤ x ∧ x < 2 * q ∧ q ≤ 4611686018427387904 ∧ (2 ≤ x → 2 ≤ q) ∧
    (L ≤ 61 → q ≤ 2305843009213693952) ∧ lub x = (if 2 * q - 1 = x then q else lub (x - (q - 1))) ∧ ∀ n : Nat, 1 ≤ n → n ≤ L → ∃ p : Nat, (2 : Int) ^ n = p ∧ 2 ≤ p ∧ p ≤ x ∧ p ≤ 4611686018427387904 := by
  have hp1 : 2 ^ x.log2 ≤ x := Nat.log2_self_le (by omega)
  have hp2 : x < 2 ^ (x.log2 + 1) := Nat.lt_log2_self
  have hl : lub x = if 2 ^ (x.log2 + 1) - 1 = x then 2 ^ x.log2 else lub (x - (2 ^ x.log2 - 1)) := by
    by_cases h2 : x < 2
    · obtain rfl : x = 1 := by omega
      conv => lhs; unfold lub
      rfl
    · conv => lhs; unfold lub
      rw [dif_neg h2]
  have hb : 2 ≤ x → 1 ≤ x.log2 := fun h => (Nat.le_log2 (by omega)).2 h
  generalize hL : x.log2 = L at *
  have h62 : ∀ n, n ≤ 62 → 2 ^ n ≤ 4611686018427387904 := fun n h => Nat.pow_le_pow_right (n := 2) (by omega) h
  have h61 : ∀ n, n ≤ 61 → 2 ^ n ≤ 2305843009213693952 := fun n h => Nat.pow_le_pow_right (n := 2) (by omega) h
  have hL62 : L ≤ 62 := by
    rcases Nat.lt_or_ge 62 L with h | h
    · have h3 : 2 ^ 63 ≤ 2 ^ L := Nat.pow_le_pow_right (n := 2) (by omega) h
      have h4 : (2 : Nat) ^ 63 = 9223372036854775808 := by decide
      rw [h4] at h3
      generalize 2 ^ L = q at *
      omega
    · exact h
  have hcast : ∀ n : Nat, (2 : Int) ^ n = ((2 ^ n : Nat) : Int) := fun n => by simp
  have hs : 2 ^ (L + 1) = 2 * 2 ^ L := by rw [Nat.pow_succ, Nat.mul_comm]
  refine ⟨L, 2 ^ L, hL62, hcast L, ?_, Nat.pow_pos (by omega), hp1, by rw [← hs]; exact hp2, h62 L hL62, fun h => ?_, h61 L, by rw [← hs]; exact hl, fun n h1 h2 => ⟨2 ^ n, hcast n, ?_, Nat.le_trans (Nat.pow_le_pow_right (by omega) h2) hp1, h62 n (by omega)⟩⟩
  · rw [hcast, hs]; simp
  · exact Nat.pow_le_pow_right (n := 2) (i := 1) (by omega) (hb h)
  · exact Nat.pow_le_pow_right (n := 2) (i := 1) (by omega) h1
set_option maxRecDepth 100000 in
set_option maxHeartbeats 1000000 in
theorem Luby_calls (k : Int) (hk : k ≤ 9223372036854775807) (w : World) : Calls Try.prog 5 #[.int .i64 k] w fun e w' => e = .returned (.int .i64 (lub k.toNat)) ∧ w' = w := by
  go_enter Try.func5, Try.ntmps5
  by_cases h1 : k < 1
  · go_wp2
    go_ret
    have : k.toNat = 0 := by omega
    rw [this]
    exact ⟨by unfold lub; simp, rfl⟩
  · obtain ⟨u, rfl⟩ := Int.eq_ofNat_of_zero_le (show 0 ≤ k by omega)
    go_wp2
    go_loopg [3] u (fun kq v3 wr => ∃ (x : Nat), v3 = .int .u64 x ∧ 1 ≤ x ∧ x ≤ 9223372036854775807 ∧ Hid (lub x = lub u) ∧ Hid (kq = x) ∧ wr = w)
    case atStart => exact ⟨u, rfl, by omega, by omega, hid rfl, hid rfl, rfl⟩
    case round =>
      obtain ⟨x, rfl, hx1, hx2, HX, HK, hww⟩ := hrel
      subst hww
      obtain ⟨L, q, hL62, hq1, hq2, hq3, hq4, hq5, hq6, hq7, hq8, hlub, hn⟩ := lub_step hx1 hx2
      have HLU := hid hlub
      have HN := hid hn
      clear hlub hn hq8
      go_wp2
      go_loopg [4] L (fun kq v4 wq => ∃ (n : Nat), v4 = .int .i64 n ∧ 1 ≤ n ∧ n ≤ L + 1 ∧ Hid (kq + n = L + 1) ∧ wq = wr)
      case atStart => exact ⟨1, rfl, by omega, by omega, hid (by omega), rfl⟩
      case round =>
        obtain ⟨n, rfl, hn1, hn2, HM, hww⟩ := hrel
        subst hww
        by_cases hnL : n ≤ L
        · obtain ⟨p, hpI, hp1, hp2, hp3⟩ := HN.out n hn1 hnL
          have hw1 : IntKind.u64.wrap ((2 : Int) ^ n) = (p : Int) := by rw [hpI]; exact IntWalk.u64_in _ (by omega)
          have hw2 : IntKind.u64.wrap ((p : Int) - 1) = (p : Int) - 1 := IntWalk.u64_in _ (by omega)
          have hlt : (p : Int) - 1 < x := by omega
          clear hpI hq1 hq2
          go_wp2
          go_roundg (gk - 1)
          case measure => have := HM.out; omega
          case rel => exact ⟨n + 1, by go_num, by omega, by omega, hid (by have := HM.out; omega), rfl⟩
        · obtain rfl : n = L + 1 := by omega
          have hlt : ¬ 2 * (q : Int) - 1 < x := by omega
          have hw1 : IntKind.u64.wrap ((2 : Int) ^ (L + 1)) = 2 * (q : Int) := by rw [hq2]; exact IntWalk.u64_in _ (by omega)
          have hw2 : IntKind.u64.wrap (2 * (q : Int) - 1) = 2 * (q : Int) - 1 := IntWalk.u64_in _ (by omega)
          have hw3 : IntKind.u64.wrap ((2 : Int) ^ L) = (q : Int) := by rw [hq1]; exact IntWalk.u64_in _ (by omega)
          have hw3' : wrap64 ((2 : Int) ^ L) = (q : Int) := by rw [hq1]; exact IntWalk.wrap64_in _ (by omega)
          have hw4 : IntKind.u64.wrap ((q : Int) - 1) = (q : Int) - 1 := IntWalk.u64_in _ (by omega)
          have hw5 : IntKind.u64.wrap ((x : Int) - ((q : Int) - 1)) = (x : Int) - ((q : Int) - 1) := IntWalk.u64_in _ (by omega)
          clear hq1 hq2
          by_cases he : 2 * (q : Int) - 1 = x
          · have hb : (2 * (q : Int) - 1 == (x : Int)) = true := by rw [he]; simp
            have hres : lub u = q := by rw [← HX.out, HLU.out, if_pos (by omega)]
            have HRES := hid hres
            clear hres
            go_wp2
            go_ret
            have hres := HRES.out
            refine ⟨?_, rfl⟩
            show Ending.returned (.int .i64 q) = .returned (.int .i64 (lub (u : Int).toNat))
            rw [Int.toNat_natCast, hres]
          · have hb : (2 * (q : Int) - 1 == (x : Int)) = false := by simpa using he
            have hres : lub x = lub (x - (q - 1)) := by rw [HLU.out, if_neg (by omega)]
            go_wp2
            go_roundg (x - (q - 1))
            case measure => have := HK.out; omega
            case rel => exact ⟨x - (q - 1), by congr 1; omega, by omega, by omega, hid (hres.symm.trans HX.out), hid rfl, rfl⟩
set_option maxRecDepth 100000 in
set_option maxHeartbeats 2000000 in
theorem RLuby_calls (w : World) : ∀ (u : Nat), u ≤ 9223372036854775807 → Calls Try.prog 6 #[.int .i64 u] w fun e w' => e = .returned (.int .i64 (lub u)) ∧ w' = w := by
  intro u
  induction u using Nat.strongRecOn with
  | ind x IH =>
  intro hx2
  have HI := hid IH; clear IH
  go_enter Try.func6, Try.ntmps6
  by_cases h1 : (x : Int) < 1
  · go_wp2
    go_ret
    have : x = 0 := by omega
    rw [this]
    exact ⟨by unfold lub; simp, rfl⟩
  · obtain ⟨L, q, hL62, hq1, hq2, hq3, hq4, hq5, hq6, hq7, hq8, hlub, hn⟩ := lub_step (by omega) hx2
    have HLU := hid hlub
    have HN := hid hn
    have HI2 := hid (fun (h2 : 2 ≤ q) => HI.out (x - (q - 1)) (by omega) (by omega))
    clear hlub hn HI
    go_wp2
    go_loopg [3] L (fun kq v3 wq => ∃ (n : Nat), v3 = .int .i64 n ∧ 1 ≤ n ∧ n ≤ L + 1 ∧ Hid (kq + n = L + 1) ∧ wq = w)
    case atStart => exact ⟨1, rfl, by omega, by omega, hid (by omega), rfl⟩
    case round =>
      obtain ⟨n, rfl, hn1, hn2, HM, hww⟩ := hrel
      subst hww
      by_cases hnL : n ≤ L
      · obtain ⟨p, hpI, hp1, hp2, hp3⟩ := HN.out n hn1 hnL
        have hlt : (p : Int) - 1 < x := by omega
        have hn63 : (n : Int) < 63 := by omega
        have hw1 : wrap64 ((2 : Int) ^ n) = (p : Int) := by rw [hpI]; exact IntWalk.wrap64_in _ (by omega)
        clear hpI hq1 hq2
        go_wp2
        go_roundg (gk - 1)
        case measure => have := HM.out; omega
        case rel => exact ⟨n + 1, by go_num, by omega, by omega, hid (by have := HM.out; omega), rfl⟩
      · obtain rfl : n = L + 1 := by omega
        have hw3 : wrap64 ((2 : Int) ^ L) = (q : Int) := by rw [hq1]; exact IntWalk.wrap64_in _ (by omega)
        by_cases h63 : L ≤ 61
        · have hq9 := hq8 h63
          have h63' : (L : Int) + 1 < 63 := by omega
          have hw1 : wrap64 ((2 : Int) ^ (L + 1)) = 2 * (q : Int) := by rw [hq2]; exact IntWalk.wrap64_in _ (by omega)
          have hlt : ¬ 2 * (q : Int) - 1 < x := by omega
          clear hq1 hq2 hq8
          by_cases he : 2 * (q : Int) - 1 = x
          · have hb : (2 * (q : Int) - 1 == (x : Int)) = true := by rw [he]; simp
            have HRES := hid (show lub x = q by rw [HLU.out, if_pos (by omega)])
            go_wp2
            go_ret
            have hres := HRES.out
            refine ⟨?_, rfl⟩
            show Ending.returned (.int .i64 q) = .returned (.int .i64 (lub x))
            rw [hres]
          · have hb : (2 * (q : Int) - 1 == (x : Int)) = false := by simpa using he
            have HRES := hid (show lub x = lub (x - (q - 1)) by rw [HLU.out, if_neg (by omega)])
            have hcs : ((x - (q - 1) : Nat) : Int) = (x : Int) - ((q : Int) - 1) := by omega
            have HC := HI2.out (hq7 (by omega))
            rw [hcs] at HC
            have HC := hid HC
            have hb63 : (L : Int) + 1 ≠ 63 := by omega
            clear hcs
            go_wp2_with (go_at_call 6; refine HC.out.mono ?_; rintro e w' ⟨rfl, rfl⟩)
            go_ret
            have hres := HRES.out
            refine ⟨?_, rfl⟩
            show Ending.returned (.int .i64 (lub (x - (q - 1)))) = .returned (.int .i64 (lub x))
            rw [hres]
        · obtain rfl : L = 62 := by omega
          have hqq : q = 4611686018427387904 := by
            have h2 : ((2 : Int) ^ 62) = 4611686018427387904 := by decide
            rw [h2] at hq1; omega
          subst hqq
          clear hq1 hq2 hq8
          by_cases he : x = 9223372036854775807
          · have hb : (x : Int) = 9223372036854775807 := by omega
            have HRES := hid (show lub x = 4611686018427387904 by rw [HLU.out, if_pos (by omega)])
            go_wp2
            go_ret
            have hres := HRES.out
            refine ⟨?_, rfl⟩
            show Ending.returned (.int .i64 4611686018427387904) = .returned (.int .i64 (lub x))
            rw [hres]; rfl
          · have hb : ((x : Int) == 9223372036854775807) = false := by simp; omega
            have hb' : (x : Int) ≠ 9223372036854775807 := by omega
            have HRES := hid (show lub x = lub (x - (4611686018427387904 - 1)) by rw [HLU.out, if_neg (by omega)])
            have hcs : ((x - (4611686018427387904 - 1) : Nat) : Int) = (x : Int) - 4611686018427387903 := by omega
            have HC := HI2.out (by omega)
            rw [hcs] at HC
            have HC := hid HC
            clear hcs
            go_wp2_with (go_at_call 6; refine HC.out.mono ?_; rintro e w' ⟨rfl, rfl⟩)
            go_ret
            have hres := HRES.out
            refine ⟨?_, rfl⟩
            show Ending.returned (.int .i64 (lub (x - (4611686018427387904 - 1)))) = .returned (.int .i64 (lub x))
            rw [hres]
end Go.Proofs.Ytcglokippflioaa
