import Derived.Test.YtcglokippflioaaConfW
import Derived.Test.YtcglokippflioaaBeginW
import Derived.Test.YtcglokippflioaaChoW
import Derived.Test.YtcglokippflioaaLubW
/-! choices; the image of run. -/
namespace Go.Proofs.Ytcglokippflioaa
open Go Go.RowKit YLib
theorem lub_le (u : Nat) : lub u ≤ u := by
  induction u using Nat.strongRecOn with
  | ind x IH =>
    unfold lub
    by_cases h : x < 2
    · rw [dif_pos h]; exact Nat.le_refl _
    · rw [dif_neg h]
      have h1 : 1 ≤ x.log2 := (Nat.le_log2 (by omega)).2 (by omega)
      have h2 : 2 ^ 1 ≤ 2 ^ x.log2 := Nat.pow_le_pow_right (by omega) h1
      have h3 : 2 ^ x.log2 ≤ x := Nat.log2_self_le (by omega)
      generalize 2 ^ x.log2 = q at *
      split
      · exact h3
      · have := IH (x - (q - 1)) (by omega)
        omega
set_option maxRecDepth 100000 in
set_option maxHeartbeats 2000000 in
theorem choices_calls (b : Nat) (w : World) : Calls Try.prog 29 #[.pointer (some ⟨b, 0, none⟩)] w fun e w' =>
    e = .returned (.func (.func 38) #[] #[.pointer (some ⟨w.heap.size, 0, none⟩)]) ∧ w' = w.alloc (.cells #[.pointer (some ⟨b, 0, none⟩)] 47) := by
  go_enter Try.func29, Try.ntmps29
  go_wp2
  go_ret
  exact ⟨rfl, rfl⟩
end Go.Proofs.Ytcglokippflioaa
