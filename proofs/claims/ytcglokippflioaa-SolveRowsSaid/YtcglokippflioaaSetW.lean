import Derived.Test.YtcglokippflioaaTab
import Derived.Deep.RegionHeld3
import Derived.Deep.QuietTactic
import Derived.BigQuiet
import Derived.WalkLawsBesides
import Derived.Deep.LoopGhost
/-! The search's small methods. -/
namespace Go.Proofs.Ytcglokippflioaa
open Go Go.RowKit YLib
theorem size_any (x : Int) (w : World) (h : -9223372036854775807 ≤ x ∧ x ≤ 9223372036854775807) : Calls Try.prog 37 #[.int .i64 x] w fun e w' => e = .returned (.int .i64 (size x)) ∧ w = w' := by
  obtain ⟨h1, h2⟩ := h
  unfold size
  by_cases h0 : 0 ≤ x
  · rw [if_pos h0]
    go_enter Try.func37, Try.ntmps37
    go_wp2
    go_ret
    exact ⟨rfl, rfl⟩
  · rw [if_neg h0]
    have h0 : x < 0 := by omega
    go_enter Try.func37, Try.ntmps37
    go_wp2
    · go_ret
      exact ⟨rfl, rfl⟩
theorem size_bd {x : Int} {n : Nat} (h0 : 0 ≤ size x) (h : size x < n) (hn : n ≤ 9223372036854775807) : -9223372036854775807 ≤ x ∧ x ≤ 9223372036854775807 := by
  unfold size at h0 h; split at h <;> omega

section
variable {w0 w : World} {T : Nat → Prop} {b m : Nat} {fc fo vc vv vt vl : Value} {s : St} {rest : List HP}
set_option maxHeartbeats 1000000 in
theorem set_calls (h : Inv w0 T w (sP b fc fo vc vv vt vl m s ++ rest)) (x r l : Int) (hx0 : 0 ≤ size x) (hx : size x < s.val.length) (htr : s.tr.length < LIM) :
   Calls Try.prog 30 #[.pointer (some ⟨b, 0, none⟩), .int .i64 x, .int .i64 r, .int .i64 l] w fun e w' => e = .returned (.tuple #[]) ∧
     ∃ vt', Inv w0 T w' (sP b fc fo vc vv vt' vl m { s with val := s.val.set (size x).toNat x, tr := s.tr ++ [⟨x, r, l⟩] } ++ rest) := by
  obtain ⟨g, cap, rfl, hv63⟩ := h.rowForm (i := 1) rfl (by omega)
  unfold LIM at htr
  have HQ := hid (fun W => size_any x W (size_bd hx0 hx hv63))
  generalize size x = sz at *
  have hc5 := (h.cell (i := 0) rfl 5 rfl).1
  obtain ⟨hr1, hr2⟩ := h.cellRow (i := 1) rfl sz.toNat (by omega)
  have hne := Ne.symm (h.ne (i := 0) (j := 1) rfl rfl (by decide))
  have h2 := (h.setRow (i := 1) rfl sz.toNat x).drew
  have hc6 := (h2.cell (i := 0) rfl 6 rfl).1
  have h3 := hid h2
  clear h2 h
  go_enter Try.func30, Try.ntmps30
  go_wp2
  go_region_held3 (fun w' => w'.cell? ⟨b, 5, none⟩ = some (.slice (some ⟨g, 0, none⟩) s.val.length cap)) (go_keep) (first | (go_at_call 37; refine (HQ.out _).mono ?_; rintro e w' ⟨rfl, rfl⟩))
  clear hc5 hr1 hr2
  generalize (w.setCell ⟨g, sz.toNat, none⟩ (.int .i64 x)).drew = w1 at *
  have c1 : ∀ j u, ([.int .i64 x, .int .i64 r, .int .i64 l] : List Value)[j]? = some u → (w1.alloc (.cells #[.int .i64 x, .int .i64 r, .int .i64 l] 70)).cell? ((⟨w1.heap.size, 0, none⟩ : Addr).add j) = some u := World.news_of_block (heap_alloc_new w1 _)
  have C1 := hid c1; clear c1
  go_wp2_with (at_builtin; refine wpList_of_wp rfl fun K hK => ?_; go_loud (refine wp_append_inv (d := trK) _ _ 51 rfl Try.underlying51 infoTr rfl (by decide) 2 vt s.tr [⟨x, r, l⟩] (h3.out.alloc _) rfl rfl ⟨w1.heap.size, 0, none⟩ 1 1 rfl [.int .i64 x, .int .i64 r, .int .i64 l] rfl C1.out ⟨_, _, rfl, trK_mk ⟨x, r, l⟩, rfl⟩ (by omega) (by omega) (by omega) ?_); intro g1 cap1 w2 h4; obtain ⟨hc1, hc2⟩ := h4.cell (i := 0) rfl 6 rfl; have H4 := hid h4; clear h4; refine hK _ _ ?_; clear hK K)
  go_end0
  exact ⟨rfl, _, H4.out.set (i := 0) rfl 6 _⟩
end
end Go.Proofs.Ytcglokippflioaa
