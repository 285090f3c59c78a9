import Derived.Test.YtcglokippflioaaSolveW
import Derived.Test.YtcglokippflioaaIntsW
import Derived.Test.YtcglokippflioaaPuX
import Derived.Test.YtcglokippflioaaLib4
/-! awake, of chapter 28. -/
namespace Go.Proofs.Ytcglokippflioaa
open Go Go.RowKit YLib
theorem learn0 : LearnOK noLearn := by
  intro w A1 A2 c1 c2 cls tr k c lv ok _ _ _ _ _ _ _ h
  cases h
theorem clCells {w : World} {S : Nat → Prop} {A : Option Addr} {cap : Nat} {c : Cl} (hl : c.lits.length ≤ cap) (h : RowAt Kind.int w S A c.lits) : cK.rd w S [.slice A c.lits.length cap, .int .i64 c.tag] c :=
  ⟨[.slice A c.lits.length cap], [.int .i64 c.tag], rfl, ⟨A, cap, rfl, hl, h⟩, rfl⟩
theorem solve1_calls (w : World) : Calls Try.prog 11 #[.agg #[.int .i64 2, .slice (some ⟨w.heap.size + 1, 0, none⟩) 1 1, .slice (some ⟨w.heap.size + 1 + 1, 0, none⟩) 2 2], .int .i64 100]
    (((w.alloc (.cells #[.int .i64 1, .int .i64 2] 3)).alloc (.cells #[.slice (some ⟨w.heap.size, 0, none⟩) 2 2, .int .i64 0] 32)).alloc (.cells #[.int .i64 (-1), .int .i64 2] 3)) fun e w' =>
    ∃ Am cm Ag cg st, e = .returned (.tuple #[.agg #[.int .i64 1, .slice Am 2 cm, .slice Ag 0 cg, .int .i64 st], .int .i64 0]) ∧ Inv w NoM w' [rowP Kind.int 3 (.slice Am 2 cm) [-1, 2]] := by
  have h0 := ((((Inv.start0 w).boxc 3 [.int .i64 1, .int .i64 2]).boxc 32 [.slice (some ⟨w.heap.size, 0, none⟩) 2 2, .int .i64 0]).boxc 3 [.int .i64 (-1), .int .i64 2])
  simp only [World.size_alloc] at h0
  obtain ⟨s1, hr1, hv1, hl1⟩ := ex1
  refine (Solve_calls (cc := 1) (co := 2) learn0 (by omega) fit1 (RowAt.of_blk (h0.blk (i := 1) rfl) trivial ⟨[.slice (some ⟨w.heap.size, 0, none⟩) 2 2, .int .i64 0], [], rfl, clCells (c := ⟨[1, 2], 0⟩) (by simp) (ints_at (xs := [1, 2]) (h0.blk (i := 2) rfl)), rfl⟩) (ints_at (xs := [-1, 2]) (h0.blk (i := 0) rfl)) (by simp [LIM]) (by simp [LIM]) hr1 (by intro _; rw [hv1]; rfl)).mono ?_
  rintro e w1 ⟨vm, vg, rfl, h1⟩
  rw [hv1, hl1] at h1
  have h2 := h0.tail.tail.tail.join h1
  obtain ⟨Am, cm, rfl, _⟩ := h2.rowShape (i := 0) rfl
  obtain ⟨Ag, cg, rfl, _⟩ := h2.rowShape (i := 1) rfl
  exact ⟨Am, cm, Ag, cg, _, rfl, h2.init (cs := [_])⟩
theorem solve2_calls (w : World) : Calls Try.prog 11 #[.agg #[.int .i64 1, .slice (some ⟨w.heap.size + 1 + 1, 0, none⟩) 2 2, .slice none 0 0], .int .i64 100]
    (((w.alloc (.cells #[.int .i64 1] 3)).alloc (.cells #[.int .i64 (-1)] 3)).alloc (.cells #[.slice (some ⟨w.heap.size, 0, none⟩) 1 1, .int .i64 0, .slice (some ⟨w.heap.size + 1, 0, none⟩) 1 1, .int .i64 0] 32)) fun e w' =>
    ∃ Am cm Ag cg st, e = .returned (.tuple #[.agg #[.int .i64 2, .slice Am 0 cm, .slice Ag 1 cg, .int .i64 st], .int .i64 0]) ∧ Inv w NoM w' [rowP clK 26 (.slice Ag 1 cg) [[]]] := by
  have h0 := ((((Inv.start0 w).boxc 3 [.int .i64 1]).boxc 3 [.int .i64 (-1)]).boxc 32 [.slice (some ⟨w.heap.size, 0, none⟩) 1 1, .int .i64 0, .slice (some ⟨w.heap.size + 1, 0, none⟩) 1 1, .int .i64 0])
  simp only [World.size_alloc] at h0
  obtain ⟨s1, hr1, hl1⟩ := ex2
  refine (Solve_calls (cc := 2) (co := 0) (Ao := none) learn0 (by omega) fit2 (RowAt.of_blk (h0.blk (i := 0) rfl) trivial ⟨[.slice (some ⟨w.heap.size, 0, none⟩) 1 1, .int .i64 0], [.slice (some ⟨w.heap.size + 1, 0, none⟩) 1 1, .int .i64 0], rfl, clCells (c := ⟨[1], 0⟩) (by simp) (ints_at (xs := [1]) (h0.blk (i := 2) rfl)), _, [], rfl, clCells (c := ⟨[-1], 0⟩) (by simp) (ints_at (xs := [-1]) (h0.blk (i := 1) rfl)), rfl⟩) (RowAt.nil _ _ _ _) (by simp [LIM]) (by simp [LIM]) hr1 (by intro h; cases h)).mono ?_
  rintro e w1 ⟨vm, vg, rfl, h1⟩
  rw [hl1, if_neg (by decide)] at h1
  have h2 := h0.tail.tail.tail.join h1
  obtain ⟨Am, cm, rfl, _⟩ := h2.rowShape (i := 0) rfl
  obtain ⟨Ag, cg, rfl, _⟩ := h2.rowShape (i := 1) rfl
  exact ⟨Am, cm, Ag, cg, _, rfl, h2.tail⟩
set_option maxRecDepth 100000 in
set_option maxHeartbeats 1000000 in
theorem awake_calls (w : World) : Calls Try.prog 7 #[] w fun e w' => e = .returned (.bool true) ∧ Inv w NoM w' [] := by
  have HS1 := hid (solve1_calls w)
  go_enter Try.func7, Try.ntmps7
  go_upto_region 2 with (go_at_call 11; refine HS1.out.mono ?_; rintro e w1 ⟨Am, cm, Ag, cg, st1, rfl, h1⟩; have H1 := hid (h1.boxc 35 [.int .i64 1, .slice Am 2 cm, .slice Ag 0 cg, .int .i64 st1]); clear h1)
  generalize w1.alloc _ = w2 at *
  generalize w1.heap.size = B1 at *
  clear HS1
  have HS2 := hid (solve2_calls w2)
  go_upto_region 3 with (go_at_call 11; refine HS2.out.mono ?_; rintro e w3 ⟨Am2, cm2, Ag2, cg2, st2, rfl, h1⟩; have H2 := hid ((H1.out.join h1).boxc 35 [.int .i64 2, .slice Am2 0 cm2, .slice Ag2 1 cg2, .int .i64 st2]); clear h1)
  generalize w3.alloc _ = w4 at *
  generalize w3.heap.size = B2 at *
  clear HS2 H1
  have h2 := H2.out
  have hb10 := (h2.cell (i := 2) rfl 0 rfl).1
  have hb11 := (h2.cell (i := 2) rfl 1 rfl).1
  have hb20 := (h2.cell (i := 0) rfl 0 rfl).1
  have hb22 := (h2.cell (i := 0) rfl 2 rfl).1
  have hlt1 : B1 < w4.heap.size := heap_lt (h2.blk (i := 2) rfl)
  have hlt2 : B2 < w4.heap.size := heap_lt (h2.blk (i := 0) rfl)
  obtain ⟨_, _, e1, _, _, hm⟩ := h2.rowShape (i := 3) rfl
  cases e1
  obtain ⟨_, _, e1, _, _, hg⟩ := h2.rowShape (i := 1) rfl
  cases e1
  obtain ⟨gb, go, Ag3, cg3, rfl, hgc, _, _⟩ := clAt hg (i := 0) (x := []) rfl
  rw [Nat.add_zero] at hgc
  have hlt3 : gb < w4.heap.size := World.block_lt_of_cell? w4 _ hgc
  have h3 := h2.boxc 3 [.int .i64 (-1), .int .i64 2]
  have HI := hid (Ints_same (ca := cm) (cb := 2) (nb := 2) (hid (hm.chg ((Chg.refl NoM w4).alloc _) (fun _ _ => id))) (hid (ints_at (xs := [-1, 2]) (h3.blk (i := 0) rfl))) (hid rfl) (hid rfl) (by omega))
  have HL3 := hid (fun W => Luby_calls 3 (by omega) W)
  have HL7 := hid (fun W => Luby_calls 7 (by omega) W)
  rw [show (3 : Int).toNat = 3 from rfl, lub3] at HL3
  rw [show (7 : Int).toNat = 7 from rfl, lub7] at HL7
  have H3 := hid (h3.tail.tail.tail.tail.tail)
  clear h2 h3 hm hg H2
  go_wp2_with (first
    | (go_at_call 12; refine HI.out.mono ?_; rintro e w5 ⟨rfl, q, rfl⟩)
    | (go_at_call 5; first | ((with_reducible refine (HL3.out _).mono ?_); rintro e w6 ⟨rfl, rfl⟩) | ((with_reducible refine (HL7.out _).mono ?_); rintro e w6 ⟨rfl, rfl⟩)))
  go_ret
  exact ⟨rfl, H3.out.drewN _⟩
end Go.Proofs.Ytcglokippflioaa
