import Derived.Test.YtcglokippflioaaFitW
import Derived.Test.YtcglokippflioaaRunW
import Derived.Laws.ResultCell
import Derived.Laws.NewBlocks
/-! Solve. -/
namespace Go.Proofs.Ytcglokippflioaa
open Go Go.RowKit YLib
theorem _root_.Go.Proofs.Ytcglokippflioaa.YLib.Inv.drop2 {T : Nat → Prop} {w0 w : World} {cs : List HP} {c d : HP} (h : Inv w0 T w (c :: d :: cs)) : Inv w0 T w (c :: cs) := (h.perm (List.Perm.swap d c _)).tail
set_option maxRecDepth 100000 in
set_option maxHeartbeats 1000000 in
theorem wrong_calls {w : World} {S : Nat → Prop} {Ac Ao : Option Addr} {cc co : Nat} {vars : Int} {fcl : List Cl} {order : List Int} {budget : Int} (hb : 0 ≤ budget) (hf : fitF vars fcl order) (hc : RowAt cK w S Ac fcl) (ho : RowAt Kind.int w S Ao order) (hl : ∀ c ∈ fcl, c.lits.length ≤ LIM) (hol : order.length ≤ LIM) :
    Calls Try.prog 17 #[.agg #[.int .i64 vars, .slice Ac fcl.length cc, .slice Ao order.length co], .int .i64 budget] w fun e w' => e = .returned (.int .i64 0) ∧ Inv w NoM w' [] := by
  have HI0 := hid ((Inv.start0 w).alloc (.cells #[.int .i64 vars, .slice Ac fcl.length cc, .slice Ao order.length co] 28))
  have HF := hid (Fit_calls (w := w.alloc (.cells #[.int .i64 vars, .slice Ac fcl.length cc, .slice Ao order.length co] 28)) (cc := cc) (co := co) hf ((hc.chg ((Chg.refl NoM w).alloc _) (fun _ _ => id))) ((ho.chg ((Chg.refl NoM w).alloc _) (fun _ _ => id))) hl hol)
  clear hf hc ho hl hol
  go_enter Try.func17, Try.ntmps17
  go_wp2_with (first | (go_at_call 22; refine HF.out.mono ?_; rintro e w' ⟨rfl, h1⟩; have H1 := hid h1; clear h1))
  go_ret
  exact ⟨rfl, HI0.out.join H1.out⟩
set_option maxRecDepth 100000 in
set_option maxHeartbeats 4000000 in
theorem Solve_calls {LF : List (List Int) → List Tr → Int → Option (List Int × Int × Bool)} (hLF : LearnOK LF) {w : World} {S : Nat → Prop} {Ac Ao : Option Addr} {cc co : Nat} {vars : Int} {fcl : List Cl} {order : List Int} {budget : Int} (hb : 0 ≤ budget) (hf : fitF vars fcl order) (hc : RowAt cK w S Ac fcl) (ho : RowAt Kind.int w S Ao order) (hl : ∀ c ∈ fcl, c.lits.length ≤ LIM) (hol : order.length ≤ LIM)
    {fuel : Nat} {r : Int} {s' : St} (hr : runL LF budget fuel 0 0 0 (begSt vars order fcl fcl.length) = some (r, s')) (hlen : r = 1 → s'.val.length = vars.toNat + 1) :
    Calls Try.prog 11 #[.agg #[.int .i64 vars, .slice Ac fcl.length cc, .slice Ao order.length co], .int .i64 budget] w fun e w' => ∃ vm vg, e = .returned (.tuple #[.agg #[.int .i64 r, vm, vg, .int .i64 s'.steps], .int .i64 0]) ∧
      Inv w NoM w' [rowP Kind.int 3 vm (if r = 1 then s'.val.tail else []), rowP clK 26 vg s'.log] := by
  have hf' := hf
  obtain ⟨hv0, hv1, hn, _⟩ := hf'
  have hB := hid (fun (w1 : World) (hi : Chg NoM w w1) => begin_calls (w := w1) (S := S) (Ao := Ao) (cc := cc) (co := co) (order := order) hv0 (by unfold LIM; omega) (hc.chg hi (fun _ _ => id)) (by unfold LIM; omega) hl)
  have hord : RowAt Kind.int w (fun k => ¬ NoM k) Ao order := ho.mono (fun _ _ h => h)
  have hW := hid (fun (w1 : World) (hi : Chg NoM w w1) => wrong_calls (w := w1) (cc := cc) (co := co) hb hf (hc.chg hi (fun _ _ => id)) (ho.chg hi (fun _ _ => id)) hl hol)
  have HR := hid hr
  have HO := hid hord
  have HLN := hid hlen
  have h0 := (((Inv.start0 w).boxc 28 [.int .i64 vars, .slice Ac fcl.length cc, .slice Ao order.length co]).boxc 35 [.int .i64 0, .slice none 0 0, .slice none 0 0, .int .i64 0])
  simp only [World.size_alloc] at h0
  have H0 := hid h0
  clear h0
  clear hr hord hlen hc ho hl hf
  go_enter Try.func11, Try.ntmps11
  go_upto_region 6 with (first
    | (go_at_call 17; refine (hW.out _ H0.out.chg).mono ?_; rintro e w1 ⟨rfl, h1⟩; have H1 := hid (H0.out.join h1); have hF1 := (H1.out.cell (i := 1) rfl 0 rfl).1; have hF2 := (H1.out.cell (i := 1) rfl 1 rfl).1; have hF3 := (H1.out.cell (i := 1) rfl 2 rfl).1; clear h1)
    | (go_at_call 18; refine (hB.out _ H1.out.chg).mono ?_; rintro e w2 ⟨b, vc, vv, vt, vl, m, rfl, h2⟩; have H2 := hid (H1.out.join h2); have HRN := hid (run_calls (w0 := w) (T := NoM) hLF (s := begSt vars order fcl fcl.length) H2.out HO.out budget HR.out); clear h2)
    | (go_at_call 19; refine HRN.out.mono ?_; rintro e w3 ⟨rfl, vc3, vt3, vl3, h3⟩; have H3 := hid h3; clear h3))
  obtain ⟨Al, cl, el, _, hl63, _⟩ := H3.out.rowShape (i := 4) rfl
  subst el
  have hc7 := (H3.out.cell (i := 0) rfl 7 rfl).1
  have hc8 := (H3.out.cell (i := 0) rfl 8 rfl).1
  have hlt : b < w3.heap.size := by obtain ⟨S, hS, _⟩ := H3.out.get (i := 0) rfl; exact heap_lt hS.1
  go_cut [9] (fun v9 wx => ∃ g, v9 = .pointer (some ⟨g, 0, none⟩) ∧ Hid (YLib.Inv w NoM wx (blkP g 35 [.int .i64 r, .slice none 0 0, .slice Al s'.log.length cl, .int .i64 s'.steps] :: (sP b (.slice Ac fcl.length cc) (.slice Ao order.length co) vc3 vv vt3 (.slice Al s'.log.length cl) m s' ++ [blkP (w.heap.size + 1) 35 [.int .i64 0, .slice none 0 0, .slice none 0 0, .int .i64 0], blkP w.heap.size 28 [.int .i64 vars, .slice Ac fcl.length cc, .slice Ao order.length co]]))))
  case first =>
    go_region
    all_goals
      go_wp2_with (fail)
      go_meet
      case rel => exact ⟨_, rfl, hid (H3.out.boxc 35 [.int .i64 r, .slice none 0 0, .slice Al s'.log.length cl, .int .i64 s'.steps]).drew⟩
  case rest =>
    obtain ⟨g, rfl, H4⟩ := hcut
    clear hc7 hc8 hlt HR HO H0 hB hW H3
    have hg0 := (H4.out.cell (i := 0) rfl 0 rfl).1
    have hg1 := (H4.out.cell (i := 0) rfl 1 rfl).1
    have hg2 := (H4.out.cell (i := 0) rfl 2 rfl).1
    have hg3 := (H4.out.cell (i := 0) rfl 3 rfl).1
    have hg1f := (H4.out.cell (i := 0) rfl 1 rfl).2
    have hR0 := H4.out.cell (i := 7) rfl 0 rfl
    have hR1 := H4.out.cell (i := 7) rfl 1 rfl
    have hR2 := H4.out.cell (i := 7) rfl 2 rfl
    have hR3 := H4.out.cell (i := 7) rfl 3 rfl
    by_cases hr1 : r = 1
    · subst hr1
      have hle := HLN.out rfl
      obtain ⟨gv, cv, evv, hv63⟩ := H4.out.rowForm (i := 2) rfl (by omega)
      subst evv
      obtain ⟨nv, hnv⟩ : ∃ nv : Nat, s'.val.length = nv + 1 := ⟨_, hle⟩
      have hnv2 : nv ≤ 4096 := by omega
      obtain ⟨_, _, e5, hlec, _, hr5⟩ := H4.out.rowShape (i := 2) rfl
      cases e5
      have hc5 := (H4.out.cell (i := 1) rfl 5 rfl).1
      rw [hnv] at hc5
      have hlt : b < wc.heap.size := by obtain ⟨S, hS, _⟩ := H4.out.get (i := 1) rfl; exact heap_lt hS.1
      have hlt2 : g < wc.heap.size := by obtain ⟨S, hS, _⟩ := H4.out.get (i := 0) rfl; exact heap_lt hS.1
      have hlv2 : nv + 1 ≤ cv := by omega
      have h5 := H4.out.made (enc := Value.int .i64) (h1 := fun _ => rfl) 3 0 0 (by omega)
      rw [show madeCells #[Value.int .i64 0] 0 = #[] from by simp [madeCells]] at h5
      have H5 := hid h5
      clear h5
      have hnews : ∀ (j : Nat) u, (s'.val.tail.map (Value.int .i64))[j]? = some u → (wc.alloc (.cells #[] 3)).cell? ((⟨gv, 1, none⟩ : Addr).add j) = some u := by
        intro j u hu
        rw [List.getElem?_map] at hu
        obtain ⟨x, hx, rfl⟩ := Option.map_eq_some_iff.1 hu
        rw [List.getElem?_tail] at hx
        obtain ⟨_, _, hA, hc⟩ := intAt hr5 hx
        injection hA with hA
        injection hA with hA1 hA2
        subst hA1 hA2
        have hc' := ((Below.refl _ wc).alloc (Nat.le_refl _) (.cells #[] 3)).cell (p := ⟨gv, 0 + (j + 1), none⟩) (World.block_lt_of_cell? wc _ hc)
        have := hc'.trans hc
        rw [Nat.zero_add, Nat.add_comm] at this
        rw [add_addr']
        exact this
      have HNW := hid hnews
      clear hnews hle hv63 hr5
      rcases Nat.eq_zero_or_pos nv with hz | hz
      · subst hz
        clear hg2 hg3 hR0 hR1 hR2 hR3
        by_cases hcv1 : cv = 1
        all_goals
          go_upto_region 9 with (fail)
          have h7 := H5.out.set (i := 1) rfl 1 (.slice (some ⟨wc.heap.size, 0, none⟩) 0 0)
          rw [World.setCell_alloc_past _ _ _ _ hlt2] at h7
          generalize (wc.setCell ⟨g, 1, none⟩ (.slice (some ⟨wc.heap.size, 0, none⟩) 0 0)).alloc (.cells #[] 3) = w7 at *
          clear H5 H4 HNW hc5 hlt hlt2 hg0 hg1 hg1f
          have hg0 := (h7.cell (i := 1) rfl 0 rfl).1
          have hg1 := (h7.cell (i := 1) rfl 1 rfl).1
          have hg2 := (h7.cell (i := 1) rfl 2 rfl).1
          have hg3 := (h7.cell (i := 1) rfl 3 rfl).1
          have hR0 := h7.cell (i := 8) rfl 0 rfl
          have hR1 := h7.cell (i := 8) rfl 1 rfl
          have hR2 := h7.cell (i := 8) rfl 2 rfl
          have hR3 := h7.cell (i := 8) rfl 3 rfl
          have H7 := hid h7
          clear h7
          go_wp2
          have h9 := (((H7.out.set (i := 8) rfl 0 (.int .i64 1)).set (i := 8) rfl 1 (.slice (some ⟨wc.heap.size, 0, none⟩) 0 0)).set (i := 8) rfl 2 (.slice Al s'.log.length cl)).set (i := 8) rfl 3 (.int .i64 s'.steps)
          generalize (((w7.setCell ⟨w.heap.size + 1, 0, none⟩ (.int .i64 1)).setCell ⟨w.heap.size + 1, 1, none⟩ (.slice (some ⟨wc.heap.size, 0, none⟩) 0 0)).setCell ⟨w.heap.size + 1, 2, none⟩ (.slice Al s'.log.length cl)).setCell ⟨w.heap.size + 1, 3, none⟩ (.int .i64 s'.steps) = w9 at *
          have e0 := (h9.cell (i := 8) rfl 0 rfl).1
          have e1 := (h9.cell (i := 8) rfl 1 rfl).1
          have e2 := (h9.cell (i := 8) rfl 2 rfl).1
          have e3 := (h9.cell (i := 8) rfl 3 rfl).1
          refine bodyPost_ret_by (v := .tuple #[.agg #[.int .i64 1, .slice (some ⟨wc.heap.size, 0, none⟩) 0 0, .slice Al s'.log.length cl, .int .i64 s'.steps], .int .i64 0]) ?_ rfl ⟨_, _, rfl, ?_⟩
          · rw [results_cell_tmp rfl]
            go_simp
          · have hd := h9.drop2.drop2.drop2.drop2.drop2.init (cs := [_, _])
            have ht : s'.val.tail = [] := List.eq_nil_of_length_eq_zero (by rw [List.length_tail]; omega)
            rw [ht]
            exact hd
      · have hcv1 : cv ≠ 1 := by omega
        clear hg2 hg3 hR0 hR1 hR2 hR3
        go_upto_region 9 with (at_builtin; refine wpList_of_wp rfl fun K hK => ?_; go_loud (refine wp_append_inv (d := Kind.int) _ _ 26 rfl Try.underlying26 infoInt rfl (by decide) 0 (.slice (some ⟨wc.heap.size, 0, none⟩) 0 0) [] s'.val.tail H5.out rfl rfl ⟨gv, 1, none⟩ nv (cv - 1) rfl (s'.val.tail.map (Value.int .i64)) (by rw [List.length_tail]; omega) HNW.out (reps_enc _) hz (by simp; omega) (by simp; omega) ?_); intro g1 cap1 w6 h6; obtain ⟨hc1, hc2⟩ := h6.cell (i := 1) rfl 1 rfl; have H6 := hid h6; clear h6; refine hK _ _ ?_; clear hK K)
        have h7 := H6.out.set (i := 1) rfl 1 (.slice (some ⟨g1, 0, none⟩) nv cap1)
        generalize w6.setCell ⟨g, 1, none⟩ (.slice (some ⟨g1, 0, none⟩) nv cap1) = w7 at *
        clear hc1 hc2 H6 H5 H4 HNW hc5 hlt hlt2 hg0 hg1 hg1f
        have hg0 := (h7.cell (i := 1) rfl 0 rfl).1
        have hg1 := (h7.cell (i := 1) rfl 1 rfl).1
        have hg2 := (h7.cell (i := 1) rfl 2 rfl).1
        have hg3 := (h7.cell (i := 1) rfl 3 rfl).1
        have hR0 := h7.cell (i := 8) rfl 0 rfl
        have hR1 := h7.cell (i := 8) rfl 1 rfl
        have hR2 := h7.cell (i := 8) rfl 2 rfl
        have hR3 := h7.cell (i := 8) rfl 3 rfl
        have H7 := hid h7
        clear h7
        go_wp2
        have h9 := (((H7.out.set (i := 8) rfl 0 (.int .i64 1)).set (i := 8) rfl 1 (.slice (some ⟨g1, 0, none⟩) nv cap1)).set (i := 8) rfl 2 (.slice Al s'.log.length cl)).set (i := 8) rfl 3 (.int .i64 s'.steps)
        generalize (((w7.setCell ⟨w.heap.size + 1, 0, none⟩ (.int .i64 1)).setCell ⟨w.heap.size + 1, 1, none⟩ (.slice (some ⟨g1, 0, none⟩) nv cap1)).setCell ⟨w.heap.size + 1, 2, none⟩ (.slice Al s'.log.length cl)).setCell ⟨w.heap.size + 1, 3, none⟩ (.int .i64 s'.steps) = w9 at *
        have e0 := (h9.cell (i := 8) rfl 0 rfl).1
        have e1 := (h9.cell (i := 8) rfl 1 rfl).1
        have e2 := (h9.cell (i := 8) rfl 2 rfl).1
        have e3 := (h9.cell (i := 8) rfl 3 rfl).1
        refine bodyPost_ret_by (v := .tuple #[.agg #[.int .i64 1, .slice (some ⟨g1, 0, none⟩) nv cap1, .slice Al s'.log.length cl, .int .i64 s'.steps], .int .i64 0]) ?_ rfl ⟨_, _, rfl, ?_⟩
        · rw [results_cell_tmp rfl]
          go_simp
        · have hd := h9.drop2.drop2.drop2.drop2.drop2.init (cs := [_, _])
          simpa using hd
    · have hrb : (r == 1) = false := by simpa using hr1
      go_wp2
      have h9 := (((H4.out.set (i := 7) rfl 0 (.int .i64 r)).set (i := 7) rfl 1 (.slice none 0 0)).set (i := 7) rfl 2 (.slice Al s'.log.length cl)).set (i := 7) rfl 3 (.int .i64 s'.steps)
      generalize (((wc.setCell ⟨w.heap.size + 1, 0, none⟩ (.int .i64 r)).setCell ⟨w.heap.size + 1, 1, none⟩ (.slice none 0 0)).setCell ⟨w.heap.size + 1, 2, none⟩ (.slice Al s'.log.length cl)).setCell ⟨w.heap.size + 1, 3, none⟩ (.int .i64 s'.steps) = w9 at *
      have e0 := (h9.cell (i := 7) rfl 0 rfl).1
      have e1 := (h9.cell (i := 7) rfl 1 rfl).1
      have e2 := (h9.cell (i := 7) rfl 2 rfl).1
      have e3 := (h9.cell (i := 7) rfl 3 rfl).1
      refine bodyPost_ret_by (v := .tuple #[.agg #[.int .i64 r, .slice none 0 0, .slice Al s'.log.length cl, .int .i64 s'.steps], .int .i64 0]) ?_ rfl ⟨_, _, rfl, ?_⟩
      · rw [results_cell_tmp rfl]
        go_simp
      · exact (h9.tail.tail.tail.tail.tail.init (cs := [_])).nilRow Kind.int 3
end Go.Proofs.Ytcglokippflioaa
