import Derived.Test.YtcglokippflioaaRunI
/-! run. -/
namespace Go.Proofs.Ytcglokippflioaa
open Go Go.RowKit YLib
attribute [local go_sem] Oper.semAt_some
section
variable {w0 w : World} {T : Nat → Prop} {xs ys : List HP} {c d : HP}
theorem _root_.Go.Proofs.Ytcglokippflioaa.YLib.Inv.pushBehind (h : Inv w0 T w (c :: (xs ++ ys))) : Inv w0 T w (xs ++ c :: ys) := h.perm (List.perm_middle (l₁ := xs)).symm
theorem _root_.Go.Proofs.Ytcglokippflioaa.YLib.Inv.pullFront (h : Inv w0 T w (xs ++ c :: ys)) : Inv w0 T w (c :: (xs ++ ys)) := h.perm (List.perm_middle (l₁ := xs))
theorem _root_.Go.Proofs.Ytcglokippflioaa.YLib.Inv.pushBehind2 (h : Inv w0 T w (c :: d :: (xs ++ ys))) : Inv w0 T w (xs ++ c :: d :: ys) :=
  (h.perm (List.Perm.cons c (List.perm_middle (l₁ := xs)).symm)).pushBehind
theorem _root_.Go.Proofs.Ytcglokippflioaa.YLib.Inv.pullFront2 (h : Inv w0 T w (xs ++ c :: d :: ys)) : Inv w0 T w (c :: d :: (xs ++ ys)) :=
  (h.pullFront).perm (List.Perm.cons c (List.perm_middle (l₁ := xs)))
end
theorem fold1 (A : Array Value) (p : Nat) (v : Value) : (Array.zip (#[p] : Array Tmp) #[v]).foldl (fun t (q, u) => t.setIfInBounds q u) A = A.setIfInBounds p v := by simp
theorem _root_.Go.Proofs.Ytcglokippflioaa.YLib.Inv.tuck {T : Nat → Prop} {w0 w : World} {xs ys : List HP} {c d : HP} (h : Inv w0 T w (c :: d :: (xs ++ ys))) : Inv w0 T w (d :: (xs ++ c :: ys)) :=
  (h.perm (List.Perm.swap d c _)).perm (List.Perm.cons d (List.perm_middle (l₁ := xs)).symm)
theorem _root_.Go.Proofs.Ytcglokippflioaa.YLib.Inv.dropBehind2 {T : Nat → Prop} {w0 w : World} {xs ys : List HP} {c d : HP} (h : Inv w0 T w (xs ++ c :: d :: ys)) : Inv w0 T w (xs ++ c :: ys) :=
  ((h.pullFront2).perm (List.Perm.swap d c _)).tail.pushBehind
theorem conflL_static {LF : List (List Int) → List Tr → Int → Option (List Int × Int × Bool)} {s s' : St} {k : Int} {r : Bool} (h : conflL LF s k = some (s', r)) : s'.nf = s.nf ∧ s'.order = s.order ∧ s'.vars = s.vars := by
  unfold conflL at h
  repeat' split at h
  all_goals first
    | (cases h; exact ⟨rfl, rfl, rfl⟩)
    | cases h
/-- What holds at the head of each round of run's outer loop. -/
def runI (w0 : World) (T : Nat → Prop) (b m : Nat) (Af Ao : Option Addr) (cf co : Nat) (vv : Value) (s : St) (rest : List HP) (budget : Int) (gB gL : Nat)
    (LF : List (List Int) → List Tr → Int → Option (List Int × Int × Bool)) (r : Int) (s' : St) (kq : Nat) (a : Act) (w : World) : Prop :=
  ∃ (left rst lv : Int) (s1 : St) (vc vt vl : Value) (Ds : List Nat), Hid (Inv w0 T w (sP b (.slice Af s.nf cf) (.slice Ao s.order.length co) vc vv vt vl m s1 ++ (marksP Ds :: blkP gL 3 [.int .i64 lv] :: blkP gB 47 [.pointer (some ⟨b, 0, none⟩)] :: rest))) ∧
    Hid (runL LF budget kq left rst lv s1 = some (r, s')) ∧ s1.nf = s.nf ∧ s1.order = s.order ∧ s1.vars = s.vars ∧
    ∃ u4 u8 u9 u10 u11 u12 u13 u14 u15 u16 u17 u18 u19 u20 u21 u22 u23 u24 u25 u26 u27 u28 u29 u30 u31 u32 u33 u34 u35 u36 u37 u38 u39 u40 u41 u42 u43 u44 u45 u46 u47 u48 u49 u50 u51 u52 u53 u54 u55 u56 u57 u58 u59 : Value, a = { tmps := #[.pointer (some ⟨b, 0, none⟩), .int .i64 budget, .pointer (some ⟨gB, 0, none⟩), undef, u4, .int .i64 left, .int .i64 rst, .pointer (some ⟨gL, 0, none⟩), u8, u9, u10, u11, u12, u13, u14, u15, u16, u17, u18, u19, u20, u21, u22, u23, u24, u25, u26, u27, u28, u29, u30, u31, u32, u33, u34, u35, u36, u37, u38, u39, u40, u41, u42, u43, u44, u45, u46, u47, u48, u49, u50, u51, u52, u53, u54, u55, u56, u57, u58, u59], defers := marks Ds }
section
variable {w0 w : World} {T : Nat → Prop} {b m : Nat} {vc vv vt vl : Value} {s : St} {rest : List HP}
set_option maxRecDepth 100000 in
set_option maxHeartbeats 4000000 in
theorem run_calls {LF : List (List Int) → List Tr → Int → Option (List Int × Int × Bool)} (hLF : LearnOK LF) {Af Ao : Option Addr} {cf co : Nat}
    (h : Inv w0 T w (sP b (.slice Af s.nf cf) (.slice Ao s.order.length co) vc vv vt vl m s ++ rest)) (hord : RowAt Kind.int w0 (fun k => ¬ T k) Ao s.order) (budget : Int) {fuel : Nat} {r : Int} {s' : St} (hr : runL LF budget fuel 0 0 0 s = some (r, s')) :
    Calls Try.prog 19 #[.pointer (some ⟨b, 0, none⟩), .int .i64 budget] w fun e w' => e = .returned (.int .i64 r) ∧
      ∃ vc' vt' vl', Inv w0 T w' (sP b (.slice Af s.nf cf) (.slice Ao s.order.length co) vc' vv vt' vl' m s' ++ rest) := by
  refine callsIn_wide (n := 0) |>.1 ?_
  have HR := hid hr; clear hr
  have HO := hid hord; clear hord
  have H0 := hid ((h.boxc 47 [.pointer (some ⟨b, 0, none⟩)]).pushBehind); clear h
  refine callsIn_of_wp_marks Try.func19 rfl trivial ?_ rfl
  simp only [Try.ntmps19, List.size_toArray, List.length_cons, List.length_nil, Nat.reduceAdd, Nat.reduceSub, Array.replicate_succ, Array.replicate_zero, List.push_toArray, List.append_toArray, List.nil_append, List.cons_append]
  gi_wp2
  refine wpIn_wide.2 (wp_scope_straight (wpIn_wide (n := 0).1 ?_))
  gi_wp2
  refine wpIn_label ?_
  gi_wp2
  refine wpIn_wide.2 (wp_loop_ghost_k (runI w0 T b m Af Ao cf co vv s rest budget w.heap.size (w.heap.size + 1) LF r s') fuel ?_ (fun n a wr hI J K hJ hK => ?_))
  · refine ⟨0, 0, 0, s, vc, vt, vl, [], hid ?_, HR, rfl, rfl, rfl, _, _, _, _, _, _, _, _, _, _, _, _, _, _, _, _, _, _, _, _, _, _, _, _, _, _, _, _, _, _, _, _, _, _, _, _, _, _, _, _, _, _, _, _, _, _, _, _, _, _, _, _, _, rfl⟩
    have h1 := (H0.out.boxc 3 [.int .i64 0]).pushBehind.noMarks.pushBehind
    simp only [World.size_alloc] at h1
    exact h1
  · clear HR H0
    have HJ := hid hJ; clear hJ
    have HK := hid hK; clear hK
    obtain ⟨left, rst, lv, s1, vc1, vt1, vl1, Ds, HI, HRn, hnf, hor, hva, hframe⟩ := hI
    generalize w.heap.size = gB at *
    generalize gB + 1 = gL at *
    have hR := HRn.out
    clear HRn
    cases n with
    | zero => cases hR
    | succ k =>
      rw [runL] at hR
      by_cases hok : okRun s1 ∧ okNums left rst lv
      case neg => rw [if_neg hok] at hR; cases hR
      rw [if_pos hok] at hR
      obtain ⟨⟨hk1, hk2, hk3, hk4, hk5, hk6, hk7, hk8, hk9⟩, hn1, hn2, hn3, hn4, hn5, hn6⟩ := hok
      cases hp : propS lv s1 with
      | none => rw [hp] at hR; cases hR
      | some x =>
      obtain ⟨pk, s2⟩ := x
      rw [hp] at hR
      simp only [] at hR
      have hpl : ∃ v2 t2, propL s1.cls s1.act lv (s1.val.length + 2) s1.val s1.tr = some (pk, v2, t2) ∧ v2.length = s1.val.length ∧ s2 = { s1 with val := v2, tr := t2 } := by
        unfold propS at hp
        split at hp
        · cases hp
        · rename_i k v t e
          by_cases hl : v.length = s1.val.length
          · rw [if_pos hl] at hp
            cases hp
            exact ⟨v, t, e, hl, rfl⟩
          · rw [if_neg hl] at hp; cases hp
      obtain ⟨v2, t2, hpl, hvl, hs2⟩ := hpl
      clear hp
      have HP := hid (propagate_calls HI.out (by omega) (Nat.le_of_lt hk6) lv hpl)
      clear hpl
      have hgB := (HI.out.cell (i := 8) rfl 0 rfl).1
      have hgL := (HI.out.cell (i := 7) rfl 0 rfl).1
      have hend : ∀ (left rst lv : Int) (s4 : St) (vc4 vt4 vl4 : Value) (Ds : List Nat) (w4 : World) (a' : Act), YLib.Inv w0 T w4 (sP b (.slice Af s.nf cf) (.slice Ao s.order.length co) vc4 vv vt4 vl4 m s4 ++ (marksP Ds :: blkP gL 3 [.int .i64 lv] :: blkP gB 47 [.pointer (some ⟨b, 0, none⟩)] :: rest)) →
          runL LF budget k left rst lv s4 = some (r, s') → s4.nf = s.nf → s4.order = s.order → s4.vars = s.vars → (∃ u4 u8 u9 u10 u11 u12 u13 u14 u15 u16 u17 u18 u19 u20 u21 u22 u23 u24 u25 u26 u27 u28 u29 u30 u31 u32 u33 u34 u35 u36 u37 u38 u39 u40 u41 u42 u43 u44 u45 u46 u47 u48 u49 u50 u51 u52 u53 u54 u55 u56 u57 u58 u59 : Value, a' = { tmps := #[.pointer (some ⟨b, 0, none⟩), .int .i64 budget, .pointer (some ⟨gB, 0, none⟩), undef, u4, .int .i64 left, .int .i64 rst, .pointer (some ⟨gL, 0, none⟩), u8, u9, u10, u11, u12, u13, u14, u15, u16, u17, u18, u19, u20, u21, u22, u23, u24, u25, u26, u27, u28, u29, u30, u31, u32, u33, u34, u35, u36, u37, u38, u39, u40, u41, u42, u43, u44, u45, u46, u47, u48, u49, u50, u51, u52, u53, u54, u55, u56, u57, u58, u59], defers := marks Ds }) → K a' w4 :=
        fun left rst lv s4 vc4 vt4 vl4 Ds w4 a' h1 h2 h3 h4 h5 h6 => HK.out _ _ (Handed.intro k (Nat.lt_succ_self k) (HJ.out _ _ _ ⟨left, rst, lv, s4, vc4, vt4, vl4, Ds, hid h1, hid h2, h3, h4, h5, h6⟩))
      have HEND := hid hend
      clear hend HK HJ
      have hcells : ∀ (lv : Int) (s4 : St) (vc4 vt4 vl4 : Value) (Ds : List Nat) (w4 : World), YLib.Inv w0 T w4 (sP b (.slice Af s.nf cf) (.slice Ao s.order.length co) vc4 vv vt4 vl4 m s4 ++ (marksP Ds :: blkP gL 3 [.int .i64 lv] :: blkP gB 47 [.pointer (some ⟨b, 0, none⟩)] :: rest)) →
          w4.cell? ⟨gB, 0, none⟩ = some (.pointer (some ⟨b, 0, none⟩)) ∧ w4.cell? ⟨gL, 0, none⟩ = some (.int .i64 lv) ∧ w4.frozen? ⟨gL, 0, none⟩ = false := fun lv s4 vc4 vt4 vl4 Ds w4 h =>
        ⟨(h.cell (i := 8) rfl 0 rfl).1, (h.cell (i := 7) rfl 0 rfl).1, (h.cell (i := 7) rfl 0 rfl).2⟩
      have HCELL := hid hcells
      clear hcells
      obtain ⟨u4, u8, u9, u10, u11, u12, u13, u14, u15, u16, u17, u18, u19, u20, u21, u22, u23, u24, u25, u26, u27, u28, u29, u30, u31, u32, u33, u34, u35, u36, u37, u38, u39, u40, u41, u42, u43, u44, u45, u46, u47, u48, u49, u50, u51, u52, u53, u54, u55, u56, u57, u58, u59, rfl⟩ := hframe
      have hst2 : s2.steps = s1.steps := by rw [hs2]
      have hnf2 : s2.nf = s.nf := by rw [hs2]; exact hnf
      have hor2 : s2.order = s.order := by rw [hs2]; exact hor
      have hva2 : s2.vars = s.vars := by rw [hs2]; exact hva
      have hvl2 : s2.val.length = s1.val.length := by rw [hs2]; exact hvl
      have HS2 := hid hs2; clear hs2
      rw [← HS2.out] at HP
      have harm : ∀ w2 vt2, YLib.Inv w0 T w2 (sP b (.slice Af s.nf cf) (.slice Ao s.order.length co) vc1 vv vt2 vl1 m s2 ++ (marksP Ds :: blkP gL 3 [.int .i64 lv] :: blkP gB 47 [.pointer (some ⟨b, 0, none⟩)] :: rest)) →
          w2.cell? ⟨gB, 0, none⟩ = some (.pointer (some ⟨b, 0, none⟩)) ∧ w2.cell? ⟨gL, 0, none⟩ = some (.int .i64 lv) ∧ w2.cell? ⟨b, 8, none⟩ = some (.int .i64 s1.steps) ∧ w2.frozen? ⟨b, 8, none⟩ = false := fun w2 vt2 h2 =>
        ⟨(h2.cell (i := 8) rfl 0 rfl).1, (h2.cell (i := 7) rfl 0 rfl).1, by rw [← hst2]; exact (h2.cell (i := 0) rfl 8 rfl).1, (h2.cell (i := 0) rfl 8 rfl).2⟩
      have HARM := hid harm
      clear harm hgB hgL
      have hgB := (HI.out.cell (i := 8) rfl 0 rfl).1
      have hgL := (HI.out.cell (i := 7) rfl 0 rfl).1
      have hfin : ∀ (Ds : List Nat) (lv : Int) (s4 : St) (vc4 vt4 vl4 : Value) (w4 : World) (tmps : Array Value) (v : Int), tmps.getD 4 undef = .int .i64 v → YLib.Inv w0 T w4 (sP b (.slice Af s.nf cf) (.slice Ao s.order.length co) vc4 vv vt4 vl4 m s4 ++ (marksP Ds :: blkP gL 3 [.int .i64 lv] :: blkP gB 47 [.pointer (some ⟨b, 0, none⟩)] :: rest)) → v = r → s4 = s' →
          LeavesInM Fence.wide 0 Try.prog Try.f19 tmps (fun e w' => e = .returned (.int .i64 r) ∧ ∃ vc' vt' vl', YLib.Inv w0 T w' (sP b (.slice Af s.nf cf) (.slice Ao s.order.length co) vc' vv vt' vl' m s' ++ rest)) (marks Ds) .returning w4 := by
        intro Ds lv s4 vc4 vt4 vl4 w4 tmps v hres h4 hv hs
        subst hv hs
        refine leaves_marks Ds w4 h4.pullFront (fun W hW => ⟨.int .i64 v, (results_tmp (t := 4) rfl _ _ _).trans (by rw [hres]), rfl, vc4, vt4, vl4, hW.dropBehind.dropBehind⟩)
      have HFIN := hid hfin
      clear hfin
      by_cases hpk : 0 ≤ pk
      · rw [if_pos hpk] at hR
        have HRR := hid hR; clear hR
        have hst2' := hst2
        rw [hst2] at HRR
        by_cases hb : s1.steps = budget
        · have hRR := HRR.out
          rw [if_pos hb] at hRR
          cases hRR
          have hbb : (s1.steps == budget) = true := by simpa using hb
          go_wp2_with (first
            | (go_at_call 24; refine HP.out.mono ?_; rintro e w2 ⟨rfl, vt2, h2⟩; obtain ⟨hgB2, hgL2, hst, hfz⟩ := HARM.out _ _ h2; have H2 := hid h2; clear h2))
          show bodyPostM _ _ _ _ _ .ret _ _
          exact HFIN.out Ds lv _ vc1 vt2 vl1 w2 _ 3 rfl H2.out rfl rfl
        · have hRR := HRR.out
          rw [if_neg hb] at hRR
          have hbb : (s1.steps == budget) = false := by simpa using hb
          cases hcf : conflL LF { s2 with steps := s1.steps + 1 } pk with
          | none => rw [hcf] at hRR; cases hRR
          | some y =>
          obtain ⟨s3, okc⟩ := y
          rw [hcf] at hRR
          clear HRR
          have HCF := hid hcf; clear hcf
          have HRR := hid hRR; clear hRR
          go_upto_region 8 with (first
            | (go_at_call 24; refine HP.out.mono ?_; rintro e w2 ⟨rfl, vt2, h2⟩; obtain ⟨hgB2, hgL2, hst, hfz⟩ := HARM.out _ _ h2; have H3 : Hid (YLib.Inv w0 T (w2.setCell ⟨b, 8, none⟩ (.int .i64 (s1.steps + 1))) (sP b (.slice Af s.nf cf) (.slice Ao s.order.length co) vc1 vv vt2 vl1 m { s2 with steps := s1.steps + 1 } ++ (marksP Ds :: blkP gL 3 [.int .i64 lv] :: blkP gB 47 [.pointer (some ⟨b, 0, none⟩)] :: rest))) := hid (h2.set (i := 0) rfl 8 (.int .i64 (s1.steps + 1))); clear h2))
          generalize w2.setCell ⟨b, 8, none⟩ (.int .i64 (s1.steps + 1)) = w3 at *
          clear hgB2 hgL2 hst hfz hgB hgL
          obtain ⟨hgB, hgL, hfL⟩ := HCELL.out _ _ _ _ _ _ _ H3.out
          have HC := hid (conflict_calls hLF H3.out pk (by show 0 < s2.val.length; omega) HCF.out)
          obtain ⟨hnf3, hor3, hva3⟩ := conflL_static HCF.out
          simp only [] at hnf3 hor3 hva3
          rw [hnf2] at hnf3
          rw [hor2] at hor3
          rw [hva2] at hva3
          have HNF := hid hnf3
          have HOR := hid hor3
          have HVA := hid hva3
          clear hnf3 hor3 hva3
          cases okc with
          | false =>
            have hRR := HRR.out
            cases hRR
            go_wp2_with (first
              | (go_at_call 25; refine HC.out.mono ?_; rintro e w4 ⟨rfl, vc4, vt4, vl4, h4⟩; have H4 := hid h4; clear h4))
            show bodyPostM _ _ _ _ _ .ret _ _
            exact HFIN.out Ds lv _ vc4 vt4 vl4 w4 _ 2 rfl H4.out rfl rfl
          | true =>
            obtain ⟨l, hl⟩ : ∃ l, lastLevel s3.tr = l := ⟨_, rfl⟩
            have HLL := hid hl; clear hl
            go_upto_region 11 with (first
              | (go_at_call 25; refine HC.out.mono ?_; rintro e w4 ⟨rfl, vc4, vt4, vl4, h4⟩; have HLV := hid (level_calls h4); rw [HLL.out] at HLV; obtain ⟨hgB4, hgL4, hfL4⟩ := HCELL.out _ _ _ _ _ _ _ h4; have H4 := hid h4; clear h4)
              | (go_at_call 26; refine HLV.out.mono ?_; rintro e w' ⟨rfl, q, rfl⟩; have H5 : Hid (YLib.Inv w0 T ((w4.drewN q).setCell ⟨gL, 0, none⟩ (.int .i64 l)) (sP b (.slice Af s.nf cf) (.slice Ao s.order.length co) vc4 vv vt4 vl4 m s3 ++ (marksP Ds :: blkP gL 3 [.int .i64 l] :: blkP gB 47 [.pointer (some ⟨b, 0, none⟩)] :: rest))) := hid ((H4.out.drewN q).set (i := 7) rfl 0 (.int .i64 l))))
            generalize (w4.drewN q).setCell ⟨gL, 0, none⟩ (.int .i64 l) = w5 at *
            clear hgB hgL hfL hgB4 hgL4 hfL4 HLV
            obtain ⟨hgB, hgL, hfL⟩ := HCELL.out _ _ _ _ _ _ _ H5.out
            have hRR := HRR.out
            clear HRR
            cases haf : afterL left rst s3 with
            | none => simp only [haf] at hRR; cases hRR
            | some y =>
            obtain ⟨l', r', v', s4⟩ := y
            simp only [haf] at hRR
            have HRR := hid hRR; clear hRR
            unfold afterL at haf
            rw [HLL.out] at haf
            by_cases hc1 : left - 1 ≤ 0
            · by_cases hc2 : 0 < l
              · rw [if_pos ⟨hc1, hc2⟩] at haf
                by_cases hgd : okLits s3.val s3.tr ∧ s3.nf ≤ s3.cls.length ∧ s3.cls.length ≤ LIM ∧ 0 < s3.val.length ∧ 0 < (backL 0 s3.val s3.tr).1.length
                case neg => rw [if_neg hgd] at haf; cases haf
                rw [if_pos hgd] at haf
                obtain ⟨hg1, hg2, hg3, hg4, hg5⟩ := hgd
                cases hfg : forgetL (backL 0 s3.val s3.tr).1 (s3.cls.drop s3.nf) s3.nf s3.act with
                | none => simp only [hfg] at haf; cases haf
                | some act' =>
                simp only [hfg] at haf
                injection haf with haf
                injection haf with e1 haf
                injection haf with e2 haf
                injection haf with e3 e4
                subst e1 e2 e3 e4
                obtain ⟨lu, hlu⟩ : ∃ lu, lub (rst + 1).toNat = lu := ⟨_, rfl⟩
                have hlu2 : (lu : Int) ≤ rst + 1 := by have := lub_le (rst + 1).toNat; omega
                have HLU := hid (fun w => Luby_calls (rst + 1) (by omega) w)
                rw [hlu] at HLU
                rw [hlu] at HRR
                clear hlu
                have HB := hid (back_calls H5.out 0 hg4 hg1)
                obtain ⟨v3, hv3⟩ : ∃ v3, (backL 0 s3.val s3.tr).1 = v3 := ⟨_, rfl⟩
                obtain ⟨t3, ht3⟩ : ∃ t3, (backL 0 s3.val s3.tr).2 = t3 := ⟨_, rfl⟩
                rw [hv3, ht3] at HB
                rw [hv3, ht3] at HRR
                rw [hv3] at hfg hg5
                clear hv3 ht3
                have HFG := hid hfg
                clear hfg
                go_upto_region 17 with (first
                  | (go_at_call 5; refine (HLU.out _).mono ?_; rintro e w' ⟨rfl, rfl⟩)
                  | (go_at_call 27; refine HB.out.mono ?_; rintro e w6 ⟨rfl, vt6, h6⟩; obtain ⟨hgB6, hgL6, hfL6⟩ := HCELL.out _ _ _ _ _ _ _ h6; have H7 : Hid (YLib.Inv w0 T (w6.setCell ⟨gL, 0, none⟩ (.int .i64 0)) (sP b (.slice Af s.nf cf) (.slice Ao s.order.length co) vc4 vv vt6 vl4 m { s3 with val := v3, tr := t3 } ++ (marksP Ds :: blkP gL 3 [.int .i64 0] :: blkP gB 47 [.pointer (some ⟨b, 0, none⟩)] :: rest))) := hid (h6.set (i := 7) rfl 0 (.int .i64 0)); clear h6))
                generalize w6.setCell ⟨gL, 0, none⟩ (.int .i64 0) = w7 at *
                clear hgB hgL hfL hgB6 hgL6 hfL6
                obtain ⟨hgB, hgL, hfL⟩ := HCELL.out _ _ _ _ _ _ _ H7.out
                have h7 := H7.out
                rw [← HNF.out] at h7
                have HF := hid (forget_calls h7 (s := { s3 with val := v3, tr := t3 }) hg5 hg2 hg3 HFG.out)
                clear h7
                rw [HNF.out] at HF
                go_wp2_with (first
                  | (go_at_call 28; refine HF.out.mono ?_; rintro e w8 ⟨rfl, h8⟩; have H8 := hid h8; clear h8))
                exact HEND.out _ _ _ _ _ _ _ Ds _ _ H8.out (by have h := HRR.out; rw [HNF.out] at h; exact h) rfl HOR.out HVA.out ⟨_, _, _, _, _, _, _, _, _, _, _, _, _, _, _, _, _, _, _, _, _, _, _, _, _, _, _, _, _, _, _, _, _, _, _, _, _, _, _, _, _, _, _, _, _, _, _, _, _, _, _, _, _, rfl⟩
              · rw [if_neg (fun h => hc2 h.2)] at haf
                cases haf
                go_wp2
                exact HEND.out _ _ _ _ _ _ _ Ds _ _ H5.out HRR.out HNF.out HOR.out HVA.out ⟨_, _, _, _, _, _, _, _, _, _, _, _, _, _, _, _, _, _, _, _, _, _, _, _, _, _, _, _, _, _, _, _, _, _, _, _, _, _, _, _, _, _, _, _, _, _, _, _, _, _, _, _, _, rfl⟩
            · rw [if_neg (fun h => hc1 h.1)] at haf
              cases haf
              go_wp2
              exact HEND.out _ _ _ _ _ _ _ Ds _ _ H5.out HRR.out HNF.out HOR.out HVA.out ⟨_, _, _, _, _, _, _, _, _, _, _, _, _, _, _, _, _, _, _, _, _, _, _, _, _, _, _, _, _, _, _, _, _, _, _, _, _, _, _, _, _, _, _, _, _, _, _, _, _, _, _, _, _, rfl⟩
      · rw [if_neg hpk] at hR
        cases hch : chooseL lv s2 with
        | none => simp only [hch] at hR; cases hR
        | some y =>
        simp only [hch] at hR
        have HRR := hid hR; clear hR
        have HC := hid (fun w => choices_calls b w)
        go_wp2_with (first
          | (go_at_call 24; refine HP.out.mono ?_; rintro e w2 ⟨rfl, vt2, h2⟩; obtain ⟨hgB2, hgL2, hst, hfz⟩ := HARM.out _ _ h2; have H2 := hid h2; clear h2)
          | (go_at_call 29; refine (HC.out _).mono ?_; rintro e w3 ⟨rfl, rfl⟩))
        obtain ⟨nv, hnv⟩ : ∃ nv : Nat, s.vars = nv := ⟨s.vars.toNat, by omega⟩
        have hcons : ∀ x tl, rowL s.order nv s2.val = x :: tl → (0 ≤ size x ∧ size x < s2.val.length ∧ s2.tr.length < LIM) ∧ y = .inr { s2 with val := s2.val.set (size x).toNat x, tr := s2.tr ++ [⟨x, -1, lv + 1⟩] } := by
          intro x tl hx
          have e : rowL s2.order s2.vars.toNat s2.val = x :: tl := by rw [hor2, hva2, hnv, Int.toNat_natCast]; exact hx
          unfold chooseL at hch
          rw [e] at hch
          simp only [] at hch
          split at hch
          · rename_i hg; cases hch; exact ⟨hg, rfl⟩
          · cases hch
        have hnil : rowL s.order nv s2.val = [] → y = .inl s2 := by
          intro hx
          have e : rowL s2.order s2.vars.toNat s2.val = [] := by rw [hor2, hva2, hnv, Int.toNat_natCast]; exact hx
          unfold chooseL at hch
          rw [e] at hch
          cases hch; rfl
        have HCO := hid hcons
        have HNI := hid hnil
        clear hcons hnil hch
        obtain ⟨gv, cv, hvv, _⟩ := H2.out.rowForm (i := 1) rfl (by omega)
        subst hvv
        have H3 := hid (H2.out.pullFront.boxc 47 [.pointer (some ⟨b, 0, none⟩)]).tuck
        have HIT := hid (choices_iter w2.heap.size b nv Ao co gv cv s.order s2.val (by omega) (by omega) (by rw [← hor]; exact hk4) (by rw [← hor, hvl2]; exact hk9))
        refine (wpIn_wide (n := 0)).1 (wpIn_range (T := T) (w0 := w0) rfl (enters_of Try.func38 (by kernel_rfl) rfl) HIT.out (fun _ => rfl) (Ds := Ds) rfl (fun pre cs => pre = [] ∧ cs = (sP b (.slice Af s.nf cf) (.slice Ao s.order.length co) vc1 (.slice (some ⟨gv, 0, none⟩) s2.val.length cv) vt2 vl1 m s2 ++ (blkP w2.heap.size 47 [.pointer (some ⟨b, 0, none⟩)] :: blkP gL 3 [.int .i64 lv] :: blkP gB 47 [.pointer (some ⟨b, 0, none⟩)] :: rest))) (fun c cs => c = .exit 1 ∧ ∃ x tl vt', rowL s.order nv s2.val = x :: tl ∧ cs = (sP b (.slice Af s.nf cf) (.slice Ao s.order.length co) vc1 (.slice (some ⟨gv, 0, none⟩) s2.val.length cv) vt' vl1 m { s2 with val := s2.val.set (size x).toNat x, tr := s2.tr ++ [⟨x, -1, lv + 1⟩] } ++ (blkP w2.heap.size 47 [.pointer (some ⟨b, 0, none⟩)] :: blkP gL 3 [.int .i64 (lv + 1)] :: blkP gB 47 [.pointer (some ⟨b, 0, none⟩)] :: rest))) H3.out ⟨rfl, rfl⟩ ?ro (fun x => { tmps := #[.pointer (some ⟨b, 0, none⟩), .int .i64 budget, .pointer (some ⟨gB, 0, none⟩), undef, u4, .int .i64 left, .int .i64 rst, .pointer (some ⟨gL, 0, none⟩), .int .i64 pk, .int .i64 x, .pointer (some ⟨b, 0, none⟩), .int .i64 lv, .int .i64 pk, .int .i64 pk, .bool (decide (0 ≤ pk)), u15, u16, u17, u18, u19, u20, u21, u22, u23, u24, u25, u26, u27, u28, u29, u30, u31, u32, u33, u34, u35, u36, u37, u38, u39, u40, u41, u42, u43, u44, u45, u46, u47, u48, u49, u50, .pointer (some ⟨b, 0, none⟩), .func (.func 38) #[] #[.pointer (some ⟨w2.heap.size, 0, none⟩)], .int .i64 x, u54, u55, u56, u57, u58, u59], defers := [] }) ?assign ?body ?done ?stop)
        case ro =>
          rintro pre cs W ⟨rfl, rfl⟩ hI
          obtain ⟨A, c, hA, _, _, hr⟩ := hI.rowShape (i := 1) rfl
          cases hA
          refine ⟨(hI.cell (i := 6) rfl 0 rfl).1, ?_, (hI.cell (i := 0) rfl 2 rfl).1, (hI.cell (i := 0) rfl 5 rfl).1, (HO.out.chg hI.chg (fun k hk => hk)).mono (fun _ _ => trivial), hr⟩
          have h0 := (hI.cell (i := 0) rfl 0 rfl).1
          rw [hva2, hnv] at h0
          exact h0
        case assign =>
          intro l x W K hK
          rw [fold1]
          simp only [List.setIfInBounds_toArray, List.set_cons_succ, List.set_cons_zero]
          gi_wp2
          exact hK
        case body =>
          rintro l D o pre x post cs W hx ⟨rfl, rfl⟩ hI
          obtain ⟨⟨hx1, hx2, hx3⟩, _⟩ := HCO.out x post hx
          have hI2 := hI.pushBehind2
          obtain ⟨hcL, hfL⟩ := hI2.cell (i := 9) rfl 0 rfl
          have hI3 := hI2.set (i := 9) rfl 0 (.int .i64 (lv + 1))
          have hcB := (hI3.cell (i := 10) rfl 0 rfl).1
          have hcL2 := (hI3.cell (i := 9) rfl 0 rfl).1
          have HSET := hid (callsIn_wide (n := 0) |>.2 (set_calls hI3 x (-1) (lv + 1) hx1 hx2 hx3))
          have HX := hid hx
          have hn6' : lv ≤ 1000000000 := by unfold LIM at hn6; omega
          clear hI hI2 hI3 hx
          gi_wp2_with (refine ⟨trivial, rfl, ?_⟩; refine (CallsIn.inRound l HSET.out).mono ?_; rintro e w' ⟨rfl, vt', h5⟩; have H5 := hid h5; clear h5)
          exact ⟨_, ⟨rfl, x, post, vt', HX.out, rfl⟩, H5.out.pullFront2⟩
        case done =>
          rintro D cs W ⟨hxs, rfl⟩ hI
          have hy := HNI.out hxs
          have hRR := HRR.out
          rw [hy] at hRR
          cases hRR
          have H9 := hid hI.pushBehind.dropBehind2
          clear hI
          go_wp2
          show bodyPostM _ _ _ _ _ .ret _ _
          exact HFIN.out (D :: Ds) lv _ _ _ _ W _ 1 rfl H9.out rfl rfl
        case stop =>
          rintro D c cs W ⟨rfl, x, tl, vt', hrow, rfl⟩ hI
          obtain ⟨_, hy⟩ := HCO.out x tl hrow
          have hRR := HRR.out
          rw [hy] at hRR
          refine wpIn_exit ?_
          show K _ _
          exact HEND.out left rst (lv + 1) _ _ _ _ (D :: Ds) _ _ hI.pushBehind.dropBehind2 hRR hnf2 hor2 hva2 ⟨_, _, _, _, _, _, _, _, _, _, _, _, _, _, _, _, _, _, _, _, _, _, _, _, _, _, _, _, _, _, _, _, _, _, _, _, _, _, _, _, _, _, _, _, _, _, _, _, _, _, _, _, _, rfl⟩
end
end Go.Proofs.Ytcglokippflioaa
