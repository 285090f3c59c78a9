/- Texts of the claim, in one: RefW, RefM, RefA, RefH, RefC, RefL. -/
import Derived.Test.YtcglokippflioaaSm1
import Derived.Test.YtcglokippflioaaSm5
import Derived.Test.YtcglokippflioaaSm8
import Derived.Test.YtcglokippflioaaSm17
import Derived.Test.YtcglokippflioaaSm18

/-! The document's words on formulas: good, abs, Fit, light. -/
namespace Go.Proofs.Ytcglokippflioaa
open Go Go.RowKit YLib
set_option maxRecDepth 100000 in
theorem good_calls' (x : Int) {vars : Int} (hv0 : 0 ≤ vars) (hv : vars ≤ 4096) (w : World) : Calls Try.prog 15 #[.int .i64 x, .int .i64 vars] w fun e w' => e = .returned (.bool (decide (litOk vars x))) ∧ w = w' := by
  by_cases h0 : x = 0
  · have h0' : (x != 0) = false := by simpa using h0
    have hd : decide (litOk vars x) = false := decide_eq_false fun h => h.1 h0
    rw [hd]
    go_enter Try.func15, Try.ntmps15
    go_wp2
    go_ret
    exact ⟨rfl, rfl⟩
  · have h0' : (x != 0) = true := by simpa using h0
    by_cases h1 : -vars ≤ x
    · by_cases h2 : x ≤ vars
      · have hd : decide (litOk vars x) = true := decide_eq_true ⟨h0, h1, h2⟩
        rw [hd]
        go_enter Try.func15, Try.ntmps15
        go_wp2
        go_ret
        exact ⟨rfl, rfl⟩
      · have hd : decide (litOk vars x) = false := decide_eq_false fun h => h2 h.2.2
        rw [hd]
        go_enter Try.func15, Try.ntmps15
        go_wp2
        go_ret
        exact ⟨rfl, rfl⟩
    · have hd : decide (litOk vars x) = false := decide_eq_false fun h => h1 h.2.1
      rw [hd]
      go_enter Try.func15, Try.ntmps15
      go_wp2
      go_ret
      exact ⟨rfl, rfl⟩
set_option maxRecDepth 100000 in
theorem rabs_calls (x : Int) (hx : -9223372036854775807 ≤ x) (hx2 : x ≤ 9223372036854775807) (w : World) : Calls Try.prog 16 #[.int .i64 x] w fun e w' => e = .returned (.int .i64 (size x)) ∧ w = w' := by
  by_cases h : x < 0
  · have hs : size x = -x := by unfold size; rw [if_neg (by omega)]
    rw [hs]
    go_enter Try.func16, Try.ntmps16
    go_wp2
    go_ret
    exact ⟨rfl, rfl⟩
  · have hs : size x = x := by unfold size; rw [if_pos (by omega)]
    rw [hs]
    go_enter Try.func16, Try.ntmps16
    go_wp2
    go_ret
    exact ⟨rfl, rfl⟩
/-- The answer to a question. -/
def IsB (p : Prop) (e : Ending) : Prop := ∃ b, e = .returned (.bool b) ∧ (b = true ↔ p)
theorem IsB.no {p : Prop} {v : Value} (h : ¬ p) (hv : v = .bool false) : IsB p (.returned v) := ⟨false, by rw [hv], ⟨fun h => (by cases h), fun h' => absurd h' h⟩⟩
theorem IsB.yes {p : Prop} {v : Value} (h : p) (hv : v = .bool true) : IsB p (.returned v) := ⟨true, by rw [hv], ⟨fun _ => h, fun _ => rfl⟩⟩
theorem infoBool : (Try.prog.info? 4).map (fun i => (i.zero, i.size, i.bytes)) = some (some (.bool false), 1, 1) := by kernel_rfl
theorem makeBools (n : Nat) (hn : n ≤ LIM) : ∀ W : World, (Instr.makeSlice 45 (.int .i64 (n : Int)) (.int .i64 (n : Int))).run Try.prog W = .ok (.slice (some ⟨W.heap.size, 0, none⟩) n n) (W.alloc (.cells (madeCells #[.bool false] n) 4)) := by
  intro W
  unfold LIM at hn
  exact run_make_row' 45 4 (.bool false) 1 Try.underlying45 infoBool rfl .i64 .i64 n (by omega) (by omega) W
/-- What has been seen. -/
def seenB (nv : Nat) (pre : List Int) (sk : List Bool) : Prop := sk.length = 2 * nv + 1 ∧ ∀ y, litOk nv y → sk.getD (y + nv).toNat false = decide (y ∈ pre)
theorem seenB0 (nv : Nat) : seenB nv [] (List.replicate (2 * nv + 1) false) := by
  refine ⟨by simp, fun y hy => ?_⟩
  rw [List.getD_eq_getElem?_getD, List.getElem?_replicate]
  split <;> simp
theorem seenB1 {nv : Nat} {pre : List Int} {sk : List Bool} {x : Int} (h : seenB nv pre sk) (hx : litOk nv x) : seenB nv (pre ++ [x]) (sk.set (x + nv).toNat true) := by
  obtain ⟨h1, h2⟩ := h
  refine ⟨by rw [List.length_set]; exact h1, fun y hy => ?_⟩
  have := h2 y hy
  rw [List.getD_eq_getElem?_getD] at this ⊢
  obtain ⟨_, _, _⟩ := hx
  obtain ⟨_, _, _⟩ := hy
  by_cases hxy : y = x
  · subst hxy
    rw [List.getElem?_set_self (by omega)]
    simp
  · rw [List.getElem?_set_ne (by omega), this]
    simp [hxy]
/-- The first places of a clause are as they should be. -/
def fitTo (vars : Int) (l : List Int) (k : Nat) : Prop := ∀ i (h : i < l.length), i < k → litOk vars l[i] ∧ (0 < i → size (gi l ((i : Int) - 1)) < size l[i])
theorem fitTo0 (vars : Int) (l : List Int) : fitTo vars l 0 := fun i _ h => absurd h (Nat.not_lt_zero i)
theorem fitTo1 {vars : Int} {l : List Int} {k : Nat} (h : fitTo vars l k) {x : Int} (hx : l[k]? = some x) (h1 : litOk vars x) (h2 : 0 < k → size (gi l ((k : Int) - 1)) < size x) : fitTo vars l (k + 1) := by
  intro i hi hk
  by_cases e : i = k
  · subst e
    rw [(List.getElem?_eq_some_iff.1 hx).2]
    exact ⟨h1, h2⟩
  · exact h i hi (by omega)
set_option maxRecDepth 100000 in
set_option maxHeartbeats 8000000 in
theorem RFit_calls {w : World} {S : Nat → Prop} {Ac Ao : Option Addr} {cc co : Nat} {vars : Int} {fcl : List Cl} {order : List Int} (hc : RowAt cK w S Ac fcl) (ho : RowAt Kind.int w S Ao order) (hl : ∀ c ∈ fcl, c.lits.length ≤ 9223372036854775807) (hol : order.length ≤ 9223372036854775807) (hcn : fcl.length ≤ 9223372036854775807) :
    Calls Try.prog 8 #[.agg #[.int .i64 vars, .slice Ac fcl.length cc, .slice Ao order.length co]] w fun e w' => IsB (fitF vars fcl order) e ∧ Inv w NoM w' [] := by
  have HC := hid hc
  have HO := hid ho
  have HL := hid hl
  clear hc ho hl
  have H0 := hid ((Inv.start0 w).boxc 28 [.int .i64 vars, .slice Ac fcl.length cc, .slice Ao order.length co])
  have hB : w.heap.size = w.heap.size := rfl
  by_cases hv0 : vars < 0
  · go_enter Try.func8, Try.ntmps8
    go_wp2
    go_ret
    exact ⟨⟨false, rfl, ⟨fun h => (by cases h), fun h => by have := h.1; omega⟩⟩, H0.out.tail⟩
  by_cases hv1 : 4096 < vars
  · go_enter Try.func8, Try.ntmps8
    go_wp2
    go_ret
    exact ⟨⟨false, rfl, ⟨fun h => (by cases h), fun h => by have := h.2.1; omega⟩⟩, H0.out.tail⟩
  by_cases hn1 : (65536 : Int) < fcl.length
  · go_enter Try.func8, Try.ntmps8
    go_wp2
    go_ret
    exact ⟨⟨false, rfl, ⟨fun h => (by cases h), fun h => by have := h.2.2.1; omega⟩⟩, H0.out.tail⟩
  obtain ⟨nv, rfl⟩ := Int.eq_ofNat_of_zero_le (show 0 ≤ vars by omega)
  have hv : (nv : Int) ≤ 4096 := by omega
  have hv0' : (0 : Int) ≤ nv := by omega
  have hn : fcl.length ≤ 65536 := by omega
  have hmk := makeBools (2 * nv + 1) (by unfold LIM; omega)
  have hcast : ((2 * nv + 1 : Nat) : Int) = 2 * (nv : Int) + 1 := by omega
  rw [hcast] at hmk
  clear hcast
  go_enter Try.func8, Try.ntmps8
  go_wp2
  go_loopg [3] fcl.length (fun kq v3 wr => ∃ (k : Nat), v3 = .int .i64 k ∧ k ≤ fcl.length ∧ Hid (YLib.Inv w NoM wr [blkP w.heap.size 28 [.int .i64 nv, .slice Ac fcl.length cc, .slice Ao order.length co]]) ∧ Hid (∀ c ∈ fcl.take k, fitC nv c.lits) ∧ Hid (kq + k = fcl.length))
  case atStart => exact ⟨0, rfl, by omega, H0, hid (fun c hc => by simp at hc), hid rfl⟩
  case round =>
    clear H0
    obtain ⟨k, rfl, hk, H, HT, HK⟩ := hrel
    obtain ⟨gO, rfl⟩ : ∃ g, g = gk := ⟨_, rfl⟩
    have hb0 := (H.out.cell (i := 0) rfl 0 rfl).1
    have hb1 := (H.out.cell (i := 0) rfl 1 rfl).1
    have hb2 := (H.out.cell (i := 0) rfl 2 rfl).1
    by_cases hlt : k < fcl.length
    · obtain ⟨c, hcc⟩ : ∃ c, fcl[k]? = some c := ⟨_, List.getElem?_eq_getElem hlt⟩
      have HCC := hid hcc
      obtain ⟨cb, cof, A', c', rfl, hc1, hc2, hle, hr⟩ := cAt (HC.out.chg H.out.chg (fun _ _ => id)) hcc
      have hla := HL.out c (List.mem_of_getElem? hcc)
      have HR := hid hr
      clear hcc hr
      obtain ⟨wO, rfl⟩ : ∃ W, W = wr := ⟨_, rfl⟩
      obtain ⟨nl, hnl⟩ : ∃ n, c.lits.length = n := ⟨_, rfl⟩
      rw [hnl] at hc1 hle hla
      have HN := hid hnl
      clear hnl
      go_wp2
      go_loopg [5] nl (fun kq v5 wr => ∃ (j : Nat), v5 = .int .i64 j ∧ j ≤ nl ∧ Hid (YLib.Inv w NoM wr [blkP w.heap.size 28 [.int .i64 nv, .slice (some ⟨cb, cof, none⟩) fcl.length cc, .slice Ao order.length co]]) ∧ Hid (Gro wO wr) ∧ Hid (fitTo nv c.lits j) ∧ Hid (kq + j = nl))
      case atStart => exact ⟨0, rfl, by omega, H, hid (Gro.refl _), hid (fitTo0 _ _), hid rfl⟩
      case round =>
        clear H hb0 hb1 hb2 hc1 hc2
        obtain ⟨j, rfl, hj, H, HG, HJ, HKJ⟩ := hrel
        have hb0 := (H.out.cell (i := 0) rfl 0 rfl).1
        by_cases hjl : j < nl
        · have hjl1 : (j : Int) < (nl : Int) := by omega
          have hjl0 : (0 : Int) ≤ (j : Int) := by omega
          obtain ⟨x, hx⟩ : ∃ x, c.lits[j]? = some x := ⟨_, List.getElem?_eq_getElem (by have := HN.out; omega)⟩
          have HX := hid hx
          obtain ⟨b, o, rfl, hxc⟩ := intAt (HG.out.row HR.out) hx
          have HGD := hid (good_calls' x hv0' hv)
          have hfail : ¬ (litOk nv x ∧ (0 < j → size (gi c.lits ((j : Int) - 1)) < size x)) → ¬ fitF nv fcl order := fun hn hf => by
            refine hn ?_
            have h1 := hf.2.2.2.1 c (List.mem_of_getElem? HCC.out)
            have h2 := h1 j (by have := HN.out; omega)
            rw [(List.getElem?_eq_some_iff.1 HX.out).2] at h2
            exact h2
          have HFL := hid hfail
          clear hx hfail
          by_cases hlx : litOk nv x
          · rw [decide_eq_true hlx] at HGD
            obtain ⟨s1, s2, s3, s4, _⟩ := size_lit hlx hv
            have HSx := hid (rabs_calls x (by omega) (by omega))
            by_cases hj0 : 0 < j
            · obtain ⟨y, hy⟩ : ∃ y, c.lits[j - 1]? = some y := ⟨_, List.getElem?_eq_getElem (by have := HN.out; omega)⟩
              obtain ⟨hy1, _⟩ := HJ.out (j - 1) (by have := HN.out; omega) (by omega)
              rw [(List.getElem?_eq_some_iff.1 hy).2] at hy1
              obtain ⟨t1, t2, t3, t4, _⟩ := size_lit hy1 hv
              have HSy := hid (rabs_calls y (by omega) (by omega))
              have hg : gi c.lits ((j : Int) - 1) = y := by unfold gi; rw [List.getD_eq_getElem?_getD, show ((j : Int) - 1).toNat = j - 1 by omega, hy]; rfl
              rw [hg] at HFL
              obtain ⟨b2, o2, hA, hyc⟩ := intAt (HG.out.row HR.out) hy
              injection hA with hA
              injection hA with hA1 hA2
              subst hA1 hA2
              obtain ⟨jm, hjm⟩ : ∃ m, j - 1 = m := ⟨_, rfl⟩
              rw [hjm] at hyc
              have hyc' := hyc
              have hj0' : (0 : Int) < j := by omega
              have hi2 : (jm : Int) < nl := by omega
              have hjm2 : (j : Int) - 1 = (jm : Int) := by omega
              have hwj : IntKind.i64.wrap ((j : Int) - 1) = (jm : Int) := (IntWalk.i64_in ((j : Int) - 1) (by omega)).trans hjm2
              clear hjm2
              by_cases hge : size x ≤ size y
              · have hnf := HFL.out (fun h => by have := h.2 hj0; omega)
                clear hy hy1
                go_wp2
                refine wp_region_noPanic ?_
                refine wp_region_held_drew (S := (fun w' => w'.cell? ⟨w.heap.size, 0, none⟩ = some (.int .i64 nv) ∧ w'.cell? ⟨b, o + j, none⟩ = some (.int .i64 x) ∧ w'.cell? ⟨b, o + jm, none⟩ = some (.int .i64 y))) (by kernel_rfl) ?_ (fun hHeld => ?_)
                · exact ⟨hb0, hxc, hyc'⟩
                refine takeE (i := 0) 41 (by rw [List.getElem?_toArray]; rfl) rfl (by kernel_rfl) (by kernel_rfl) (by kernel_rfl) (fun _ _ _ _ h => h) (by rfl) hHeld ?_
                apply Exists.intro
                apply And.intro
                focus (intro w' hSw; obtain ⟨s0, s1, s2⟩ := hSw; go_simp; try with_reducible rfl)
                try simp only [List.setIfInBounds_toArray, List.set_cons_zero, List.set_cons_succ]
                refine takeE (i := 1) 42 (by rw [List.getElem?_toArray]; rfl) rfl (by kernel_rfl) (by kernel_rfl) (by kernel_rfl) (fun _ _ _ _ h => h) (by rfl) hHeld ?_
                apply Exists.intro
                apply And.intro
                focus (intro w' hSw; obtain ⟨s0, s1, s2⟩ := hSw; go_simp; try with_reducible rfl)
                try simp only [List.setIfInBounds_toArray, List.set_cons_zero, List.set_cons_succ]
                refine takeE (i := 2) 43 (by rw [List.getElem?_toArray]; rfl) rfl (by kernel_rfl) (by kernel_rfl) (by kernel_rfl) (fun _ _ _ _ h => h) (by rfl) hHeld ?_
                apply Exists.intro
                apply And.intro
                focus (intro w' hSw; obtain ⟨s0, s1, s2⟩ := hSw; go_simp; try with_reducible rfl)
                try simp only [List.setIfInBounds_toArray, List.set_cons_zero, List.set_cons_succ]
                refine takeE (i := 3) 44 (by rw [List.getElem?_toArray]; rfl) rfl (by kernel_rfl) (by kernel_rfl) (by kernel_rfl) (fun _ _ _ _ h => h) (by rfl) hHeld ?_
                apply Exists.intro
                apply And.intro
                focus (intro w' hSw; obtain ⟨s0, s1, s2⟩ := hSw; go_simp; try with_reducible rfl)
                try simp only [List.setIfInBounds_toArray, List.set_cons_zero, List.set_cons_succ]
                refine takeE (i := 4) 45 (by rw [List.getElem?_toArray]; rfl) rfl (by kernel_rfl) (by kernel_rfl) (by kernel_rfl) (fun _ _ _ _ h => h) (by rfl) hHeld ?_
                apply Exists.intro
                apply And.intro
                focus (intro w' hSw; obtain ⟨s0, s1, s2⟩ := hSw; go_simp; try with_reducible rfl)
                try simp only [List.setIfInBounds_toArray, List.set_cons_zero, List.set_cons_succ]
                refine takeE (i := 5) 46 (by rw [List.getElem?_toArray]; rfl) rfl (by kernel_rfl) (by kernel_rfl) (by kernel_rfl) (fun _ _ _ _ h => h) (by rfl) hHeld ?_
                apply Exists.intro
                apply And.intro
                focus (intro w' hSw; obtain ⟨s0, s1, s2⟩ := hSw; go_simp; try with_reducible rfl)
                try simp only [List.setIfInBounds_toArray, List.set_cons_zero, List.set_cons_succ]
                refine callH (i := 6) (some 47) (by rw [List.getElem?_toArray]; rfl) rfl (by kernel_rfl) (by rfl) fun K hK => ?_
                go_simp
                refine (HGD.out _).mono ?_
                rintro e w' ⟨rfl, rfl⟩
                refine hK (.bool true) _ hHeld ?_
                clear hK K
                try simp only [Act.put, List.setIfInBounds_toArray, List.set_cons_zero, List.set_cons_succ]
                refine takeE (i := 7) 48 (by rw [List.getElem?_toArray]; rfl) rfl (by kernel_rfl) (by kernel_rfl) (by kernel_rfl) (fun _ _ _ _ h => h) (by rfl) hHeld ?_
                apply Exists.intro
                apply And.intro
                focus (intro w' hSw; obtain ⟨s0, s1, s2⟩ := hSw; go_simp; try with_reducible rfl)
                try simp only [List.setIfInBounds_toArray, List.set_cons_zero, List.set_cons_succ]
                refine takeE (i := 8) 49 (by rw [List.getElem?_toArray]; rfl) rfl (by kernel_rfl) (by kernel_rfl) (by kernel_rfl) (fun _ _ _ _ h => h) (by rfl) hHeld ?_
                apply Exists.intro
                apply And.intro
                focus (intro w' hSw; obtain ⟨s0, s1, s2⟩ := hSw; go_simp; try with_reducible rfl)
                try simp only [List.setIfInBounds_toArray, List.set_cons_zero, List.set_cons_succ]
                first
                  | (refine skipH (i := 9) 50 (by rw [List.getElem?_toArray]; rfl) rfl (by kernel_rfl) (by kernel_rfl) (by kernel_rfl) (fun _ _ _ h => h) (by rfl) hHeld ?_)
                  | (refine takeE (i := 9) 50 (by rw [List.getElem?_toArray]; rfl) rfl (by kernel_rfl) (by kernel_rfl) (by kernel_rfl) (fun _ _ _ _ h => h) (by rfl) hHeld ?_
                     apply Exists.intro
                     apply And.intro
                     focus (intro w' hSw; obtain ⟨s0, s1, s2⟩ := hSw; go_simp; try with_reducible rfl))
                try simp only [List.setIfInBounds_toArray, List.set_cons_zero, List.set_cons_succ]
                first
                  | (refine skipH (i := 10) 51 (by rw [List.getElem?_toArray]; rfl) rfl (by kernel_rfl) (by kernel_rfl) (by kernel_rfl) (fun _ _ _ h => h) (by rfl) hHeld ?_)
                  | (refine takeE (i := 10) 51 (by rw [List.getElem?_toArray]; rfl) rfl (by kernel_rfl) (by kernel_rfl) (by kernel_rfl) (fun _ _ _ _ h => h) (by rfl) hHeld ?_
                     apply Exists.intro
                     apply And.intro
                     focus (intro w' hSw; obtain ⟨s0, s1, s2⟩ := hSw; go_simp; try with_reducible rfl))
                try simp only [List.setIfInBounds_toArray, List.set_cons_zero, List.set_cons_succ]
                first
                  | (refine skipH (i := 11) 52 (by rw [List.getElem?_toArray]; rfl) rfl (by kernel_rfl) (by kernel_rfl) (by kernel_rfl) (fun _ _ _ h => h) (by rfl) hHeld ?_)
                  | (refine takeE (i := 11) 52 (by rw [List.getElem?_toArray]; rfl) rfl (by kernel_rfl) (by kernel_rfl) (by kernel_rfl) (fun _ _ _ _ h => h) (by rfl) hHeld ?_
                     apply Exists.intro
                     apply And.intro
                     focus (intro w' hSw; obtain ⟨s0, s1, s2⟩ := hSw; go_simp; try with_reducible rfl))
                try simp only [List.setIfInBounds_toArray, List.set_cons_zero, List.set_cons_succ]
                first
                  | (refine skipH (i := 12) 53 (by rw [List.getElem?_toArray]; rfl) rfl (by kernel_rfl) (by kernel_rfl) (by kernel_rfl) (fun _ _ _ h => h) (by rfl) hHeld ?_)
                  | (refine takeE (i := 12) 53 (by rw [List.getElem?_toArray]; rfl) rfl (by kernel_rfl) (by kernel_rfl) (by kernel_rfl) (fun _ _ _ _ h => h) (by rfl) hHeld ?_
                     apply Exists.intro
                     apply And.intro
                     focus (intro w' hSw; obtain ⟨s0, s1, s2⟩ := hSw; go_simp; try with_reducible rfl))
                try simp only [List.setIfInBounds_toArray, List.set_cons_zero, List.set_cons_succ]
                first
                  | (refine skipH (i := 13) 54 (by rw [List.getElem?_toArray]; rfl) rfl (by kernel_rfl) (by kernel_rfl) (by kernel_rfl) (fun _ _ _ h => h) (by rfl) hHeld ?_)
                  | (refine takeE (i := 13) 54 (by rw [List.getElem?_toArray]; rfl) rfl (by kernel_rfl) (by kernel_rfl) (by kernel_rfl) (fun _ _ _ _ h => h) (by rfl) hHeld ?_
                     apply Exists.intro
                     apply And.intro
                     focus (intro w' hSw; obtain ⟨s0, s1, s2⟩ := hSw; go_simp; try with_reducible rfl))
                try simp only [List.setIfInBounds_toArray, List.set_cons_zero, List.set_cons_succ]
                first
                  | (refine skipH (i := 14) 55 (by rw [List.getElem?_toArray]; rfl) rfl (by kernel_rfl) (by kernel_rfl) (by kernel_rfl) (fun _ _ _ h => h) (by rfl) hHeld ?_)
                  | (refine takeE (i := 14) 55 (by rw [List.getElem?_toArray]; rfl) rfl (by kernel_rfl) (by kernel_rfl) (by kernel_rfl) (fun _ _ _ _ h => h) (by rfl) hHeld ?_
                     apply Exists.intro
                     apply And.intro
                     focus (intro w' hSw; obtain ⟨s0, s1, s2⟩ := hSw; go_simp; try with_reducible rfl))
                try simp only [List.setIfInBounds_toArray, List.set_cons_zero, List.set_cons_succ]
                first
                  | (refine skipH (i := 15) 56 (by rw [List.getElem?_toArray]; rfl) rfl (by kernel_rfl) (by kernel_rfl) (by kernel_rfl) (fun _ _ _ h => h) (by rfl) hHeld ?_)
                  | (refine takeE (i := 15) 56 (by rw [List.getElem?_toArray]; rfl) rfl (by kernel_rfl) (by kernel_rfl) (by kernel_rfl) (fun _ _ _ _ h => h) (by rfl) hHeld ?_
                     apply Exists.intro
                     apply And.intro
                     focus (intro w' hSw; obtain ⟨s0, s1, s2⟩ := hSw; go_simp; try with_reducible rfl))
                try simp only [List.setIfInBounds_toArray, List.set_cons_zero, List.set_cons_succ]
                first
                  | (refine skipH (i := 16) 57 (by rw [List.getElem?_toArray]; rfl) rfl (by kernel_rfl) (by kernel_rfl) (by kernel_rfl) (fun _ _ _ h => h) (by rfl) hHeld ?_)
                  | (refine takeE (i := 16) 57 (by rw [List.getElem?_toArray]; rfl) rfl (by kernel_rfl) (by kernel_rfl) (by kernel_rfl) (fun _ _ _ _ h => h) (by rfl) hHeld ?_
                     apply Exists.intro
                     apply And.intro
                     focus (intro w' hSw; obtain ⟨s0, s1, s2⟩ := hSw; go_simp; try with_reducible rfl))
                try simp only [List.setIfInBounds_toArray, List.set_cons_zero, List.set_cons_succ]
                first
                  | (refine skipH (i := 18) 59 (by rw [List.getElem?_toArray]; rfl) rfl (by kernel_rfl) (by kernel_rfl) (by kernel_rfl) (fun _ _ _ h => h) (by rfl) hHeld ?_)
                  | (refine takeE (i := 18) 59 (by rw [List.getElem?_toArray]; rfl) rfl (by kernel_rfl) (by kernel_rfl) (by kernel_rfl) (fun _ _ _ _ h => h) (by rfl) hHeld ?_
                     apply Exists.intro
                     apply And.intro
                     focus (intro w' hSw; obtain ⟨s0, s1, s2⟩ := hSw; go_simp; try with_reducible rfl))
                try simp only [List.setIfInBounds_toArray, List.set_cons_zero, List.set_cons_succ]
                first
                  | (refine skipH (i := 19) 60 (by rw [List.getElem?_toArray]; rfl) rfl (by kernel_rfl) (by kernel_rfl) (by kernel_rfl) (fun _ _ _ h => h) (by rfl) hHeld ?_)
                  | (refine takeE (i := 19) 60 (by rw [List.getElem?_toArray]; rfl) rfl (by kernel_rfl) (by kernel_rfl) (by kernel_rfl) (fun _ _ _ _ h => h) (by rfl) hHeld ?_
                     apply Exists.intro
                     apply And.intro
                     focus (intro w' hSw; obtain ⟨s0, s1, s2⟩ := hSw; go_simp; try with_reducible rfl))
                try simp only [List.setIfInBounds_toArray, List.set_cons_zero, List.set_cons_succ]
                first
                  | (refine skipH (i := 20) 61 (by rw [List.getElem?_toArray]; rfl) rfl (by kernel_rfl) (by kernel_rfl) (by kernel_rfl) (fun _ _ _ h => h) (by rfl) hHeld ?_)
                  | (refine takeE (i := 20) 61 (by rw [List.getElem?_toArray]; rfl) rfl (by kernel_rfl) (by kernel_rfl) (by kernel_rfl) (fun _ _ _ _ h => h) (by rfl) hHeld ?_
                     apply Exists.intro
                     apply And.intro
                     focus (intro w' hSw; obtain ⟨s0, s1, s2⟩ := hSw; go_simp; try with_reducible rfl))
                try simp only [List.setIfInBounds_toArray, List.set_cons_zero, List.set_cons_succ]
                first
                  | (refine skipH (i := 21) 62 (by rw [List.getElem?_toArray]; rfl) rfl (by kernel_rfl) (by kernel_rfl) (by kernel_rfl) (fun _ _ _ h => h) (by rfl) hHeld ?_)
                  | (refine takeE (i := 21) 62 (by rw [List.getElem?_toArray]; rfl) rfl (by kernel_rfl) (by kernel_rfl) (by kernel_rfl) (fun _ _ _ _ h => h) (by rfl) hHeld ?_
                     apply Exists.intro
                     apply And.intro
                     focus (intro w' hSw; obtain ⟨s0, s1, s2⟩ := hSw; go_simp; try with_reducible rfl))
                try simp only [List.setIfInBounds_toArray, List.set_cons_zero, List.set_cons_succ]
                first
                  | (refine skipH (i := 17) 58 (by rw [List.getElem?_toArray]; rfl) rfl (by kernel_rfl) (by kernel_rfl) (by kernel_rfl) (fun _ _ _ h => h) (by rfl) hHeld ?_)
                  | (refine callH (i := 17) (some 58) (by rw [List.getElem?_toArray]; rfl) rfl (by kernel_rfl) (by rfl) fun K hK => ?_
                     go_simp
                     refine (HSy.out _).mono ?_
                     rintro e w' ⟨rfl, rfl⟩
                     refine hK (.int .i64 (size y)) _ hHeld ?_
                     clear hK K)
                try simp only [Act.put, List.setIfInBounds_toArray, List.set_cons_zero, List.set_cons_succ]
                first
                  | (refine skipH (i := 22) 63 (by rw [List.getElem?_toArray]; rfl) rfl (by kernel_rfl) (by kernel_rfl) (by kernel_rfl) (fun _ _ _ h => h) (by rfl) hHeld ?_)
                  | (refine callH (i := 22) (some 63) (by rw [List.getElem?_toArray]; rfl) rfl (by kernel_rfl) (by rfl) fun K hK => ?_
                     go_simp
                     refine (HSx.out _).mono ?_
                     rintro e w' ⟨rfl, rfl⟩
                     refine hK (.int .i64 (size x)) _ hHeld ?_
                     clear hK K)
                try simp only [Act.put, List.setIfInBounds_toArray, List.set_cons_zero, List.set_cons_succ]
                first
                  | (refine skipH (i := 23) 64 (by rw [List.getElem?_toArray]; rfl) rfl (by kernel_rfl) (by kernel_rfl) (by kernel_rfl) (fun _ _ _ h => h) (by rfl) hHeld ?_)
                  | (refine takeE (i := 23) 64 (by rw [List.getElem?_toArray]; rfl) rfl (by kernel_rfl) (by kernel_rfl) (by kernel_rfl) (fun _ _ _ _ h => h) (by rfl) hHeld ?_
                     apply Exists.intro
                     apply And.intro
                     focus (intro w' hSw; obtain ⟨s0, s1, s2⟩ := hSw; go_simp; try with_reducible rfl))
                try simp only [List.setIfInBounds_toArray, List.set_cons_zero, List.set_cons_succ]
                first
                  | (refine skipH (i := 24) 65 (by rw [List.getElem?_toArray]; rfl) rfl (by kernel_rfl) (by kernel_rfl) (by kernel_rfl) (fun _ _ _ h => h) (by rfl) hHeld ?_)
                  | (refine takeE (i := 24) 65 (by rw [List.getElem?_toArray]; rfl) rfl (by kernel_rfl) (by kernel_rfl) (by kernel_rfl) (fun _ _ _ _ h => h) (by rfl) hHeld ?_
                     apply Exists.intro
                     apply And.intro
                     focus (intro w' hSw; obtain ⟨s0, s1, s2⟩ := hSw; go_simp; try with_reducible rfl))
                try simp only [List.setIfInBounds_toArray, List.set_cons_zero, List.set_cons_succ]
                refine takeE (i := 25) 66 (by rw [List.getElem?_toArray]; rfl) rfl (by kernel_rfl) (by kernel_rfl) (by kernel_rfl) (fun _ _ _ _ h => h) (by rfl) hHeld ?_
                apply Exists.intro
                apply And.intro
                focus (intro w' hSw; obtain ⟨s0, s1, s2⟩ := hSw; go_simp; try with_reducible rfl)
                try simp only [List.setIfInBounds_toArray, List.set_cons_zero, List.set_cons_succ]
                refine wpAnyH_done (by kernel_rfl) ?_ _
                refine NoPanic.normal ?_
                go_wp2
                go_ret
                exact ⟨.no hnf rfl, H.out.tail.drew⟩
              · have hlt2 : size y < size x := by omega
                have HJ1 := hid (fitTo1 HJ.out HX.out hlx (fun _ => by rw [hg]; exact hlt2))
                clear hy hy1 hg
                go_wp2
                refine wp_region_noPanic ?_
                refine wp_region_held_drew (S := (fun w' => w'.cell? ⟨w.heap.size, 0, none⟩ = some (.int .i64 nv) ∧ w'.cell? ⟨b, o + j, none⟩ = some (.int .i64 x) ∧ w'.cell? ⟨b, o + jm, none⟩ = some (.int .i64 y))) (by kernel_rfl) ?_ (fun hHeld => ?_)
                · exact ⟨hb0, hxc, hyc'⟩
                refine takeE (i := 0) 41 (by rw [List.getElem?_toArray]; rfl) rfl (by kernel_rfl) (by kernel_rfl) (by kernel_rfl) (fun _ _ _ _ h => h) (by rfl) hHeld ?_
                apply Exists.intro
                apply And.intro
                focus (intro w' hSw; obtain ⟨s0, s1, s2⟩ := hSw; go_simp; try with_reducible rfl)
                try simp only [List.setIfInBounds_toArray, List.set_cons_zero, List.set_cons_succ]
                refine takeE (i := 1) 42 (by rw [List.getElem?_toArray]; rfl) rfl (by kernel_rfl) (by kernel_rfl) (by kernel_rfl) (fun _ _ _ _ h => h) (by rfl) hHeld ?_
                apply Exists.intro
                apply And.intro
                focus (intro w' hSw; obtain ⟨s0, s1, s2⟩ := hSw; go_simp; try with_reducible rfl)
                try simp only [List.setIfInBounds_toArray, List.set_cons_zero, List.set_cons_succ]
                refine takeE (i := 2) 43 (by rw [List.getElem?_toArray]; rfl) rfl (by kernel_rfl) (by kernel_rfl) (by kernel_rfl) (fun _ _ _ _ h => h) (by rfl) hHeld ?_
                apply Exists.intro
                apply And.intro
                focus (intro w' hSw; obtain ⟨s0, s1, s2⟩ := hSw; go_simp; try with_reducible rfl)
                try simp only [List.setIfInBounds_toArray, List.set_cons_zero, List.set_cons_succ]
                refine takeE (i := 3) 44 (by rw [List.getElem?_toArray]; rfl) rfl (by kernel_rfl) (by kernel_rfl) (by kernel_rfl) (fun _ _ _ _ h => h) (by rfl) hHeld ?_
                apply Exists.intro
                apply And.intro
                focus (intro w' hSw; obtain ⟨s0, s1, s2⟩ := hSw; go_simp; try with_reducible rfl)
                try simp only [List.setIfInBounds_toArray, List.set_cons_zero, List.set_cons_succ]
                refine takeE (i := 4) 45 (by rw [List.getElem?_toArray]; rfl) rfl (by kernel_rfl) (by kernel_rfl) (by kernel_rfl) (fun _ _ _ _ h => h) (by rfl) hHeld ?_
                apply Exists.intro
                apply And.intro
                focus (intro w' hSw; obtain ⟨s0, s1, s2⟩ := hSw; go_simp; try with_reducible rfl)
                try simp only [List.setIfInBounds_toArray, List.set_cons_zero, List.set_cons_succ]
                refine takeE (i := 5) 46 (by rw [List.getElem?_toArray]; rfl) rfl (by kernel_rfl) (by kernel_rfl) (by kernel_rfl) (fun _ _ _ _ h => h) (by rfl) hHeld ?_
                apply Exists.intro
                apply And.intro
                focus (intro w' hSw; obtain ⟨s0, s1, s2⟩ := hSw; go_simp; try with_reducible rfl)
                try simp only [List.setIfInBounds_toArray, List.set_cons_zero, List.set_cons_succ]
                refine callH (i := 6) (some 47) (by rw [List.getElem?_toArray]; rfl) rfl (by kernel_rfl) (by rfl) fun K hK => ?_
                go_simp
                refine (HGD.out _).mono ?_
                rintro e w' ⟨rfl, rfl⟩
                refine hK (.bool true) _ hHeld ?_
                clear hK K
                try simp only [Act.put, List.setIfInBounds_toArray, List.set_cons_zero, List.set_cons_succ]
                refine takeE (i := 7) 48 (by rw [List.getElem?_toArray]; rfl) rfl (by kernel_rfl) (by kernel_rfl) (by kernel_rfl) (fun _ _ _ _ h => h) (by rfl) hHeld ?_
                apply Exists.intro
                apply And.intro
                focus (intro w' hSw; obtain ⟨s0, s1, s2⟩ := hSw; go_simp; try with_reducible rfl)
                try simp only [List.setIfInBounds_toArray, List.set_cons_zero, List.set_cons_succ]
                refine takeE (i := 8) 49 (by rw [List.getElem?_toArray]; rfl) rfl (by kernel_rfl) (by kernel_rfl) (by kernel_rfl) (fun _ _ _ _ h => h) (by rfl) hHeld ?_
                apply Exists.intro
                apply And.intro
                focus (intro w' hSw; obtain ⟨s0, s1, s2⟩ := hSw; go_simp; try with_reducible rfl)
                try simp only [List.setIfInBounds_toArray, List.set_cons_zero, List.set_cons_succ]
                first
                  | (refine skipH (i := 9) 50 (by rw [List.getElem?_toArray]; rfl) rfl (by kernel_rfl) (by kernel_rfl) (by kernel_rfl) (fun _ _ _ h => h) (by rfl) hHeld ?_)
                  | (refine takeE (i := 9) 50 (by rw [List.getElem?_toArray]; rfl) rfl (by kernel_rfl) (by kernel_rfl) (by kernel_rfl) (fun _ _ _ _ h => h) (by rfl) hHeld ?_
                     apply Exists.intro
                     apply And.intro
                     focus (intro w' hSw; obtain ⟨s0, s1, s2⟩ := hSw; go_simp; try with_reducible rfl))
                try simp only [List.setIfInBounds_toArray, List.set_cons_zero, List.set_cons_succ]
                first
                  | (refine skipH (i := 10) 51 (by rw [List.getElem?_toArray]; rfl) rfl (by kernel_rfl) (by kernel_rfl) (by kernel_rfl) (fun _ _ _ h => h) (by rfl) hHeld ?_)
                  | (refine takeE (i := 10) 51 (by rw [List.getElem?_toArray]; rfl) rfl (by kernel_rfl) (by kernel_rfl) (by kernel_rfl) (fun _ _ _ _ h => h) (by rfl) hHeld ?_
                     apply Exists.intro
                     apply And.intro
                     focus (intro w' hSw; obtain ⟨s0, s1, s2⟩ := hSw; go_simp; try with_reducible rfl))
                try simp only [List.setIfInBounds_toArray, List.set_cons_zero, List.set_cons_succ]
                first
                  | (refine skipH (i := 11) 52 (by rw [List.getElem?_toArray]; rfl) rfl (by kernel_rfl) (by kernel_rfl) (by kernel_rfl) (fun _ _ _ h => h) (by rfl) hHeld ?_)
                  | (refine takeE (i := 11) 52 (by rw [List.getElem?_toArray]; rfl) rfl (by kernel_rfl) (by kernel_rfl) (by kernel_rfl) (fun _ _ _ _ h => h) (by rfl) hHeld ?_
                     apply Exists.intro
                     apply And.intro
                     focus (intro w' hSw; obtain ⟨s0, s1, s2⟩ := hSw; go_simp; try with_reducible rfl))
                try simp only [List.setIfInBounds_toArray, List.set_cons_zero, List.set_cons_succ]
                first
                  | (refine skipH (i := 12) 53 (by rw [List.getElem?_toArray]; rfl) rfl (by kernel_rfl) (by kernel_rfl) (by kernel_rfl) (fun _ _ _ h => h) (by rfl) hHeld ?_)
                  | (refine takeE (i := 12) 53 (by rw [List.getElem?_toArray]; rfl) rfl (by kernel_rfl) (by kernel_rfl) (by kernel_rfl) (fun _ _ _ _ h => h) (by rfl) hHeld ?_
                     apply Exists.intro
                     apply And.intro
                     focus (intro w' hSw; obtain ⟨s0, s1, s2⟩ := hSw; go_simp; try with_reducible rfl))
                try simp only [List.setIfInBounds_toArray, List.set_cons_zero, List.set_cons_succ]
                first
                  | (refine skipH (i := 13) 54 (by rw [List.getElem?_toArray]; rfl) rfl (by kernel_rfl) (by kernel_rfl) (by kernel_rfl) (fun _ _ _ h => h) (by rfl) hHeld ?_)
                  | (refine takeE (i := 13) 54 (by rw [List.getElem?_toArray]; rfl) rfl (by kernel_rfl) (by kernel_rfl) (by kernel_rfl) (fun _ _ _ _ h => h) (by rfl) hHeld ?_
                     apply Exists.intro
                     apply And.intro
                     focus (intro w' hSw; obtain ⟨s0, s1, s2⟩ := hSw; go_simp; try with_reducible rfl))
                try simp only [List.setIfInBounds_toArray, List.set_cons_zero, List.set_cons_succ]
                first
                  | (refine skipH (i := 14) 55 (by rw [List.getElem?_toArray]; rfl) rfl (by kernel_rfl) (by kernel_rfl) (by kernel_rfl) (fun _ _ _ h => h) (by rfl) hHeld ?_)
                  | (refine takeE (i := 14) 55 (by rw [List.getElem?_toArray]; rfl) rfl (by kernel_rfl) (by kernel_rfl) (by kernel_rfl) (fun _ _ _ _ h => h) (by rfl) hHeld ?_
                     apply Exists.intro
                     apply And.intro
                     focus (intro w' hSw; obtain ⟨s0, s1, s2⟩ := hSw; go_simp; try with_reducible rfl))
                try simp only [List.setIfInBounds_toArray, List.set_cons_zero, List.set_cons_succ]
                first
                  | (refine skipH (i := 15) 56 (by rw [List.getElem?_toArray]; rfl) rfl (by kernel_rfl) (by kernel_rfl) (by kernel_rfl) (fun _ _ _ h => h) (by rfl) hHeld ?_)
                  | (refine takeE (i := 15) 56 (by rw [List.getElem?_toArray]; rfl) rfl (by kernel_rfl) (by kernel_rfl) (by kernel_rfl) (fun _ _ _ _ h => h) (by rfl) hHeld ?_
                     apply Exists.intro
                     apply And.intro
                     focus (intro w' hSw; obtain ⟨s0, s1, s2⟩ := hSw; go_simp; try with_reducible rfl))
                try simp only [List.setIfInBounds_toArray, List.set_cons_zero, List.set_cons_succ]
                first
                  | (refine skipH (i := 16) 57 (by rw [List.getElem?_toArray]; rfl) rfl (by kernel_rfl) (by kernel_rfl) (by kernel_rfl) (fun _ _ _ h => h) (by rfl) hHeld ?_)
                  | (refine takeE (i := 16) 57 (by rw [List.getElem?_toArray]; rfl) rfl (by kernel_rfl) (by kernel_rfl) (by kernel_rfl) (fun _ _ _ _ h => h) (by rfl) hHeld ?_
                     apply Exists.intro
                     apply And.intro
                     focus (intro w' hSw; obtain ⟨s0, s1, s2⟩ := hSw; go_simp; try with_reducible rfl))
                try simp only [List.setIfInBounds_toArray, List.set_cons_zero, List.set_cons_succ]
                first
                  | (refine skipH (i := 18) 59 (by rw [List.getElem?_toArray]; rfl) rfl (by kernel_rfl) (by kernel_rfl) (by kernel_rfl) (fun _ _ _ h => h) (by rfl) hHeld ?_)
                  | (refine takeE (i := 18) 59 (by rw [List.getElem?_toArray]; rfl) rfl (by kernel_rfl) (by kernel_rfl) (by kernel_rfl) (fun _ _ _ _ h => h) (by rfl) hHeld ?_
                     apply Exists.intro
                     apply And.intro
                     focus (intro w' hSw; obtain ⟨s0, s1, s2⟩ := hSw; go_simp; try with_reducible rfl))
                try simp only [List.setIfInBounds_toArray, List.set_cons_zero, List.set_cons_succ]
                first
                  | (refine skipH (i := 19) 60 (by rw [List.getElem?_toArray]; rfl) rfl (by kernel_rfl) (by kernel_rfl) (by kernel_rfl) (fun _ _ _ h => h) (by rfl) hHeld ?_)
                  | (refine takeE (i := 19) 60 (by rw [List.getElem?_toArray]; rfl) rfl (by kernel_rfl) (by kernel_rfl) (by kernel_rfl) (fun _ _ _ _ h => h) (by rfl) hHeld ?_
                     apply Exists.intro
                     apply And.intro
                     focus (intro w' hSw; obtain ⟨s0, s1, s2⟩ := hSw; go_simp; try with_reducible rfl))
                try simp only [List.setIfInBounds_toArray, List.set_cons_zero, List.set_cons_succ]
                first
                  | (refine skipH (i := 20) 61 (by rw [List.getElem?_toArray]; rfl) rfl (by kernel_rfl) (by kernel_rfl) (by kernel_rfl) (fun _ _ _ h => h) (by rfl) hHeld ?_)
                  | (refine takeE (i := 20) 61 (by rw [List.getElem?_toArray]; rfl) rfl (by kernel_rfl) (by kernel_rfl) (by kernel_rfl) (fun _ _ _ _ h => h) (by rfl) hHeld ?_
                     apply Exists.intro
                     apply And.intro
                     focus (intro w' hSw; obtain ⟨s0, s1, s2⟩ := hSw; go_simp; try with_reducible rfl))
                try simp only [List.setIfInBounds_toArray, List.set_cons_zero, List.set_cons_succ]
                first
                  | (refine skipH (i := 21) 62 (by rw [List.getElem?_toArray]; rfl) rfl (by kernel_rfl) (by kernel_rfl) (by kernel_rfl) (fun _ _ _ h => h) (by rfl) hHeld ?_)
                  | (refine takeE (i := 21) 62 (by rw [List.getElem?_toArray]; rfl) rfl (by kernel_rfl) (by kernel_rfl) (by kernel_rfl) (fun _ _ _ _ h => h) (by rfl) hHeld ?_
                     apply Exists.intro
                     apply And.intro
                     focus (intro w' hSw; obtain ⟨s0, s1, s2⟩ := hSw; go_simp; try with_reducible rfl))
                try simp only [List.setIfInBounds_toArray, List.set_cons_zero, List.set_cons_succ]
                first
                  | (refine skipH (i := 17) 58 (by rw [List.getElem?_toArray]; rfl) rfl (by kernel_rfl) (by kernel_rfl) (by kernel_rfl) (fun _ _ _ h => h) (by rfl) hHeld ?_)
                  | (refine callH (i := 17) (some 58) (by rw [List.getElem?_toArray]; rfl) rfl (by kernel_rfl) (by rfl) fun K hK => ?_
                     go_simp
                     refine (HSy.out _).mono ?_
                     rintro e w' ⟨rfl, rfl⟩
                     refine hK (.int .i64 (size y)) _ hHeld ?_
                     clear hK K)
                try simp only [Act.put, List.setIfInBounds_toArray, List.set_cons_zero, List.set_cons_succ]
                first
                  | (refine skipH (i := 22) 63 (by rw [List.getElem?_toArray]; rfl) rfl (by kernel_rfl) (by kernel_rfl) (by kernel_rfl) (fun _ _ _ h => h) (by rfl) hHeld ?_)
                  | (refine callH (i := 22) (some 63) (by rw [List.getElem?_toArray]; rfl) rfl (by kernel_rfl) (by rfl) fun K hK => ?_
                     go_simp
                     refine (HSx.out _).mono ?_
                     rintro e w' ⟨rfl, rfl⟩
                     refine hK (.int .i64 (size x)) _ hHeld ?_
                     clear hK K)
                try simp only [Act.put, List.setIfInBounds_toArray, List.set_cons_zero, List.set_cons_succ]
                first
                  | (refine skipH (i := 23) 64 (by rw [List.getElem?_toArray]; rfl) rfl (by kernel_rfl) (by kernel_rfl) (by kernel_rfl) (fun _ _ _ h => h) (by rfl) hHeld ?_)
                  | (refine takeE (i := 23) 64 (by rw [List.getElem?_toArray]; rfl) rfl (by kernel_rfl) (by kernel_rfl) (by kernel_rfl) (fun _ _ _ _ h => h) (by rfl) hHeld ?_
                     apply Exists.intro
                     apply And.intro
                     focus (intro w' hSw; obtain ⟨s0, s1, s2⟩ := hSw; go_simp; try with_reducible rfl))
                try simp only [List.setIfInBounds_toArray, List.set_cons_zero, List.set_cons_succ]
                first
                  | (refine skipH (i := 24) 65 (by rw [List.getElem?_toArray]; rfl) rfl (by kernel_rfl) (by kernel_rfl) (by kernel_rfl) (fun _ _ _ h => h) (by rfl) hHeld ?_)
                  | (refine takeE (i := 24) 65 (by rw [List.getElem?_toArray]; rfl) rfl (by kernel_rfl) (by kernel_rfl) (by kernel_rfl) (fun _ _ _ _ h => h) (by rfl) hHeld ?_
                     apply Exists.intro
                     apply And.intro
                     focus (intro w' hSw; obtain ⟨s0, s1, s2⟩ := hSw; go_simp; try with_reducible rfl))
                try simp only [List.setIfInBounds_toArray, List.set_cons_zero, List.set_cons_succ]
                refine takeE (i := 25) 66 (by rw [List.getElem?_toArray]; rfl) rfl (by kernel_rfl) (by kernel_rfl) (by kernel_rfl) (fun _ _ _ _ h => h) (by rfl) hHeld ?_
                apply Exists.intro
                apply And.intro
                focus (intro w' hSw; obtain ⟨s0, s1, s2⟩ := hSw; go_simp; try with_reducible rfl)
                try simp only [List.setIfInBounds_toArray, List.set_cons_zero, List.set_cons_succ]
                refine wpAnyH_done (by kernel_rfl) ?_ _
                refine NoPanic.normal ?_
                go_wp2
                go_roundg (gk - 1)
                case measure => have := HKJ.out; omega
                case rel => exact ⟨j + 1, by go_num, by omega, H.out.drew, HG.out.drew, HJ1, hid (by have := HKJ.out; omega)⟩
            · obtain rfl : j = 0 := by omega
              rw [Nat.add_zero] at hxc
              have HJ1 := hid (fitTo1 HJ.out HX.out hlx (fun h => absurd h (Nat.lt_irrefl 0)))
              go_wp2
              refine wp_region_noPanic ?_
              refine wp_region_held_drew (S := (fun w' => w'.cell? ⟨w.heap.size, 0, none⟩ = some (.int .i64 nv) ∧ w'.cell? ⟨b, o, none⟩ = some (.int .i64 x))) (by kernel_rfl) ?_ (fun hHeld => ?_)
              · exact ⟨hb0, hxc⟩
              refine takeE (i := 0) 41 (by rw [List.getElem?_toArray]; rfl) rfl (by kernel_rfl) (by kernel_rfl) (by kernel_rfl) (fun _ _ _ _ h => h) (by rfl) hHeld ?_
              apply Exists.intro
              apply And.intro
              focus (intro w' hSw; obtain ⟨s0, s1⟩ := hSw; go_simp; try with_reducible rfl)
              try simp only [List.setIfInBounds_toArray, List.set_cons_zero, List.set_cons_succ]
              refine takeE (i := 1) 42 (by rw [List.getElem?_toArray]; rfl) rfl (by kernel_rfl) (by kernel_rfl) (by kernel_rfl) (fun _ _ _ _ h => h) (by rfl) hHeld ?_
              apply Exists.intro
              apply And.intro
              focus (intro w' hSw; obtain ⟨s0, s1⟩ := hSw; go_simp; try with_reducible rfl)
              try simp only [List.setIfInBounds_toArray, List.set_cons_zero, List.set_cons_succ]
              refine takeE (i := 2) 43 (by rw [List.getElem?_toArray]; rfl) rfl (by kernel_rfl) (by kernel_rfl) (by kernel_rfl) (fun _ _ _ _ h => h) (by rfl) hHeld ?_
              apply Exists.intro
              apply And.intro
              focus (intro w' hSw; obtain ⟨s0, s1⟩ := hSw; go_simp; try with_reducible rfl)
              try simp only [List.setIfInBounds_toArray, List.set_cons_zero, List.set_cons_succ]
              refine takeE (i := 3) 44 (by rw [List.getElem?_toArray]; rfl) rfl (by kernel_rfl) (by kernel_rfl) (by kernel_rfl) (fun _ _ _ _ h => h) (by rfl) hHeld ?_
              apply Exists.intro
              apply And.intro
              focus (intro w' hSw; obtain ⟨s0, s1⟩ := hSw; go_simp; try with_reducible rfl)
              try simp only [List.setIfInBounds_toArray, List.set_cons_zero, List.set_cons_succ]
              refine takeE (i := 4) 45 (by rw [List.getElem?_toArray]; rfl) rfl (by kernel_rfl) (by kernel_rfl) (by kernel_rfl) (fun _ _ _ _ h => h) (by rfl) hHeld ?_
              apply Exists.intro
              apply And.intro
              focus (intro w' hSw; obtain ⟨s0, s1⟩ := hSw; go_simp; try with_reducible rfl)
              try simp only [List.setIfInBounds_toArray, List.set_cons_zero, List.set_cons_succ]
              refine takeE (i := 5) 46 (by rw [List.getElem?_toArray]; rfl) rfl (by kernel_rfl) (by kernel_rfl) (by kernel_rfl) (fun _ _ _ _ h => h) (by rfl) hHeld ?_
              apply Exists.intro
              apply And.intro
              focus (intro w' hSw; obtain ⟨s0, s1⟩ := hSw; go_simp; try with_reducible rfl)
              try simp only [List.setIfInBounds_toArray, List.set_cons_zero, List.set_cons_succ]
              refine callH (i := 6) (some 47) (by rw [List.getElem?_toArray]; rfl) rfl (by kernel_rfl) (by rfl) fun K hK => ?_
              go_simp
              refine (HGD.out _).mono ?_
              rintro e w' ⟨rfl, rfl⟩
              refine hK (.bool true) _ hHeld ?_
              clear hK K
              try simp only [Act.put, List.setIfInBounds_toArray, List.set_cons_zero, List.set_cons_succ]
              refine takeE (i := 7) 48 (by rw [List.getElem?_toArray]; rfl) rfl (by kernel_rfl) (by kernel_rfl) (by kernel_rfl) (fun _ _ _ _ h => h) (by rfl) hHeld ?_
              apply Exists.intro
              apply And.intro
              focus (intro w' hSw; obtain ⟨s0, s1⟩ := hSw; go_simp; try with_reducible rfl)
              try simp only [List.setIfInBounds_toArray, List.set_cons_zero, List.set_cons_succ]
              refine takeE (i := 8) 49 (by rw [List.getElem?_toArray]; rfl) rfl (by kernel_rfl) (by kernel_rfl) (by kernel_rfl) (fun _ _ _ _ h => h) (by rfl) hHeld ?_
              apply Exists.intro
              apply And.intro
              focus (intro w' hSw; obtain ⟨s0, s1⟩ := hSw; go_simp; try with_reducible rfl)
              try simp only [List.setIfInBounds_toArray, List.set_cons_zero, List.set_cons_succ]
              first
                | (refine skipH (i := 9) 50 (by rw [List.getElem?_toArray]; rfl) rfl (by kernel_rfl) (by kernel_rfl) (by kernel_rfl) (fun _ _ _ h => h) (by rfl) hHeld ?_)
                | (refine takeE (i := 9) 50 (by rw [List.getElem?_toArray]; rfl) rfl (by kernel_rfl) (by kernel_rfl) (by kernel_rfl) (fun _ _ _ _ h => h) (by rfl) hHeld ?_
                   apply Exists.intro
                   apply And.intro
                   focus (intro w' hSw; obtain ⟨s0, s1⟩ := hSw; go_simp; try with_reducible rfl))
              try simp only [List.setIfInBounds_toArray, List.set_cons_zero, List.set_cons_succ]
              first
                | (refine skipH (i := 10) 51 (by rw [List.getElem?_toArray]; rfl) rfl (by kernel_rfl) (by kernel_rfl) (by kernel_rfl) (fun _ _ _ h => h) (by rfl) hHeld ?_)
                | (refine takeE (i := 10) 51 (by rw [List.getElem?_toArray]; rfl) rfl (by kernel_rfl) (by kernel_rfl) (by kernel_rfl) (fun _ _ _ _ h => h) (by rfl) hHeld ?_
                   apply Exists.intro
                   apply And.intro
                   focus (intro w' hSw; obtain ⟨s0, s1⟩ := hSw; go_simp; try with_reducible rfl))
              try simp only [List.setIfInBounds_toArray, List.set_cons_zero, List.set_cons_succ]
              first
                | (refine skipH (i := 11) 52 (by rw [List.getElem?_toArray]; rfl) rfl (by kernel_rfl) (by kernel_rfl) (by kernel_rfl) (fun _ _ _ h => h) (by rfl) hHeld ?_)
                | (refine takeE (i := 11) 52 (by rw [List.getElem?_toArray]; rfl) rfl (by kernel_rfl) (by kernel_rfl) (by kernel_rfl) (fun _ _ _ _ h => h) (by rfl) hHeld ?_
                   apply Exists.intro
                   apply And.intro
                   focus (intro w' hSw; obtain ⟨s0, s1⟩ := hSw; go_simp; try with_reducible rfl))
              try simp only [List.setIfInBounds_toArray, List.set_cons_zero, List.set_cons_succ]
              first
                | (refine skipH (i := 12) 53 (by rw [List.getElem?_toArray]; rfl) rfl (by kernel_rfl) (by kernel_rfl) (by kernel_rfl) (fun _ _ _ h => h) (by rfl) hHeld ?_)
                | (refine takeE (i := 12) 53 (by rw [List.getElem?_toArray]; rfl) rfl (by kernel_rfl) (by kernel_rfl) (by kernel_rfl) (fun _ _ _ _ h => h) (by rfl) hHeld ?_
                   apply Exists.intro
                   apply And.intro
                   focus (intro w' hSw; obtain ⟨s0, s1⟩ := hSw; go_simp; try with_reducible rfl))
              try simp only [List.setIfInBounds_toArray, List.set_cons_zero, List.set_cons_succ]
              first
                | (refine skipH (i := 13) 54 (by rw [List.getElem?_toArray]; rfl) rfl (by kernel_rfl) (by kernel_rfl) (by kernel_rfl) (fun _ _ _ h => h) (by rfl) hHeld ?_)
                | (refine takeE (i := 13) 54 (by rw [List.getElem?_toArray]; rfl) rfl (by kernel_rfl) (by kernel_rfl) (by kernel_rfl) (fun _ _ _ _ h => h) (by rfl) hHeld ?_
                   apply Exists.intro
                   apply And.intro
                   focus (intro w' hSw; obtain ⟨s0, s1⟩ := hSw; go_simp; try with_reducible rfl))
              try simp only [List.setIfInBounds_toArray, List.set_cons_zero, List.set_cons_succ]
              first
                | (refine skipH (i := 14) 55 (by rw [List.getElem?_toArray]; rfl) rfl (by kernel_rfl) (by kernel_rfl) (by kernel_rfl) (fun _ _ _ h => h) (by rfl) hHeld ?_)
                | (refine takeE (i := 14) 55 (by rw [List.getElem?_toArray]; rfl) rfl (by kernel_rfl) (by kernel_rfl) (by kernel_rfl) (fun _ _ _ _ h => h) (by rfl) hHeld ?_
                   apply Exists.intro
                   apply And.intro
                   focus (intro w' hSw; obtain ⟨s0, s1⟩ := hSw; go_simp; try with_reducible rfl))
              try simp only [List.setIfInBounds_toArray, List.set_cons_zero, List.set_cons_succ]
              first
                | (refine skipH (i := 15) 56 (by rw [List.getElem?_toArray]; rfl) rfl (by kernel_rfl) (by kernel_rfl) (by kernel_rfl) (fun _ _ _ h => h) (by rfl) hHeld ?_)
                | (refine takeE (i := 15) 56 (by rw [List.getElem?_toArray]; rfl) rfl (by kernel_rfl) (by kernel_rfl) (by kernel_rfl) (fun _ _ _ _ h => h) (by rfl) hHeld ?_
                   apply Exists.intro
                   apply And.intro
                   focus (intro w' hSw; obtain ⟨s0, s1⟩ := hSw; go_simp; try with_reducible rfl))
              try simp only [List.setIfInBounds_toArray, List.set_cons_zero, List.set_cons_succ]
              first
                | (refine skipH (i := 16) 57 (by rw [List.getElem?_toArray]; rfl) rfl (by kernel_rfl) (by kernel_rfl) (by kernel_rfl) (fun _ _ _ h => h) (by rfl) hHeld ?_)
                | (refine takeE (i := 16) 57 (by rw [List.getElem?_toArray]; rfl) rfl (by kernel_rfl) (by kernel_rfl) (by kernel_rfl) (fun _ _ _ _ h => h) (by rfl) hHeld ?_
                   apply Exists.intro
                   apply And.intro
                   focus (intro w' hSw; obtain ⟨s0, s1⟩ := hSw; go_simp; try with_reducible rfl))
              try simp only [List.setIfInBounds_toArray, List.set_cons_zero, List.set_cons_succ]
              first
                | (refine skipH (i := 18) 59 (by rw [List.getElem?_toArray]; rfl) rfl (by kernel_rfl) (by kernel_rfl) (by kernel_rfl) (fun _ _ _ h => h) (by rfl) hHeld ?_)
                | (refine takeE (i := 18) 59 (by rw [List.getElem?_toArray]; rfl) rfl (by kernel_rfl) (by kernel_rfl) (by kernel_rfl) (fun _ _ _ _ h => h) (by rfl) hHeld ?_
                   apply Exists.intro
                   apply And.intro
                   focus (intro w' hSw; obtain ⟨s0, s1⟩ := hSw; go_simp; try with_reducible rfl))
              try simp only [List.setIfInBounds_toArray, List.set_cons_zero, List.set_cons_succ]
              first
                | (refine skipH (i := 19) 60 (by rw [List.getElem?_toArray]; rfl) rfl (by kernel_rfl) (by kernel_rfl) (by kernel_rfl) (fun _ _ _ h => h) (by rfl) hHeld ?_)
                | (refine takeE (i := 19) 60 (by rw [List.getElem?_toArray]; rfl) rfl (by kernel_rfl) (by kernel_rfl) (by kernel_rfl) (fun _ _ _ _ h => h) (by rfl) hHeld ?_
                   apply Exists.intro
                   apply And.intro
                   focus (intro w' hSw; obtain ⟨s0, s1⟩ := hSw; go_simp; try with_reducible rfl))
              try simp only [List.setIfInBounds_toArray, List.set_cons_zero, List.set_cons_succ]
              first
                | (refine skipH (i := 20) 61 (by rw [List.getElem?_toArray]; rfl) rfl (by kernel_rfl) (by kernel_rfl) (by kernel_rfl) (fun _ _ _ h => h) (by rfl) hHeld ?_)
                | (refine takeE (i := 20) 61 (by rw [List.getElem?_toArray]; rfl) rfl (by kernel_rfl) (by kernel_rfl) (by kernel_rfl) (fun _ _ _ _ h => h) (by rfl) hHeld ?_
                   apply Exists.intro
                   apply And.intro
                   focus (intro w' hSw; obtain ⟨s0, s1⟩ := hSw; go_simp; try with_reducible rfl))
              try simp only [List.setIfInBounds_toArray, List.set_cons_zero, List.set_cons_succ]
              first
                | (refine skipH (i := 21) 62 (by rw [List.getElem?_toArray]; rfl) rfl (by kernel_rfl) (by kernel_rfl) (by kernel_rfl) (fun _ _ _ h => h) (by rfl) hHeld ?_)
                | (refine takeE (i := 21) 62 (by rw [List.getElem?_toArray]; rfl) rfl (by kernel_rfl) (by kernel_rfl) (by kernel_rfl) (fun _ _ _ _ h => h) (by rfl) hHeld ?_
                   apply Exists.intro
                   apply And.intro
                   focus (intro w' hSw; obtain ⟨s0, s1⟩ := hSw; go_simp; try with_reducible rfl))
              try simp only [List.setIfInBounds_toArray, List.set_cons_zero, List.set_cons_succ]
              (refine skipH (i := 17) 58 (by rw [List.getElem?_toArray]; rfl) rfl (by kernel_rfl) (by kernel_rfl) (by kernel_rfl) (fun _ _ _ h => h) (by rfl) hHeld ?_)
              try simp only [List.setIfInBounds_toArray, List.set_cons_zero, List.set_cons_succ]
              (refine skipH (i := 22) 63 (by rw [List.getElem?_toArray]; rfl) rfl (by kernel_rfl) (by kernel_rfl) (by kernel_rfl) (fun _ _ _ h => h) (by rfl) hHeld ?_)
              try simp only [List.setIfInBounds_toArray, List.set_cons_zero, List.set_cons_succ]
              first
                | (refine skipH (i := 23) 64 (by rw [List.getElem?_toArray]; rfl) rfl (by kernel_rfl) (by kernel_rfl) (by kernel_rfl) (fun _ _ _ h => h) (by rfl) hHeld ?_)
                | (refine takeE (i := 23) 64 (by rw [List.getElem?_toArray]; rfl) rfl (by kernel_rfl) (by kernel_rfl) (by kernel_rfl) (fun _ _ _ _ h => h) (by rfl) hHeld ?_
                   apply Exists.intro
                   apply And.intro
                   focus (intro w' hSw; obtain ⟨s0, s1⟩ := hSw; go_simp; try with_reducible rfl))
              try simp only [List.setIfInBounds_toArray, List.set_cons_zero, List.set_cons_succ]
              first
                | (refine skipH (i := 24) 65 (by rw [List.getElem?_toArray]; rfl) rfl (by kernel_rfl) (by kernel_rfl) (by kernel_rfl) (fun _ _ _ h => h) (by rfl) hHeld ?_)
                | (refine takeE (i := 24) 65 (by rw [List.getElem?_toArray]; rfl) rfl (by kernel_rfl) (by kernel_rfl) (by kernel_rfl) (fun _ _ _ _ h => h) (by rfl) hHeld ?_
                   apply Exists.intro
                   apply And.intro
                   focus (intro w' hSw; obtain ⟨s0, s1⟩ := hSw; go_simp; try with_reducible rfl))
              try simp only [List.setIfInBounds_toArray, List.set_cons_zero, List.set_cons_succ]
              refine takeE (i := 25) 66 (by rw [List.getElem?_toArray]; rfl) rfl (by kernel_rfl) (by kernel_rfl) (by kernel_rfl) (fun _ _ _ _ h => h) (by rfl) hHeld ?_
              apply Exists.intro
              apply And.intro
              focus (intro w' hSw; obtain ⟨s0, s1⟩ := hSw; go_simp; try with_reducible rfl)
              try simp only [List.setIfInBounds_toArray, List.set_cons_zero, List.set_cons_succ]
              refine wpAnyH_done (by kernel_rfl) ?_ _
              refine NoPanic.normal ?_
              go_wp2
              go_roundg (gk - 1)
              case measure => have := HKJ.out; omega
              case rel => exact ⟨1, by go_num, by omega, H.out.drew, HG.out.drew, HJ1, hid (by have := HKJ.out; omega)⟩
          · rw [decide_eq_false hlx] at HGD
            have hnf := HFL.out (fun h => hlx h.1)
            go_wp2
            refine wp_region_noPanic ?_
            refine wp_region_held_drew (S := (fun w' => w'.cell? ⟨w.heap.size, 0, none⟩ = some (.int .i64 nv) ∧ w'.cell? ⟨b, o + j, none⟩ = some (.int .i64 x))) (by kernel_rfl) ?_ (fun hHeld => ?_)
            · exact ⟨hb0, hxc⟩
            refine takeE (i := 0) 41 (by rw [List.getElem?_toArray]; rfl) rfl (by kernel_rfl) (by kernel_rfl) (by kernel_rfl) (fun _ _ _ _ h => h) (by rfl) hHeld ?_
            apply Exists.intro
            apply And.intro
            focus (intro w' hSw; obtain ⟨s0, s1⟩ := hSw; go_simp; try with_reducible rfl)
            try simp only [List.setIfInBounds_toArray, List.set_cons_zero, List.set_cons_succ]
            refine takeE (i := 1) 42 (by rw [List.getElem?_toArray]; rfl) rfl (by kernel_rfl) (by kernel_rfl) (by kernel_rfl) (fun _ _ _ _ h => h) (by rfl) hHeld ?_
            apply Exists.intro
            apply And.intro
            focus (intro w' hSw; obtain ⟨s0, s1⟩ := hSw; go_simp; try with_reducible rfl)
            try simp only [List.setIfInBounds_toArray, List.set_cons_zero, List.set_cons_succ]
            refine takeE (i := 2) 43 (by rw [List.getElem?_toArray]; rfl) rfl (by kernel_rfl) (by kernel_rfl) (by kernel_rfl) (fun _ _ _ _ h => h) (by rfl) hHeld ?_
            apply Exists.intro
            apply And.intro
            focus (intro w' hSw; obtain ⟨s0, s1⟩ := hSw; go_simp; try with_reducible rfl)
            try simp only [List.setIfInBounds_toArray, List.set_cons_zero, List.set_cons_succ]
            refine takeE (i := 3) 44 (by rw [List.getElem?_toArray]; rfl) rfl (by kernel_rfl) (by kernel_rfl) (by kernel_rfl) (fun _ _ _ _ h => h) (by rfl) hHeld ?_
            apply Exists.intro
            apply And.intro
            focus (intro w' hSw; obtain ⟨s0, s1⟩ := hSw; go_simp; try with_reducible rfl)
            try simp only [List.setIfInBounds_toArray, List.set_cons_zero, List.set_cons_succ]
            refine takeE (i := 4) 45 (by rw [List.getElem?_toArray]; rfl) rfl (by kernel_rfl) (by kernel_rfl) (by kernel_rfl) (fun _ _ _ _ h => h) (by rfl) hHeld ?_
            apply Exists.intro
            apply And.intro
            focus (intro w' hSw; obtain ⟨s0, s1⟩ := hSw; go_simp; try with_reducible rfl)
            try simp only [List.setIfInBounds_toArray, List.set_cons_zero, List.set_cons_succ]
            refine takeE (i := 5) 46 (by rw [List.getElem?_toArray]; rfl) rfl (by kernel_rfl) (by kernel_rfl) (by kernel_rfl) (fun _ _ _ _ h => h) (by rfl) hHeld ?_
            apply Exists.intro
            apply And.intro
            focus (intro w' hSw; obtain ⟨s0, s1⟩ := hSw; go_simp; try with_reducible rfl)
            try simp only [List.setIfInBounds_toArray, List.set_cons_zero, List.set_cons_succ]
            refine callH (i := 6) (some 47) (by rw [List.getElem?_toArray]; rfl) rfl (by kernel_rfl) (by rfl) fun K hK => ?_
            go_simp
            refine (HGD.out _).mono ?_
            rintro e w' ⟨rfl, rfl⟩
            refine hK (.bool false) _ hHeld ?_
            clear hK K
            try simp only [Act.put, List.setIfInBounds_toArray, List.set_cons_zero, List.set_cons_succ]
            refine takeE (i := 7) 48 (by rw [List.getElem?_toArray]; rfl) rfl (by kernel_rfl) (by kernel_rfl) (by kernel_rfl) (fun _ _ _ _ h => h) (by rfl) hHeld ?_
            apply Exists.intro
            apply And.intro
            focus (intro w' hSw; obtain ⟨s0, s1⟩ := hSw; go_simp; try with_reducible rfl)
            try simp only [List.setIfInBounds_toArray, List.set_cons_zero, List.set_cons_succ]
            refine takeE (i := 8) 49 (by rw [List.getElem?_toArray]; rfl) rfl (by kernel_rfl) (by kernel_rfl) (by kernel_rfl) (fun _ _ _ _ h => h) (by rfl) hHeld ?_
            apply Exists.intro
            apply And.intro
            focus (intro w' hSw; obtain ⟨s0, s1⟩ := hSw; go_simp; try with_reducible rfl)
            try simp only [List.setIfInBounds_toArray, List.set_cons_zero, List.set_cons_succ]
            first
              | (refine skipH (i := 9) 50 (by rw [List.getElem?_toArray]; rfl) rfl (by kernel_rfl) (by kernel_rfl) (by kernel_rfl) (fun _ _ _ h => h) (by rfl) hHeld ?_)
              | (refine takeE (i := 9) 50 (by rw [List.getElem?_toArray]; rfl) rfl (by kernel_rfl) (by kernel_rfl) (by kernel_rfl) (fun _ _ _ _ h => h) (by rfl) hHeld ?_
                 apply Exists.intro
                 apply And.intro
                 focus (intro w' hSw; obtain ⟨s0, s1⟩ := hSw; go_simp; try with_reducible rfl))
            try simp only [List.setIfInBounds_toArray, List.set_cons_zero, List.set_cons_succ]
            first
              | (refine skipH (i := 10) 51 (by rw [List.getElem?_toArray]; rfl) rfl (by kernel_rfl) (by kernel_rfl) (by kernel_rfl) (fun _ _ _ h => h) (by rfl) hHeld ?_)
              | (refine takeE (i := 10) 51 (by rw [List.getElem?_toArray]; rfl) rfl (by kernel_rfl) (by kernel_rfl) (by kernel_rfl) (fun _ _ _ _ h => h) (by rfl) hHeld ?_
                 apply Exists.intro
                 apply And.intro
                 focus (intro w' hSw; obtain ⟨s0, s1⟩ := hSw; go_simp; try with_reducible rfl))
            try simp only [List.setIfInBounds_toArray, List.set_cons_zero, List.set_cons_succ]
            first
              | (refine skipH (i := 11) 52 (by rw [List.getElem?_toArray]; rfl) rfl (by kernel_rfl) (by kernel_rfl) (by kernel_rfl) (fun _ _ _ h => h) (by rfl) hHeld ?_)
              | (refine takeE (i := 11) 52 (by rw [List.getElem?_toArray]; rfl) rfl (by kernel_rfl) (by kernel_rfl) (by kernel_rfl) (fun _ _ _ _ h => h) (by rfl) hHeld ?_
                 apply Exists.intro
                 apply And.intro
                 focus (intro w' hSw; obtain ⟨s0, s1⟩ := hSw; go_simp; try with_reducible rfl))
            try simp only [List.setIfInBounds_toArray, List.set_cons_zero, List.set_cons_succ]
            first
              | (refine skipH (i := 12) 53 (by rw [List.getElem?_toArray]; rfl) rfl (by kernel_rfl) (by kernel_rfl) (by kernel_rfl) (fun _ _ _ h => h) (by rfl) hHeld ?_)
              | (refine takeE (i := 12) 53 (by rw [List.getElem?_toArray]; rfl) rfl (by kernel_rfl) (by kernel_rfl) (by kernel_rfl) (fun _ _ _ _ h => h) (by rfl) hHeld ?_
                 apply Exists.intro
                 apply And.intro
                 focus (intro w' hSw; obtain ⟨s0, s1⟩ := hSw; go_simp; try with_reducible rfl))
            try simp only [List.setIfInBounds_toArray, List.set_cons_zero, List.set_cons_succ]
            first
              | (refine skipH (i := 13) 54 (by rw [List.getElem?_toArray]; rfl) rfl (by kernel_rfl) (by kernel_rfl) (by kernel_rfl) (fun _ _ _ h => h) (by rfl) hHeld ?_)
              | (refine takeE (i := 13) 54 (by rw [List.getElem?_toArray]; rfl) rfl (by kernel_rfl) (by kernel_rfl) (by kernel_rfl) (fun _ _ _ _ h => h) (by rfl) hHeld ?_
                 apply Exists.intro
                 apply And.intro
                 focus (intro w' hSw; obtain ⟨s0, s1⟩ := hSw; go_simp; try with_reducible rfl))
            try simp only [List.setIfInBounds_toArray, List.set_cons_zero, List.set_cons_succ]
            first
              | (refine skipH (i := 14) 55 (by rw [List.getElem?_toArray]; rfl) rfl (by kernel_rfl) (by kernel_rfl) (by kernel_rfl) (fun _ _ _ h => h) (by rfl) hHeld ?_)
              | (refine takeE (i := 14) 55 (by rw [List.getElem?_toArray]; rfl) rfl (by kernel_rfl) (by kernel_rfl) (by kernel_rfl) (fun _ _ _ _ h => h) (by rfl) hHeld ?_
                 apply Exists.intro
                 apply And.intro
                 focus (intro w' hSw; obtain ⟨s0, s1⟩ := hSw; go_simp; try with_reducible rfl))
            try simp only [List.setIfInBounds_toArray, List.set_cons_zero, List.set_cons_succ]
            first
              | (refine skipH (i := 15) 56 (by rw [List.getElem?_toArray]; rfl) rfl (by kernel_rfl) (by kernel_rfl) (by kernel_rfl) (fun _ _ _ h => h) (by rfl) hHeld ?_)
              | (refine takeE (i := 15) 56 (by rw [List.getElem?_toArray]; rfl) rfl (by kernel_rfl) (by kernel_rfl) (by kernel_rfl) (fun _ _ _ _ h => h) (by rfl) hHeld ?_
                 apply Exists.intro
                 apply And.intro
                 focus (intro w' hSw; obtain ⟨s0, s1⟩ := hSw; go_simp; try with_reducible rfl))
            try simp only [List.setIfInBounds_toArray, List.set_cons_zero, List.set_cons_succ]
            first
              | (refine skipH (i := 16) 57 (by rw [List.getElem?_toArray]; rfl) rfl (by kernel_rfl) (by kernel_rfl) (by kernel_rfl) (fun _ _ _ h => h) (by rfl) hHeld ?_)
              | (refine takeE (i := 16) 57 (by rw [List.getElem?_toArray]; rfl) rfl (by kernel_rfl) (by kernel_rfl) (by kernel_rfl) (fun _ _ _ _ h => h) (by rfl) hHeld ?_
                 apply Exists.intro
                 apply And.intro
                 focus (intro w' hSw; obtain ⟨s0, s1⟩ := hSw; go_simp; try with_reducible rfl))
            try simp only [List.setIfInBounds_toArray, List.set_cons_zero, List.set_cons_succ]
            first
              | (refine skipH (i := 18) 59 (by rw [List.getElem?_toArray]; rfl) rfl (by kernel_rfl) (by kernel_rfl) (by kernel_rfl) (fun _ _ _ h => h) (by rfl) hHeld ?_)
              | (refine takeE (i := 18) 59 (by rw [List.getElem?_toArray]; rfl) rfl (by kernel_rfl) (by kernel_rfl) (by kernel_rfl) (fun _ _ _ _ h => h) (by rfl) hHeld ?_
                 apply Exists.intro
                 apply And.intro
                 focus (intro w' hSw; obtain ⟨s0, s1⟩ := hSw; go_simp; try with_reducible rfl))
            try simp only [List.setIfInBounds_toArray, List.set_cons_zero, List.set_cons_succ]
            first
              | (refine skipH (i := 19) 60 (by rw [List.getElem?_toArray]; rfl) rfl (by kernel_rfl) (by kernel_rfl) (by kernel_rfl) (fun _ _ _ h => h) (by rfl) hHeld ?_)
              | (refine takeE (i := 19) 60 (by rw [List.getElem?_toArray]; rfl) rfl (by kernel_rfl) (by kernel_rfl) (by kernel_rfl) (fun _ _ _ _ h => h) (by rfl) hHeld ?_
                 apply Exists.intro
                 apply And.intro
                 focus (intro w' hSw; obtain ⟨s0, s1⟩ := hSw; go_simp; try with_reducible rfl))
            try simp only [List.setIfInBounds_toArray, List.set_cons_zero, List.set_cons_succ]
            first
              | (refine skipH (i := 20) 61 (by rw [List.getElem?_toArray]; rfl) rfl (by kernel_rfl) (by kernel_rfl) (by kernel_rfl) (fun _ _ _ h => h) (by rfl) hHeld ?_)
              | (refine takeE (i := 20) 61 (by rw [List.getElem?_toArray]; rfl) rfl (by kernel_rfl) (by kernel_rfl) (by kernel_rfl) (fun _ _ _ _ h => h) (by rfl) hHeld ?_
                 apply Exists.intro
                 apply And.intro
                 focus (intro w' hSw; obtain ⟨s0, s1⟩ := hSw; go_simp; try with_reducible rfl))
            try simp only [List.setIfInBounds_toArray, List.set_cons_zero, List.set_cons_succ]
            first
              | (refine skipH (i := 21) 62 (by rw [List.getElem?_toArray]; rfl) rfl (by kernel_rfl) (by kernel_rfl) (by kernel_rfl) (fun _ _ _ h => h) (by rfl) hHeld ?_)
              | (refine takeE (i := 21) 62 (by rw [List.getElem?_toArray]; rfl) rfl (by kernel_rfl) (by kernel_rfl) (by kernel_rfl) (fun _ _ _ _ h => h) (by rfl) hHeld ?_
                 apply Exists.intro
                 apply And.intro
                 focus (intro w' hSw; obtain ⟨s0, s1⟩ := hSw; go_simp; try with_reducible rfl))
            try simp only [List.setIfInBounds_toArray, List.set_cons_zero, List.set_cons_succ]
            (refine skipH (i := 17) 58 (by rw [List.getElem?_toArray]; rfl) rfl (by kernel_rfl) (by kernel_rfl) (by kernel_rfl) (fun _ _ _ h => h) (by rfl) hHeld ?_)
            try simp only [List.setIfInBounds_toArray, List.set_cons_zero, List.set_cons_succ]
            (refine skipH (i := 22) 63 (by rw [List.getElem?_toArray]; rfl) rfl (by kernel_rfl) (by kernel_rfl) (by kernel_rfl) (fun _ _ _ h => h) (by rfl) hHeld ?_)
            try simp only [List.setIfInBounds_toArray, List.set_cons_zero, List.set_cons_succ]
            first
              | (refine skipH (i := 23) 64 (by rw [List.getElem?_toArray]; rfl) rfl (by kernel_rfl) (by kernel_rfl) (by kernel_rfl) (fun _ _ _ h => h) (by rfl) hHeld ?_)
              | (refine takeE (i := 23) 64 (by rw [List.getElem?_toArray]; rfl) rfl (by kernel_rfl) (by kernel_rfl) (by kernel_rfl) (fun _ _ _ _ h => h) (by rfl) hHeld ?_
                 apply Exists.intro
                 apply And.intro
                 focus (intro w' hSw; obtain ⟨s0, s1⟩ := hSw; go_simp; try with_reducible rfl))
            try simp only [List.setIfInBounds_toArray, List.set_cons_zero, List.set_cons_succ]
            first
              | (refine skipH (i := 24) 65 (by rw [List.getElem?_toArray]; rfl) rfl (by kernel_rfl) (by kernel_rfl) (by kernel_rfl) (fun _ _ _ h => h) (by rfl) hHeld ?_)
              | (refine takeE (i := 24) 65 (by rw [List.getElem?_toArray]; rfl) rfl (by kernel_rfl) (by kernel_rfl) (by kernel_rfl) (fun _ _ _ _ h => h) (by rfl) hHeld ?_
                 apply Exists.intro
                 apply And.intro
                 focus (intro w' hSw; obtain ⟨s0, s1⟩ := hSw; go_simp; try with_reducible rfl))
            try simp only [List.setIfInBounds_toArray, List.set_cons_zero, List.set_cons_succ]
            refine takeE (i := 25) 66 (by rw [List.getElem?_toArray]; rfl) rfl (by kernel_rfl) (by kernel_rfl) (by kernel_rfl) (fun _ _ _ _ h => h) (by rfl) hHeld ?_
            apply Exists.intro
            apply And.intro
            focus (intro w' hSw; obtain ⟨s0, s1⟩ := hSw; go_simp; try with_reducible rfl)
            try simp only [List.setIfInBounds_toArray, List.set_cons_zero, List.set_cons_succ]
            refine wpAnyH_done (by kernel_rfl) ?_ _
            refine NoPanic.normal ?_
            go_wp2
            go_ret
            exact ⟨.no hnf rfl, H.out.tail.drew⟩
        · obtain rfl : j = nl := by omega
          have hT : ∀ d ∈ fcl.take (k + 1), fitC nv d.lits := by
            intro d hd
            rw [List.take_add_one, HCC.out] at hd
            rcases List.mem_append.1 hd with hd | hd
            · exact HT.out d hd
            · obtain rfl : d = c := by simpa using hd
              exact fun i hi => HJ.out i hi (by have := HN.out; omega)
          have HT1 := hid hT
          clear hT
          go_wp2
          go_roundg (gO - 1)
          case measure => have := HK.out; omega
          case rel => exact ⟨k + 1, by go_num, by omega, H, HT1, hid (by have := HK.out; omega)⟩
    · obtain rfl : k = fcl.length := by omega
      have hT := HT.out
      rw [List.take_length] at hT
      have HT2 := hid hT
      clear hT HT
      go_upto_region 13 with (fail)
      have H1 := hid (H.out.made (enc := Value.bool) (h1 := fun _ => rfl) 4 false (2 * nv + 1) (by omega))
      generalize wr.alloc (.cells (madeCells #[Value.bool false] (2 * nv + 1)) 4) = w1 at *
      generalize wr.heap.size = g at *
      clear H hmk hb0 hb1 hb2
      have hb0 := (H1.out.cell (i := 1) rfl 0 rfl).1
      have hb2 := (H1.out.cell (i := 1) rfl 2 rfl).1
      go_wp2
      go_loopg [7] order.length (fun kq v7 wr => ∃ (i : Nat) (sk : List Bool), v7 = .int .i64 i ∧ i ≤ order.length ∧ Hid (seenB nv (order.take i) sk) ∧ Hid ((∀ x ∈ order.take i, litOk nv x) ∧ (order.take i).Nodup) ∧ Hid (YLib.Inv w NoM wr [rowP (Kind.ofEnc Value.bool (fun _ => rfl)) 4 (.slice (some ⟨g, 0, none⟩) (2 * nv + 1) (2 * nv + 1)) sk, blkP w.heap.size 28 [.int .i64 nv, .slice Ac fcl.length cc, .slice Ao order.length co]]) ∧ Hid (kq + i = order.length))
      case atStart => exact ⟨0, _, rfl, by omega, hid (seenB0 nv), hid ⟨fun x hx => (by simp at hx), List.nodup_nil⟩, H1, hid rfl⟩
      case round =>
        clear H1 hb0 hb2
        obtain ⟨i, sk, rfl, hi, HS, HT, H, HK2⟩ := hrel
        have hb0 := (H.out.cell (i := 1) rfl 0 rfl).1
        have hb2 := (H.out.cell (i := 1) rfl 2 rfl).1
        by_cases hlt : i < order.length
        · have hil : (i : Int) < (order.length : Int) := by omega
          obtain ⟨x, hx⟩ : ∃ x, order[i]? = some x := ⟨_, List.getElem?_eq_getElem hlt⟩
          have HX := hid hx
          obtain ⟨b, o, rfl, hxc⟩ := intAt (HO.out.chg H.out.chg (fun _ _ => id)) hx
          have hbw : b < w.heap.size := by
            obtain ⟨b', o', hA, hc'⟩ := intAt HO.out hx
            injection hA with hA
            injection hA with hA1 hA2
            subst hA1 hA2
            exact World.block_lt_of_cell? _ _ hc'
          have HGD := hid (good_calls' x hv0' hv)
          clear hx
          by_cases hlx : litOk nv x
          · rw [decide_eq_true hlx] at HGD
            obtain ⟨m, hm⟩ := Int.eq_ofNat_of_zero_le (show 0 ≤ x + (nv : Int) by have := hlx.2.1; omega)
            have hm2 : (m : Int) < 2 * nv + 1 := by have := hlx.2.2; omega
            have hm3 : (m : Int) < ((2 * nv + 1 : Nat) : Int) := by omega
            have hsn := HS.out.2 x hlx
            rw [hm, Int.toNat_natCast] at hsn
            have hsl := HS.out.1
            obtain ⟨hs1, hs2⟩ := H.out.cellRow (i := 0) rfl m (by omega)
            have hz : sk[m]'(by omega) = decide (x ∈ order.take i) := by
              rw [List.getD_eq_getElem?_getD, List.getElem?_eq_getElem (by omega)] at hsn; exact hsn
            rw [hz] at hs1
            have hwm : IntKind.i64.wrap (x + (nv : Int)) = (m : Int) := (IntWalk.i64_in (x + (nv : Int)) (by omega)).trans hm
            have hwm2 : IntKind.i64.wrap (m : Int) = (m : Int) := IntWalk.i64_in (m : Int) (by omega)
            by_cases hin : x ∈ order.take i
            · have hnf : ¬ fitF nv fcl order := fun hf => by
                obtain ⟨j, hj, e⟩ := List.mem_take_iff_getElem.1 hin
                have h1 := (List.getElem?_eq_some_iff.1 HX.out).2
                exact (List.pairwise_iff_getElem.1 hf.2.2.2.2.2) j i (by omega) hlt (by omega) (by rw [e, h1])
              rw [decide_eq_true hin] at hs1
              have HNF := hid hnf
              clear hnf hz hsn hm hin
              go_wp2
              refine wp_region_noPanic ?_
              refine wp_region_held_drew (S := (fun w' => w'.cell? ⟨w.heap.size, 0, none⟩ = some (.int .i64 nv) ∧ w'.cell? ⟨w.heap.size, 2, none⟩ = some (.slice (some ⟨b, o, none⟩) order.length co) ∧ w'.cell? ⟨b, o + i, none⟩ = some (.int .i64 x) ∧ w'.cell? ⟨g, m, none⟩ = some (.bool true))) (by kernel_rfl) ?_ (fun hHeld => ?_)
              · exact ⟨hb0, hb2, hxc, hs1⟩
              refine takeE (i := 0) 79 (by rw [List.getElem?_toArray]; rfl) rfl (by kernel_rfl) (by kernel_rfl) (by kernel_rfl) (fun _ _ _ _ h => h) (by rfl) hHeld ?_
              apply Exists.intro
              apply And.intro
              focus (intro w' hSw; obtain ⟨s0, s1, s2, s3⟩ := hSw; go_simp; try with_reducible rfl)
              try simp only [List.setIfInBounds_toArray, List.set_cons_zero, List.set_cons_succ]
              refine takeE (i := 1) 80 (by rw [List.getElem?_toArray]; rfl) rfl (by kernel_rfl) (by kernel_rfl) (by kernel_rfl) (fun _ _ _ _ h => h) (by rfl) hHeld ?_
              apply Exists.intro
              apply And.intro
              focus (intro w' hSw; obtain ⟨s0, s1, s2, s3⟩ := hSw; go_simp; try with_reducible rfl)
              try simp only [List.setIfInBounds_toArray, List.set_cons_zero, List.set_cons_succ]
              refine takeE (i := 2) 81 (by rw [List.getElem?_toArray]; rfl) rfl (by kernel_rfl) (by kernel_rfl) (by kernel_rfl) (fun _ _ _ _ h => h) (by rfl) hHeld ?_
              apply Exists.intro
              apply And.intro
              focus (intro w' hSw; obtain ⟨s0, s1, s2, s3⟩ := hSw; go_simp; try with_reducible rfl)
              try simp only [List.setIfInBounds_toArray, List.set_cons_zero, List.set_cons_succ]
              refine takeE (i := 3) 82 (by rw [List.getElem?_toArray]; rfl) rfl (by kernel_rfl) (by kernel_rfl) (by kernel_rfl) (fun _ _ _ _ h => h) (by rfl) hHeld ?_
              apply Exists.intro
              apply And.intro
              focus (intro w' hSw; obtain ⟨s0, s1, s2, s3⟩ := hSw; go_simp; try with_reducible rfl)
              try simp only [List.setIfInBounds_toArray, List.set_cons_zero, List.set_cons_succ]
              refine takeE (i := 4) 83 (by rw [List.getElem?_toArray]; rfl) rfl (by kernel_rfl) (by kernel_rfl) (by kernel_rfl) (fun _ _ _ _ h => h) (by rfl) hHeld ?_
              apply Exists.intro
              apply And.intro
              focus (intro w' hSw; obtain ⟨s0, s1, s2, s3⟩ := hSw; go_simp; try with_reducible rfl)
              try simp only [List.setIfInBounds_toArray, List.set_cons_zero, List.set_cons_succ]
              refine takeE (i := 5) 84 (by rw [List.getElem?_toArray]; rfl) rfl (by kernel_rfl) (by kernel_rfl) (by kernel_rfl) (fun _ _ _ _ h => h) (by rfl) hHeld ?_
              apply Exists.intro
              apply And.intro
              focus (intro w' hSw; obtain ⟨s0, s1, s2, s3⟩ := hSw; go_simp; try with_reducible rfl)
              try simp only [List.setIfInBounds_toArray, List.set_cons_zero, List.set_cons_succ]
              refine takeE (i := 6) 85 (by rw [List.getElem?_toArray]; rfl) rfl (by kernel_rfl) (by kernel_rfl) (by kernel_rfl) (fun _ _ _ _ h => h) (by rfl) hHeld ?_
              apply Exists.intro
              apply And.intro
              focus (intro w' hSw; obtain ⟨s0, s1, s2, s3⟩ := hSw; go_simp; try with_reducible rfl)
              try simp only [List.setIfInBounds_toArray, List.set_cons_zero, List.set_cons_succ]
              refine callH (i := 7) (some 86) (by rw [List.getElem?_toArray]; rfl) rfl (by kernel_rfl) (by rfl) fun K hK => ?_
              go_simp
              refine (HGD.out _).mono ?_
              rintro e w' ⟨rfl, rfl⟩
              refine hK (.bool true) _ hHeld ?_
              clear hK K
              try simp only [Act.put, List.setIfInBounds_toArray, List.set_cons_zero, List.set_cons_succ]
              refine takeE (i := 8) 87 (by rw [List.getElem?_toArray]; rfl) rfl (by kernel_rfl) (by kernel_rfl) (by kernel_rfl) (fun _ _ _ _ h => h) (by rfl) hHeld ?_
              apply Exists.intro
              apply And.intro
              focus (intro w' hSw; obtain ⟨s0, s1, s2, s3⟩ := hSw; go_simp; try with_reducible rfl)
              try simp only [List.setIfInBounds_toArray, List.set_cons_zero, List.set_cons_succ]
              refine takeE (i := 9) 88 (by rw [List.getElem?_toArray]; rfl) rfl (by kernel_rfl) (by kernel_rfl) (by kernel_rfl) (fun _ _ _ _ h => h) (by rfl) hHeld ?_
              apply Exists.intro
              apply And.intro
              focus (intro w' hSw; obtain ⟨s0, s1, s2, s3⟩ := hSw; go_simp; try with_reducible rfl)
              try simp only [List.setIfInBounds_toArray, List.set_cons_zero, List.set_cons_succ]
              first
                | (refine skipH (i := 10) 89 (by rw [List.getElem?_toArray]; rfl) rfl (by kernel_rfl) (by kernel_rfl) (by kernel_rfl) (fun _ _ _ h => h) (by rfl) hHeld ?_)
                | (refine takeE (i := 10) 89 (by rw [List.getElem?_toArray]; rfl) rfl (by kernel_rfl) (by kernel_rfl) (by kernel_rfl) (fun _ _ _ _ h => h) (by rfl) hHeld ?_
                   apply Exists.intro
                   apply And.intro
                   focus (intro w' hSw; obtain ⟨s0, s1, s2, s3⟩ := hSw; go_simp; try with_reducible rfl))
              try simp only [List.setIfInBounds_toArray, List.set_cons_zero, List.set_cons_succ]
              first
                | (refine skipH (i := 11) 90 (by rw [List.getElem?_toArray]; rfl) rfl (by kernel_rfl) (by kernel_rfl) (by kernel_rfl) (fun _ _ _ h => h) (by rfl) hHeld ?_)
                | (refine takeE (i := 11) 90 (by rw [List.getElem?_toArray]; rfl) rfl (by kernel_rfl) (by kernel_rfl) (by kernel_rfl) (fun _ _ _ _ h => h) (by rfl) hHeld ?_
                   apply Exists.intro
                   apply And.intro
                   focus (intro w' hSw; obtain ⟨s0, s1, s2, s3⟩ := hSw; go_simp; try with_reducible rfl))
              try simp only [List.setIfInBounds_toArray, List.set_cons_zero, List.set_cons_succ]
              first
                | (refine skipH (i := 12) 91 (by rw [List.getElem?_toArray]; rfl) rfl (by kernel_rfl) (by kernel_rfl) (by kernel_rfl) (fun _ _ _ h => h) (by rfl) hHeld ?_)
                | (refine takeE (i := 12) 91 (by rw [List.getElem?_toArray]; rfl) rfl (by kernel_rfl) (by kernel_rfl) (by kernel_rfl) (fun _ _ _ _ h => h) (by rfl) hHeld ?_
                   apply Exists.intro
                   apply And.intro
                   focus (intro w' hSw; obtain ⟨s0, s1, s2, s3⟩ := hSw; go_simp; try with_reducible rfl))
              try simp only [List.setIfInBounds_toArray, List.set_cons_zero, List.set_cons_succ]
              first
                | (refine skipH (i := 13) 92 (by rw [List.getElem?_toArray]; rfl) rfl (by kernel_rfl) (by kernel_rfl) (by kernel_rfl) (fun _ _ _ h => h) (by rfl) hHeld ?_)
                | (refine takeE (i := 13) 92 (by rw [List.getElem?_toArray]; rfl) rfl (by kernel_rfl) (by kernel_rfl) (by kernel_rfl) (fun _ _ _ _ h => h) (by rfl) hHeld ?_
                   apply Exists.intro
                   apply And.intro
                   focus (intro w' hSw; obtain ⟨s0, s1, s2, s3⟩ := hSw; go_simp; try with_reducible rfl))
              try simp only [List.setIfInBounds_toArray, List.set_cons_zero, List.set_cons_succ]
              first
                | (refine skipH (i := 14) 93 (by rw [List.getElem?_toArray]; rfl) rfl (by kernel_rfl) (by kernel_rfl) (by kernel_rfl) (fun _ _ _ h => h) (by rfl) hHeld ?_)
                | (refine takeE (i := 14) 93 (by rw [List.getElem?_toArray]; rfl) rfl (by kernel_rfl) (by kernel_rfl) (by kernel_rfl) (fun _ _ _ _ h => h) (by rfl) hHeld ?_
                   apply Exists.intro
                   apply And.intro
                   focus (intro w' hSw; obtain ⟨s0, s1, s2, s3⟩ := hSw; go_simp; try with_reducible rfl))
              try simp only [List.setIfInBounds_toArray, List.set_cons_zero, List.set_cons_succ]
              first
                | (refine skipH (i := 15) 94 (by rw [List.getElem?_toArray]; rfl) rfl (by kernel_rfl) (by kernel_rfl) (by kernel_rfl) (fun _ _ _ h => h) (by rfl) hHeld ?_)
                | (refine takeE (i := 15) 94 (by rw [List.getElem?_toArray]; rfl) rfl (by kernel_rfl) (by kernel_rfl) (by kernel_rfl) (fun _ _ _ _ h => h) (by rfl) hHeld ?_
                   apply Exists.intro
                   apply And.intro
                   focus (intro w' hSw; obtain ⟨s0, s1, s2, s3⟩ := hSw; go_simp; try with_reducible rfl))
              try simp only [List.setIfInBounds_toArray, List.set_cons_zero, List.set_cons_succ]
              first
                | (refine skipH (i := 16) 95 (by rw [List.getElem?_toArray]; rfl) rfl (by kernel_rfl) (by kernel_rfl) (by kernel_rfl) (fun _ _ _ h => h) (by rfl) hHeld ?_)
                | (refine takeE (i := 16) 95 (by rw [List.getElem?_toArray]; rfl) rfl (by kernel_rfl) (by kernel_rfl) (by kernel_rfl) (fun _ _ _ _ h => h) (by rfl) hHeld ?_
                   apply Exists.intro
                   apply And.intro
                   focus (intro w' hSw; obtain ⟨s0, s1, s2, s3⟩ := hSw; go_simp; try with_reducible rfl))
              try simp only [List.setIfInBounds_toArray, List.set_cons_zero, List.set_cons_succ]
              first
                | (refine skipH (i := 17) 96 (by rw [List.getElem?_toArray]; rfl) rfl (by kernel_rfl) (by kernel_rfl) (by kernel_rfl) (fun _ _ _ h => h) (by rfl) hHeld ?_)
                | (refine takeE (i := 17) 96 (by rw [List.getElem?_toArray]; rfl) rfl (by kernel_rfl) (by kernel_rfl) (by kernel_rfl) (fun _ _ _ _ h => h) (by rfl) hHeld ?_
                   apply Exists.intro
                   apply And.intro
                   focus (intro w' hSw; obtain ⟨s0, s1, s2, s3⟩ := hSw; go_simp; try with_reducible rfl))
              try simp only [List.setIfInBounds_toArray, List.set_cons_zero, List.set_cons_succ]
              first
                | (refine skipH (i := 18) 97 (by rw [List.getElem?_toArray]; rfl) rfl (by kernel_rfl) (by kernel_rfl) (by kernel_rfl) (fun _ _ _ h => h) (by rfl) hHeld ?_)
                | (refine takeE (i := 18) 97 (by rw [List.getElem?_toArray]; rfl) rfl (by kernel_rfl) (by kernel_rfl) (by kernel_rfl) (fun _ _ _ _ h => h) (by rfl) hHeld ?_
                   apply Exists.intro
                   apply And.intro
                   focus (intro w' hSw; obtain ⟨s0, s1, s2, s3⟩ := hSw; go_simp; try with_reducible rfl))
              try simp only [List.setIfInBounds_toArray, List.set_cons_zero, List.set_cons_succ]
              first
                | (refine skipH (i := 19) 98 (by rw [List.getElem?_toArray]; rfl) rfl (by kernel_rfl) (by kernel_rfl) (by kernel_rfl) (fun _ _ _ h => h) (by rfl) hHeld ?_)
                | (refine takeE (i := 19) 98 (by rw [List.getElem?_toArray]; rfl) rfl (by kernel_rfl) (by kernel_rfl) (by kernel_rfl) (fun _ _ _ _ h => h) (by rfl) hHeld ?_
                   apply Exists.intro
                   apply And.intro
                   focus (intro w' hSw; obtain ⟨s0, s1, s2, s3⟩ := hSw; go_simp; try with_reducible rfl))
              try simp only [List.setIfInBounds_toArray, List.set_cons_zero, List.set_cons_succ]
              first
                | (refine skipH (i := 20) 99 (by rw [List.getElem?_toArray]; rfl) rfl (by kernel_rfl) (by kernel_rfl) (by kernel_rfl) (fun _ _ _ h => h) (by rfl) hHeld ?_)
                | (refine takeE (i := 20) 99 (by rw [List.getElem?_toArray]; rfl) rfl (by kernel_rfl) (by kernel_rfl) (by kernel_rfl) (fun _ _ _ _ h => h) (by rfl) hHeld ?_
                   apply Exists.intro
                   apply And.intro
                   focus (intro w' hSw; obtain ⟨s0, s1, s2, s3⟩ := hSw; go_simp; try with_reducible rfl))
              try simp only [List.setIfInBounds_toArray, List.set_cons_zero, List.set_cons_succ]
              refine takeE (i := 21) 100 (by rw [List.getElem?_toArray]; rfl) rfl (by kernel_rfl) (by kernel_rfl) (by kernel_rfl) (fun _ _ _ _ h => h) (by rfl) hHeld ?_
              apply Exists.intro
              apply And.intro
              focus (intro w' hSw; obtain ⟨s0, s1, s2, s3⟩ := hSw; go_simp; try with_reducible rfl)
              try simp only [List.setIfInBounds_toArray, List.set_cons_zero, List.set_cons_succ]
              refine wpAnyH_done (by kernel_rfl) ?_ _
              refine NoPanic.normal ?_
              go_wp2
              go_ret
              exact ⟨.no HNF.out rfl, H.out.tail.tail.drew⟩
            · rw [decide_eq_false hin] at hs1
              have htk : order.take (i + 1) = order.take i ++ [x] := by rw [List.take_add_one, HX.out]; rfl
              have HS2 := hid (seenB1 HS.out hlx)
              rw [← htk, hm, Int.toNat_natCast] at HS2
              have hT2 : (∀ y ∈ order.take (i + 1), litOk nv y) ∧ (order.take (i + 1)).Nodup := by
                rw [htk]
                refine ⟨fun y hy => ?_, List.nodup_append.2 ⟨HT.out.2, by simp, fun a ha c hc e => ?_⟩⟩
                · rcases List.mem_append.1 hy with hy | hy
                  · exact HT.out.1 y hy
                  · obtain rfl : y = x := by simpa using hy
                    exact hlx
                · obtain rfl : c = x := by simpa using hc
                  subst e
                  exact hin ha
              have HT3 := hid hT2
              clear hT2 htk hz hsn hm hin HT
              go_wp2
              refine wp_region_noPanic ?_
              refine wp_region_held_drew (S := (fun w' => w'.cell? ⟨w.heap.size, 0, none⟩ = some (.int .i64 nv) ∧ w'.cell? ⟨w.heap.size, 2, none⟩ = some (.slice (some ⟨b, o, none⟩) order.length co) ∧ w'.cell? ⟨b, o + i, none⟩ = some (.int .i64 x) ∧ w'.cell? ⟨g, m, none⟩ = some (.bool false))) (by kernel_rfl) ?_ (fun hHeld => ?_)
              · exact ⟨hb0, hb2, hxc, hs1⟩
              refine takeE (i := 0) 79 (by rw [List.getElem?_toArray]; rfl) rfl (by kernel_rfl) (by kernel_rfl) (by kernel_rfl) (fun _ _ _ _ h => h) (by rfl) hHeld ?_
              apply Exists.intro
              apply And.intro
              focus (intro w' hSw; obtain ⟨s0, s1, s2, s3⟩ := hSw; go_simp; try with_reducible rfl)
              try simp only [List.setIfInBounds_toArray, List.set_cons_zero, List.set_cons_succ]
              refine takeE (i := 1) 80 (by rw [List.getElem?_toArray]; rfl) rfl (by kernel_rfl) (by kernel_rfl) (by kernel_rfl) (fun _ _ _ _ h => h) (by rfl) hHeld ?_
              apply Exists.intro
              apply And.intro
              focus (intro w' hSw; obtain ⟨s0, s1, s2, s3⟩ := hSw; go_simp; try with_reducible rfl)
              try simp only [List.setIfInBounds_toArray, List.set_cons_zero, List.set_cons_succ]
              refine takeE (i := 2) 81 (by rw [List.getElem?_toArray]; rfl) rfl (by kernel_rfl) (by kernel_rfl) (by kernel_rfl) (fun _ _ _ _ h => h) (by rfl) hHeld ?_
              apply Exists.intro
              apply And.intro
              focus (intro w' hSw; obtain ⟨s0, s1, s2, s3⟩ := hSw; go_simp; try with_reducible rfl)
              try simp only [List.setIfInBounds_toArray, List.set_cons_zero, List.set_cons_succ]
              refine takeE (i := 3) 82 (by rw [List.getElem?_toArray]; rfl) rfl (by kernel_rfl) (by kernel_rfl) (by kernel_rfl) (fun _ _ _ _ h => h) (by rfl) hHeld ?_
              apply Exists.intro
              apply And.intro
              focus (intro w' hSw; obtain ⟨s0, s1, s2, s3⟩ := hSw; go_simp; try with_reducible rfl)
              try simp only [List.setIfInBounds_toArray, List.set_cons_zero, List.set_cons_succ]
              refine takeE (i := 4) 83 (by rw [List.getElem?_toArray]; rfl) rfl (by kernel_rfl) (by kernel_rfl) (by kernel_rfl) (fun _ _ _ _ h => h) (by rfl) hHeld ?_
              apply Exists.intro
              apply And.intro
              focus (intro w' hSw; obtain ⟨s0, s1, s2, s3⟩ := hSw; go_simp; try with_reducible rfl)
              try simp only [List.setIfInBounds_toArray, List.set_cons_zero, List.set_cons_succ]
              refine takeE (i := 5) 84 (by rw [List.getElem?_toArray]; rfl) rfl (by kernel_rfl) (by kernel_rfl) (by kernel_rfl) (fun _ _ _ _ h => h) (by rfl) hHeld ?_
              apply Exists.intro
              apply And.intro
              focus (intro w' hSw; obtain ⟨s0, s1, s2, s3⟩ := hSw; go_simp; try with_reducible rfl)
              try simp only [List.setIfInBounds_toArray, List.set_cons_zero, List.set_cons_succ]
              refine takeE (i := 6) 85 (by rw [List.getElem?_toArray]; rfl) rfl (by kernel_rfl) (by kernel_rfl) (by kernel_rfl) (fun _ _ _ _ h => h) (by rfl) hHeld ?_
              apply Exists.intro
              apply And.intro
              focus (intro w' hSw; obtain ⟨s0, s1, s2, s3⟩ := hSw; go_simp; try with_reducible rfl)
              try simp only [List.setIfInBounds_toArray, List.set_cons_zero, List.set_cons_succ]
              refine callH (i := 7) (some 86) (by rw [List.getElem?_toArray]; rfl) rfl (by kernel_rfl) (by rfl) fun K hK => ?_
              go_simp
              refine (HGD.out _).mono ?_
              rintro e w' ⟨rfl, rfl⟩
              refine hK (.bool true) _ hHeld ?_
              clear hK K
              try simp only [Act.put, List.setIfInBounds_toArray, List.set_cons_zero, List.set_cons_succ]
              refine takeE (i := 8) 87 (by rw [List.getElem?_toArray]; rfl) rfl (by kernel_rfl) (by kernel_rfl) (by kernel_rfl) (fun _ _ _ _ h => h) (by rfl) hHeld ?_
              apply Exists.intro
              apply And.intro
              focus (intro w' hSw; obtain ⟨s0, s1, s2, s3⟩ := hSw; go_simp; try with_reducible rfl)
              try simp only [List.setIfInBounds_toArray, List.set_cons_zero, List.set_cons_succ]
              refine takeE (i := 9) 88 (by rw [List.getElem?_toArray]; rfl) rfl (by kernel_rfl) (by kernel_rfl) (by kernel_rfl) (fun _ _ _ _ h => h) (by rfl) hHeld ?_
              apply Exists.intro
              apply And.intro
              focus (intro w' hSw; obtain ⟨s0, s1, s2, s3⟩ := hSw; go_simp; try with_reducible rfl)
              try simp only [List.setIfInBounds_toArray, List.set_cons_zero, List.set_cons_succ]
              first
                | (refine skipH (i := 10) 89 (by rw [List.getElem?_toArray]; rfl) rfl (by kernel_rfl) (by kernel_rfl) (by kernel_rfl) (fun _ _ _ h => h) (by rfl) hHeld ?_)
                | (refine takeE (i := 10) 89 (by rw [List.getElem?_toArray]; rfl) rfl (by kernel_rfl) (by kernel_rfl) (by kernel_rfl) (fun _ _ _ _ h => h) (by rfl) hHeld ?_
                   apply Exists.intro
                   apply And.intro
                   focus (intro w' hSw; obtain ⟨s0, s1, s2, s3⟩ := hSw; go_simp; try with_reducible rfl))
              try simp only [List.setIfInBounds_toArray, List.set_cons_zero, List.set_cons_succ]
              first
                | (refine skipH (i := 11) 90 (by rw [List.getElem?_toArray]; rfl) rfl (by kernel_rfl) (by kernel_rfl) (by kernel_rfl) (fun _ _ _ h => h) (by rfl) hHeld ?_)
                | (refine takeE (i := 11) 90 (by rw [List.getElem?_toArray]; rfl) rfl (by kernel_rfl) (by kernel_rfl) (by kernel_rfl) (fun _ _ _ _ h => h) (by rfl) hHeld ?_
                   apply Exists.intro
                   apply And.intro
                   focus (intro w' hSw; obtain ⟨s0, s1, s2, s3⟩ := hSw; go_simp; try with_reducible rfl))
              try simp only [List.setIfInBounds_toArray, List.set_cons_zero, List.set_cons_succ]
              first
                | (refine skipH (i := 12) 91 (by rw [List.getElem?_toArray]; rfl) rfl (by kernel_rfl) (by kernel_rfl) (by kernel_rfl) (fun _ _ _ h => h) (by rfl) hHeld ?_)
                | (refine takeE (i := 12) 91 (by rw [List.getElem?_toArray]; rfl) rfl (by kernel_rfl) (by kernel_rfl) (by kernel_rfl) (fun _ _ _ _ h => h) (by rfl) hHeld ?_
                   apply Exists.intro
                   apply And.intro
                   focus (intro w' hSw; obtain ⟨s0, s1, s2, s3⟩ := hSw; go_simp; try with_reducible rfl))
              try simp only [List.setIfInBounds_toArray, List.set_cons_zero, List.set_cons_succ]
              first
                | (refine skipH (i := 13) 92 (by rw [List.getElem?_toArray]; rfl) rfl (by kernel_rfl) (by kernel_rfl) (by kernel_rfl) (fun _ _ _ h => h) (by rfl) hHeld ?_)
                | (refine takeE (i := 13) 92 (by rw [List.getElem?_toArray]; rfl) rfl (by kernel_rfl) (by kernel_rfl) (by kernel_rfl) (fun _ _ _ _ h => h) (by rfl) hHeld ?_
                   apply Exists.intro
                   apply And.intro
                   focus (intro w' hSw; obtain ⟨s0, s1, s2, s3⟩ := hSw; go_simp; try with_reducible rfl))
              try simp only [List.setIfInBounds_toArray, List.set_cons_zero, List.set_cons_succ]
              first
                | (refine skipH (i := 14) 93 (by rw [List.getElem?_toArray]; rfl) rfl (by kernel_rfl) (by kernel_rfl) (by kernel_rfl) (fun _ _ _ h => h) (by rfl) hHeld ?_)
                | (refine takeE (i := 14) 93 (by rw [List.getElem?_toArray]; rfl) rfl (by kernel_rfl) (by kernel_rfl) (by kernel_rfl) (fun _ _ _ _ h => h) (by rfl) hHeld ?_
                   apply Exists.intro
                   apply And.intro
                   focus (intro w' hSw; obtain ⟨s0, s1, s2, s3⟩ := hSw; go_simp; try with_reducible rfl))
              try simp only [List.setIfInBounds_toArray, List.set_cons_zero, List.set_cons_succ]
              first
                | (refine skipH (i := 15) 94 (by rw [List.getElem?_toArray]; rfl) rfl (by kernel_rfl) (by kernel_rfl) (by kernel_rfl) (fun _ _ _ h => h) (by rfl) hHeld ?_)
                | (refine takeE (i := 15) 94 (by rw [List.getElem?_toArray]; rfl) rfl (by kernel_rfl) (by kernel_rfl) (by kernel_rfl) (fun _ _ _ _ h => h) (by rfl) hHeld ?_
                   apply Exists.intro
                   apply And.intro
                   focus (intro w' hSw; obtain ⟨s0, s1, s2, s3⟩ := hSw; go_simp; try with_reducible rfl))
              try simp only [List.setIfInBounds_toArray, List.set_cons_zero, List.set_cons_succ]
              first
                | (refine skipH (i := 16) 95 (by rw [List.getElem?_toArray]; rfl) rfl (by kernel_rfl) (by kernel_rfl) (by kernel_rfl) (fun _ _ _ h => h) (by rfl) hHeld ?_)
                | (refine takeE (i := 16) 95 (by rw [List.getElem?_toArray]; rfl) rfl (by kernel_rfl) (by kernel_rfl) (by kernel_rfl) (fun _ _ _ _ h => h) (by rfl) hHeld ?_
                   apply Exists.intro
                   apply And.intro
                   focus (intro w' hSw; obtain ⟨s0, s1, s2, s3⟩ := hSw; go_simp; try with_reducible rfl))
              try simp only [List.setIfInBounds_toArray, List.set_cons_zero, List.set_cons_succ]
              first
                | (refine skipH (i := 17) 96 (by rw [List.getElem?_toArray]; rfl) rfl (by kernel_rfl) (by kernel_rfl) (by kernel_rfl) (fun _ _ _ h => h) (by rfl) hHeld ?_)
                | (refine takeE (i := 17) 96 (by rw [List.getElem?_toArray]; rfl) rfl (by kernel_rfl) (by kernel_rfl) (by kernel_rfl) (fun _ _ _ _ h => h) (by rfl) hHeld ?_
                   apply Exists.intro
                   apply And.intro
                   focus (intro w' hSw; obtain ⟨s0, s1, s2, s3⟩ := hSw; go_simp; try with_reducible rfl))
              try simp only [List.setIfInBounds_toArray, List.set_cons_zero, List.set_cons_succ]
              first
                | (refine skipH (i := 18) 97 (by rw [List.getElem?_toArray]; rfl) rfl (by kernel_rfl) (by kernel_rfl) (by kernel_rfl) (fun _ _ _ h => h) (by rfl) hHeld ?_)
                | (refine takeE (i := 18) 97 (by rw [List.getElem?_toArray]; rfl) rfl (by kernel_rfl) (by kernel_rfl) (by kernel_rfl) (fun _ _ _ _ h => h) (by rfl) hHeld ?_
                   apply Exists.intro
                   apply And.intro
                   focus (intro w' hSw; obtain ⟨s0, s1, s2, s3⟩ := hSw; go_simp; try with_reducible rfl))
              try simp only [List.setIfInBounds_toArray, List.set_cons_zero, List.set_cons_succ]
              first
                | (refine skipH (i := 19) 98 (by rw [List.getElem?_toArray]; rfl) rfl (by kernel_rfl) (by kernel_rfl) (by kernel_rfl) (fun _ _ _ h => h) (by rfl) hHeld ?_)
                | (refine takeE (i := 19) 98 (by rw [List.getElem?_toArray]; rfl) rfl (by kernel_rfl) (by kernel_rfl) (by kernel_rfl) (fun _ _ _ _ h => h) (by rfl) hHeld ?_
                   apply Exists.intro
                   apply And.intro
                   focus (intro w' hSw; obtain ⟨s0, s1, s2, s3⟩ := hSw; go_simp; try with_reducible rfl))
              try simp only [List.setIfInBounds_toArray, List.set_cons_zero, List.set_cons_succ]
              first
                | (refine skipH (i := 20) 99 (by rw [List.getElem?_toArray]; rfl) rfl (by kernel_rfl) (by kernel_rfl) (by kernel_rfl) (fun _ _ _ h => h) (by rfl) hHeld ?_)
                | (refine takeE (i := 20) 99 (by rw [List.getElem?_toArray]; rfl) rfl (by kernel_rfl) (by kernel_rfl) (by kernel_rfl) (fun _ _ _ _ h => h) (by rfl) hHeld ?_
                   apply Exists.intro
                   apply And.intro
                   focus (intro w' hSw; obtain ⟨s0, s1, s2, s3⟩ := hSw; go_simp; try with_reducible rfl))
              try simp only [List.setIfInBounds_toArray, List.set_cons_zero, List.set_cons_succ]
              refine takeE (i := 21) 100 (by rw [List.getElem?_toArray]; rfl) rfl (by kernel_rfl) (by kernel_rfl) (by kernel_rfl) (fun _ _ _ _ h => h) (by rfl) hHeld ?_
              apply Exists.intro
              apply And.intro
              focus (intro w' hSw; obtain ⟨s0, s1, s2, s3⟩ := hSw; go_simp; try with_reducible rfl)
              try simp only [List.setIfInBounds_toArray, List.set_cons_zero, List.set_cons_succ]
              refine wpAnyH_done (by kernel_rfl) ?_ _
              refine NoPanic.normal ?_
              go_wp2
              have hb0 := (H.out.drew.cell (i := 1) rfl 0 rfl).1
              have hb2 := (H.out.drew.cell (i := 1) rfl 2 rfl).1
              have hxc : wr.drew.cell? ⟨b, o + i, none⟩ = some (.int .i64 x) := hxc
              have hs2 : wr.drew.frozen? ⟨g, m, none⟩ = false := hs2
              have H3 := hid H.out.drew.drew
              have H2 := hid (H3.out.setRow (i := 0) rfl m true)
              clear H
              have H := H3
              refine wp_region_noPanic ?_
              refine wp_region_held_drew (S := (fun w' => w'.cell? ⟨w.heap.size, 0, none⟩ = some (.int .i64 nv) ∧ w'.cell? ⟨w.heap.size, 2, none⟩ = some (.slice (some ⟨b, o, none⟩) order.length co) ∧ w'.cell? ⟨b, o + i, none⟩ = some (.int .i64 x))) (by kernel_rfl) ?_ (fun hHeld => ?_)
              · exact ⟨hb0, hb2, hxc⟩
              refine takeE (i := 0) 101 (by rw [List.getElem?_toArray]; rfl) rfl (by kernel_rfl) (by kernel_rfl) (by kernel_rfl) (fun _ _ _ _ h => h) (by rfl) hHeld ?_
              apply Exists.intro
              apply And.intro
              focus (intro w' hSw; obtain ⟨s0, s1, s2⟩ := hSw; go_simp; try with_reducible rfl)
              try simp only [List.setIfInBounds_toArray, List.set_cons_zero, List.set_cons_succ]
              refine takeE (i := 1) 102 (by rw [List.getElem?_toArray]; rfl) rfl (by kernel_rfl) (by kernel_rfl) (by kernel_rfl) (fun _ _ _ _ h => h) (by rfl) hHeld ?_
              apply Exists.intro
              apply And.intro
              focus (intro w' hSw; obtain ⟨s0, s1, s2⟩ := hSw; go_simp; try with_reducible rfl)
              try simp only [List.setIfInBounds_toArray, List.set_cons_zero, List.set_cons_succ]
              refine takeE (i := 2) 103 (by rw [List.getElem?_toArray]; rfl) rfl (by kernel_rfl) (by kernel_rfl) (by kernel_rfl) (fun _ _ _ _ h => h) (by rfl) hHeld ?_
              apply Exists.intro
              apply And.intro
              focus (intro w' hSw; obtain ⟨s0, s1, s2⟩ := hSw; go_simp; try with_reducible rfl)
              try simp only [List.setIfInBounds_toArray, List.set_cons_zero, List.set_cons_succ]
              refine takeE (i := 3) 104 (by rw [List.getElem?_toArray]; rfl) rfl (by kernel_rfl) (by kernel_rfl) (by kernel_rfl) (fun _ _ _ _ h => h) (by rfl) hHeld ?_
              apply Exists.intro
              apply And.intro
              focus (intro w' hSw; obtain ⟨s0, s1, s2⟩ := hSw; go_simp; try with_reducible rfl)
              try simp only [List.setIfInBounds_toArray, List.set_cons_zero, List.set_cons_succ]
              refine takeE (i := 4) 105 (by rw [List.getElem?_toArray]; rfl) rfl (by kernel_rfl) (by kernel_rfl) (by kernel_rfl) (fun _ _ _ _ h => h) (by rfl) hHeld ?_
              apply Exists.intro
              apply And.intro
              focus (intro w' hSw; obtain ⟨s0, s1, s2⟩ := hSw; go_simp; try with_reducible rfl)
              try simp only [List.setIfInBounds_toArray, List.set_cons_zero, List.set_cons_succ]
              refine takeE (i := 5) 106 (by rw [List.getElem?_toArray]; rfl) rfl (by kernel_rfl) (by kernel_rfl) (by kernel_rfl) (fun _ _ _ _ h => h) (by rfl) hHeld ?_
              apply Exists.intro
              apply And.intro
              focus (intro w' hSw; obtain ⟨s0, s1, s2⟩ := hSw; go_simp; try with_reducible rfl)
              try simp only [List.setIfInBounds_toArray, List.set_cons_zero, List.set_cons_succ]
              refine takeE (i := 6) 107 (by rw [List.getElem?_toArray]; rfl) rfl (by kernel_rfl) (by kernel_rfl) (by kernel_rfl) (fun _ _ _ _ h => h) (by rfl) hHeld ?_
              apply Exists.intro
              apply And.intro
              focus (intro w' hSw; obtain ⟨s0, s1, s2⟩ := hSw; go_simp; try with_reducible rfl)
              try simp only [List.setIfInBounds_toArray, List.set_cons_zero, List.set_cons_succ]
              refine takeE (i := 7) 108 (by rw [List.getElem?_toArray]; rfl) rfl (by kernel_rfl) (by kernel_rfl) (by kernel_rfl) (fun _ _ _ _ h => h) (by rfl) hHeld ?_
              apply Exists.intro
              apply And.intro
              focus (intro w' hSw; obtain ⟨s0, s1, s2⟩ := hSw; go_simp; try with_reducible rfl)
              try simp only [List.setIfInBounds_toArray, List.set_cons_zero, List.set_cons_succ]
              refine takeE (i := 8) 109 (by rw [List.getElem?_toArray]; rfl) rfl (by kernel_rfl) (by kernel_rfl) (by kernel_rfl) (fun _ _ _ _ h => h) (by rfl) hHeld ?_
              apply Exists.intro
              apply And.intro
              focus (intro w' hSw; obtain ⟨s0, s1, s2⟩ := hSw; go_simp; try with_reducible rfl)
              try simp only [List.setIfInBounds_toArray, List.set_cons_zero, List.set_cons_succ]
              refine takeE (i := 9) 110 (by rw [List.getElem?_toArray]; rfl) rfl (by kernel_rfl) (by kernel_rfl) (by kernel_rfl) (fun _ _ _ _ h => h) (by rfl) hHeld ?_
              apply Exists.intro
              apply And.intro
              focus (intro w' hSw; obtain ⟨s0, s1, s2⟩ := hSw; go_simp; try with_reducible rfl)
              try simp only [List.setIfInBounds_toArray, List.set_cons_zero, List.set_cons_succ]
              refine callH (i := 10) (none) (by rw [List.getElem?_toArray]; rfl) rfl (by kernel_rfl) (by rfl) fun K hK => ?_
              go_simp
              refine hK undef _ ⟨(H2.out.cell (i := 1) rfl 0 rfl).1, (H2.out.cell (i := 1) rfl 2 rfl).1, (H2.out.belowOf.cell (p := ⟨b, o + i, none⟩) hbw).trans ((H.out.belowOf.cell (p := ⟨b, o + i, none⟩) hbw).symm.trans hxc)⟩ ?_
              clear hK K
              try simp only [Act.put]
              refine wpAnyH_done (by kernel_rfl) ?_ _
              refine NoPanic.normal ?_
              go_wp2
              go_roundg (gk - 1)
              case measure => have := HK2.out; omega
              case rel => exact ⟨i + 1, _, by go_num, by omega, HS2, HT3, H2, hid (by have := HK2.out; omega)⟩
          · rw [decide_eq_false hlx] at HGD
            have hnf : ¬ fitF nv fcl order := fun hf => hlx (hf.2.2.2.2.1 x (List.mem_of_getElem? HX.out))
            have HNF := hid hnf
            clear hnf
            go_wp2
            refine wp_region_noPanic ?_
            refine wp_region_held_drew (S := (fun w' => w'.cell? ⟨w.heap.size, 0, none⟩ = some (.int .i64 nv) ∧ w'.cell? ⟨w.heap.size, 2, none⟩ = some (.slice (some ⟨b, o, none⟩) order.length co) ∧ w'.cell? ⟨b, o + i, none⟩ = some (.int .i64 x))) (by kernel_rfl) ?_ (fun hHeld => ?_)
            · exact ⟨hb0, hb2, hxc⟩
            refine takeE (i := 0) 79 (by rw [List.getElem?_toArray]; rfl) rfl (by kernel_rfl) (by kernel_rfl) (by kernel_rfl) (fun _ _ _ _ h => h) (by rfl) hHeld ?_
            apply Exists.intro
            apply And.intro
            focus (intro w' hSw; obtain ⟨s0, s1, s2⟩ := hSw; go_simp; try with_reducible rfl)
            try simp only [List.setIfInBounds_toArray, List.set_cons_zero, List.set_cons_succ]
            refine takeE (i := 1) 80 (by rw [List.getElem?_toArray]; rfl) rfl (by kernel_rfl) (by kernel_rfl) (by kernel_rfl) (fun _ _ _ _ h => h) (by rfl) hHeld ?_
            apply Exists.intro
            apply And.intro
            focus (intro w' hSw; obtain ⟨s0, s1, s2⟩ := hSw; go_simp; try with_reducible rfl)
            try simp only [List.setIfInBounds_toArray, List.set_cons_zero, List.set_cons_succ]
            refine takeE (i := 2) 81 (by rw [List.getElem?_toArray]; rfl) rfl (by kernel_rfl) (by kernel_rfl) (by kernel_rfl) (fun _ _ _ _ h => h) (by rfl) hHeld ?_
            apply Exists.intro
            apply And.intro
            focus (intro w' hSw; obtain ⟨s0, s1, s2⟩ := hSw; go_simp; try with_reducible rfl)
            try simp only [List.setIfInBounds_toArray, List.set_cons_zero, List.set_cons_succ]
            refine takeE (i := 3) 82 (by rw [List.getElem?_toArray]; rfl) rfl (by kernel_rfl) (by kernel_rfl) (by kernel_rfl) (fun _ _ _ _ h => h) (by rfl) hHeld ?_
            apply Exists.intro
            apply And.intro
            focus (intro w' hSw; obtain ⟨s0, s1, s2⟩ := hSw; go_simp; try with_reducible rfl)
            try simp only [List.setIfInBounds_toArray, List.set_cons_zero, List.set_cons_succ]
            refine takeE (i := 4) 83 (by rw [List.getElem?_toArray]; rfl) rfl (by kernel_rfl) (by kernel_rfl) (by kernel_rfl) (fun _ _ _ _ h => h) (by rfl) hHeld ?_
            apply Exists.intro
            apply And.intro
            focus (intro w' hSw; obtain ⟨s0, s1, s2⟩ := hSw; go_simp; try with_reducible rfl)
            try simp only [List.setIfInBounds_toArray, List.set_cons_zero, List.set_cons_succ]
            refine takeE (i := 5) 84 (by rw [List.getElem?_toArray]; rfl) rfl (by kernel_rfl) (by kernel_rfl) (by kernel_rfl) (fun _ _ _ _ h => h) (by rfl) hHeld ?_
            apply Exists.intro
            apply And.intro
            focus (intro w' hSw; obtain ⟨s0, s1, s2⟩ := hSw; go_simp; try with_reducible rfl)
            try simp only [List.setIfInBounds_toArray, List.set_cons_zero, List.set_cons_succ]
            refine takeE (i := 6) 85 (by rw [List.getElem?_toArray]; rfl) rfl (by kernel_rfl) (by kernel_rfl) (by kernel_rfl) (fun _ _ _ _ h => h) (by rfl) hHeld ?_
            apply Exists.intro
            apply And.intro
            focus (intro w' hSw; obtain ⟨s0, s1, s2⟩ := hSw; go_simp; try with_reducible rfl)
            try simp only [List.setIfInBounds_toArray, List.set_cons_zero, List.set_cons_succ]
            refine callH (i := 7) (some 86) (by rw [List.getElem?_toArray]; rfl) rfl (by kernel_rfl) (by rfl) fun K hK => ?_
            go_simp
            refine (HGD.out _).mono ?_
            rintro e w' ⟨rfl, rfl⟩
            refine hK (.bool false) _ hHeld ?_
            clear hK K
            try simp only [Act.put, List.setIfInBounds_toArray, List.set_cons_zero, List.set_cons_succ]
            refine takeE (i := 8) 87 (by rw [List.getElem?_toArray]; rfl) rfl (by kernel_rfl) (by kernel_rfl) (by kernel_rfl) (fun _ _ _ _ h => h) (by rfl) hHeld ?_
            apply Exists.intro
            apply And.intro
            focus (intro w' hSw; obtain ⟨s0, s1, s2⟩ := hSw; go_simp; try with_reducible rfl)
            try simp only [List.setIfInBounds_toArray, List.set_cons_zero, List.set_cons_succ]
            refine takeE (i := 9) 88 (by rw [List.getElem?_toArray]; rfl) rfl (by kernel_rfl) (by kernel_rfl) (by kernel_rfl) (fun _ _ _ _ h => h) (by rfl) hHeld ?_
            apply Exists.intro
            apply And.intro
            focus (intro w' hSw; obtain ⟨s0, s1, s2⟩ := hSw; go_simp; try with_reducible rfl)
            try simp only [List.setIfInBounds_toArray, List.set_cons_zero, List.set_cons_succ]
            first
              | (refine skipH (i := 10) 89 (by rw [List.getElem?_toArray]; rfl) rfl (by kernel_rfl) (by kernel_rfl) (by kernel_rfl) (fun _ _ _ h => h) (by rfl) hHeld ?_)
              | (refine takeE (i := 10) 89 (by rw [List.getElem?_toArray]; rfl) rfl (by kernel_rfl) (by kernel_rfl) (by kernel_rfl) (fun _ _ _ _ h => h) (by rfl) hHeld ?_
                 apply Exists.intro
                 apply And.intro
                 focus (intro w' hSw; obtain ⟨s0, s1, s2⟩ := hSw; go_simp; try with_reducible rfl))
            try simp only [List.setIfInBounds_toArray, List.set_cons_zero, List.set_cons_succ]
            first
              | (refine skipH (i := 11) 90 (by rw [List.getElem?_toArray]; rfl) rfl (by kernel_rfl) (by kernel_rfl) (by kernel_rfl) (fun _ _ _ h => h) (by rfl) hHeld ?_)
              | (refine takeE (i := 11) 90 (by rw [List.getElem?_toArray]; rfl) rfl (by kernel_rfl) (by kernel_rfl) (by kernel_rfl) (fun _ _ _ _ h => h) (by rfl) hHeld ?_
                 apply Exists.intro
                 apply And.intro
                 focus (intro w' hSw; obtain ⟨s0, s1, s2⟩ := hSw; go_simp; try with_reducible rfl))
            try simp only [List.setIfInBounds_toArray, List.set_cons_zero, List.set_cons_succ]
            first
              | (refine skipH (i := 12) 91 (by rw [List.getElem?_toArray]; rfl) rfl (by kernel_rfl) (by kernel_rfl) (by kernel_rfl) (fun _ _ _ h => h) (by rfl) hHeld ?_)
              | (refine takeE (i := 12) 91 (by rw [List.getElem?_toArray]; rfl) rfl (by kernel_rfl) (by kernel_rfl) (by kernel_rfl) (fun _ _ _ _ h => h) (by rfl) hHeld ?_
                 apply Exists.intro
                 apply And.intro
                 focus (intro w' hSw; obtain ⟨s0, s1, s2⟩ := hSw; go_simp; try with_reducible rfl))
            try simp only [List.setIfInBounds_toArray, List.set_cons_zero, List.set_cons_succ]
            first
              | (refine skipH (i := 13) 92 (by rw [List.getElem?_toArray]; rfl) rfl (by kernel_rfl) (by kernel_rfl) (by kernel_rfl) (fun _ _ _ h => h) (by rfl) hHeld ?_)
              | (refine takeE (i := 13) 92 (by rw [List.getElem?_toArray]; rfl) rfl (by kernel_rfl) (by kernel_rfl) (by kernel_rfl) (fun _ _ _ _ h => h) (by rfl) hHeld ?_
                 apply Exists.intro
                 apply And.intro
                 focus (intro w' hSw; obtain ⟨s0, s1, s2⟩ := hSw; go_simp; try with_reducible rfl))
            try simp only [List.setIfInBounds_toArray, List.set_cons_zero, List.set_cons_succ]
            first
              | (refine skipH (i := 14) 93 (by rw [List.getElem?_toArray]; rfl) rfl (by kernel_rfl) (by kernel_rfl) (by kernel_rfl) (fun _ _ _ h => h) (by rfl) hHeld ?_)
              | (refine takeE (i := 14) 93 (by rw [List.getElem?_toArray]; rfl) rfl (by kernel_rfl) (by kernel_rfl) (by kernel_rfl) (fun _ _ _ _ h => h) (by rfl) hHeld ?_
                 apply Exists.intro
                 apply And.intro
                 focus (intro w' hSw; obtain ⟨s0, s1, s2⟩ := hSw; go_simp; try with_reducible rfl))
            try simp only [List.setIfInBounds_toArray, List.set_cons_zero, List.set_cons_succ]
            first
              | (refine skipH (i := 15) 94 (by rw [List.getElem?_toArray]; rfl) rfl (by kernel_rfl) (by kernel_rfl) (by kernel_rfl) (fun _ _ _ h => h) (by rfl) hHeld ?_)
              | (refine takeE (i := 15) 94 (by rw [List.getElem?_toArray]; rfl) rfl (by kernel_rfl) (by kernel_rfl) (by kernel_rfl) (fun _ _ _ _ h => h) (by rfl) hHeld ?_
                 apply Exists.intro
                 apply And.intro
                 focus (intro w' hSw; obtain ⟨s0, s1, s2⟩ := hSw; go_simp; try with_reducible rfl))
            try simp only [List.setIfInBounds_toArray, List.set_cons_zero, List.set_cons_succ]
            first
              | (refine skipH (i := 16) 95 (by rw [List.getElem?_toArray]; rfl) rfl (by kernel_rfl) (by kernel_rfl) (by kernel_rfl) (fun _ _ _ h => h) (by rfl) hHeld ?_)
              | (refine takeE (i := 16) 95 (by rw [List.getElem?_toArray]; rfl) rfl (by kernel_rfl) (by kernel_rfl) (by kernel_rfl) (fun _ _ _ _ h => h) (by rfl) hHeld ?_
                 apply Exists.intro
                 apply And.intro
                 focus (intro w' hSw; obtain ⟨s0, s1, s2⟩ := hSw; go_simp; try with_reducible rfl))
            try simp only [List.setIfInBounds_toArray, List.set_cons_zero, List.set_cons_succ]
            first
              | (refine skipH (i := 17) 96 (by rw [List.getElem?_toArray]; rfl) rfl (by kernel_rfl) (by kernel_rfl) (by kernel_rfl) (fun _ _ _ h => h) (by rfl) hHeld ?_)
              | (refine takeE (i := 17) 96 (by rw [List.getElem?_toArray]; rfl) rfl (by kernel_rfl) (by kernel_rfl) (by kernel_rfl) (fun _ _ _ _ h => h) (by rfl) hHeld ?_
                 apply Exists.intro
                 apply And.intro
                 focus (intro w' hSw; obtain ⟨s0, s1, s2⟩ := hSw; go_simp; try with_reducible rfl))
            try simp only [List.setIfInBounds_toArray, List.set_cons_zero, List.set_cons_succ]
            first
              | (refine skipH (i := 18) 97 (by rw [List.getElem?_toArray]; rfl) rfl (by kernel_rfl) (by kernel_rfl) (by kernel_rfl) (fun _ _ _ h => h) (by rfl) hHeld ?_)
              | (refine takeE (i := 18) 97 (by rw [List.getElem?_toArray]; rfl) rfl (by kernel_rfl) (by kernel_rfl) (by kernel_rfl) (fun _ _ _ _ h => h) (by rfl) hHeld ?_
                 apply Exists.intro
                 apply And.intro
                 focus (intro w' hSw; obtain ⟨s0, s1, s2⟩ := hSw; go_simp; try with_reducible rfl))
            try simp only [List.setIfInBounds_toArray, List.set_cons_zero, List.set_cons_succ]
            first
              | (refine skipH (i := 19) 98 (by rw [List.getElem?_toArray]; rfl) rfl (by kernel_rfl) (by kernel_rfl) (by kernel_rfl) (fun _ _ _ h => h) (by rfl) hHeld ?_)
              | (refine takeE (i := 19) 98 (by rw [List.getElem?_toArray]; rfl) rfl (by kernel_rfl) (by kernel_rfl) (by kernel_rfl) (fun _ _ _ _ h => h) (by rfl) hHeld ?_
                 apply Exists.intro
                 apply And.intro
                 focus (intro w' hSw; obtain ⟨s0, s1, s2⟩ := hSw; go_simp; try with_reducible rfl))
            try simp only [List.setIfInBounds_toArray, List.set_cons_zero, List.set_cons_succ]
            first
              | (refine skipH (i := 20) 99 (by rw [List.getElem?_toArray]; rfl) rfl (by kernel_rfl) (by kernel_rfl) (by kernel_rfl) (fun _ _ _ h => h) (by rfl) hHeld ?_)
              | (refine takeE (i := 20) 99 (by rw [List.getElem?_toArray]; rfl) rfl (by kernel_rfl) (by kernel_rfl) (by kernel_rfl) (fun _ _ _ _ h => h) (by rfl) hHeld ?_
                 apply Exists.intro
                 apply And.intro
                 focus (intro w' hSw; obtain ⟨s0, s1, s2⟩ := hSw; go_simp; try with_reducible rfl))
            try simp only [List.setIfInBounds_toArray, List.set_cons_zero, List.set_cons_succ]
            refine takeE (i := 21) 100 (by rw [List.getElem?_toArray]; rfl) rfl (by kernel_rfl) (by kernel_rfl) (by kernel_rfl) (fun _ _ _ _ h => h) (by rfl) hHeld ?_
            apply Exists.intro
            apply And.intro
            focus (intro w' hSw; obtain ⟨s0, s1, s2⟩ := hSw; go_simp; try with_reducible rfl)
            try simp only [List.setIfInBounds_toArray, List.set_cons_zero, List.set_cons_succ]
            refine wpAnyH_done (by kernel_rfl) ?_ _
            refine NoPanic.normal ?_
            go_wp2
            go_ret
            exact ⟨.no HNF.out rfl, H.out.tail.tail.drew⟩
        · obtain rfl : i = order.length := by omega
          have hfit : fitF nv fcl order := by
            have h := HT.out
            rw [List.take_length] at h
            exact ⟨hv0', hv, hn, HT2.out, h.1, h.2⟩
          have HF := hid hfit
          clear hfit
          go_wp2
          go_ret
          exact ⟨.yes HF.out rfl, H.out.tail.tail⟩
end Go.Proofs.Ytcglokippflioaa

/-! The document's words on models: Model, Row. -/
namespace Go.Proofs.Ytcglokippflioaa
open Go Go.RowKit YLib
/-- A model's row. -/
def modRow (m : List Int) : Prop := ∀ (i : Nat) (x : Int), m[i]? = some x → x = (i : Int) + 1 ∨ x = -((i : Int) + 1)
set_option maxRecDepth 100000 in
set_option maxHeartbeats 1000000 in
theorem RModel_calls {w : World} {S : Nat → Prop} {A : Option Addr} {cap : Nat} {m : List Int} (hl : m.length ≤ 4096) (hm : modRow m) (hr : RowAt Kind.int w S A m) :
    Calls Try.prog 20 #[.slice A m.length cap, .int .i64 m.length] w fun e w' => e = .returned (.bool true) ∧ w = w' := by
  have HR := hid hr
  have HM := hid hm
  clear hr hm
  obtain ⟨n, hn⟩ : ∃ n, m.length = n := ⟨_, rfl⟩
  have HN := hid hn
  rw [hn] at hl ⊢
  clear hn
  have hne : ((n : Int) != (n : Int)) = false := by simp
  go_enter Try.func20, Try.ntmps20
  go_wp2
  go_loopg [5] n (fun kq v5 wr => ∃ (k : Nat), v5 = .int .i64 k ∧ k ≤ n ∧ Hid (kq + k = n) ∧ wr = w)
  case atStart => exact ⟨0, rfl, by omega, hid rfl, rfl⟩
  case round =>
    obtain ⟨k, rfl, hk, HK, rfl⟩ := hrel
    by_cases hlt : k < n
    · have hlt' : (k : Int) < (n : Int) := by omega
      obtain ⟨x, hx⟩ : ∃ x, m[k]? = some x := ⟨_, List.getElem?_eq_getElem (by have := HN.out; omega)⟩
      obtain ⟨b, o, rfl, hxc⟩ := intAt HR.out hx
      have hw1 : wrap64 ((k : Int) + 1) = (k : Int) + 1 := IntWalk.wrap64_in _ (by omega)
      have hw2 : wrap64 (-(k : Int)) = -(k : Int) := IntWalk.wrap64_in _ (by omega)
      have hw3 : wrap64 (-(k : Int) - 1) = -(k : Int) - 1 := IntWalk.wrap64_in _ (by omega)
      rcases HM.out k x hx with rfl | rfl
      · have hb : (((k : Int) + 1) != ((k : Int) + 1)) = false := by simp
        clear hx
        go_wp2
        go_roundg (gk - 1)
        case measure => have := HK.out; omega
        case rel => exact ⟨k + 1, by go_num, by omega, hid (by have := HK.out; omega), rfl⟩
      · have hb : (-((k : Int) + 1) != ((k : Int) + 1)) = true := by simp; omega
        have hb2 : (-((k : Int) + 1) != (-(k : Int) - 1)) = false := by simp; omega
        clear hx
        go_wp2
        go_roundg (gk - 1)
        case measure => have := HK.out; omega
        case rel => exact ⟨k + 1, by go_num, by omega, hid (by have := HK.out; omega), rfl⟩
    · obtain rfl : k = n := by omega
      go_wp2
      go_ret
      exact ⟨rfl, rfl⟩
theorem negs_succ (k : Nat) : negs (k + 1) = negs k ++ [-((k : Int) + 1)] := by
  unfold negs
  rw [List.range_succ, List.map_append]
  rfl
set_option maxRecDepth 100000 in
set_option maxHeartbeats 4000000 in
theorem RRow_calls {w : World} {S : Nat → Prop} {Ac Ao : Option Addr} {nc cc co : Nat} {nv : Nat} {order : List Int} (hv : nv ≤ 4096) (hol : order.length ≤ LIM) (ho : RowAt Kind.int w S Ao order) :
    Calls Try.prog 21 #[.agg #[.int .i64 nv, .slice Ac nc cc, .slice Ao order.length co]] w fun e w' => ∃ v, e = .returned v ∧ Inv w NoM w' [rowP Kind.int 3 v (order ++ negs nv)] := by
  have HO := hid ho
  clear ho
  unfold LIM at hol
  have H0 := hid ((Inv.start0 w).boxc 28 [.int .i64 nv, .slice Ac nc cc, .slice Ao order.length co])
  have H1 := hid (H0.out.nilRow Kind.int 3)
  clear H0
  go_enter Try.func21, Try.ntmps21
  have hb2 := (H1.out.cell (i := 1) rfl 2 rfl).1
  go_upto_region 2 with (fail)
  go_cut [3] (fun v3 wx => Hid (YLib.Inv w NoM wx [rowP Kind.int 3 v3 order, blkP w.heap.size 28 [.int .i64 nv, .slice Ac nc cc, .slice Ao order.length co]]))
  case first =>
    rcases Nat.eq_zero_or_pos order.length with hz | hp
    · obtain rfl := List.eq_nil_of_length_eq_zero hz
      rw [List.length_nil] at hb2
      cases Ao with
      | none =>
        go_wp2
        go_meet
        case rel => exact H1
      | some a =>
        go_wp2
        go_meet
        case rel => exact H1
    · obtain ⟨x, hx⟩ : ∃ x, order[0]? = some x := ⟨_, List.getElem?_eq_getElem hp⟩
      obtain ⟨b, o, rfl, _⟩ := intAt HO.out hx
      clear hx
      have HN : Hid (∀ (j : Nat) u, (order.map (Value.int .i64))[j]? = some u → (w.alloc (.cells #[.int .i64 nv, .slice Ac nc cc, .slice (some ⟨b, o, none⟩) order.length co] 28)).cell? ((⟨b, o, none⟩ : Addr).add j) = some u) := by
        intro j u hu
        rw [List.getElem?_map] at hu
        obtain ⟨y, hy, rfl⟩ := Option.map_eq_some_iff.1 hu
        obtain ⟨_, _, hA, hc⟩ := intAt (HO.out.chg H1.out.chg (fun _ _ => id)) hy
        injection hA with hA
        injection hA with hA1 hA2
        subst hA1 hA2
        rw [add_addr']; exact hc
      go_wp2_with (at_builtin; refine wpList_of_wp rfl fun K hK => ?_; go_loud (refine wp_append_inv (d := Kind.int) _ _ 26 rfl Try.underlying26 infoInt rfl (by decide) 0 _ [] order H1.out rfl rfl ⟨b, o, none⟩ order.length co rfl (order.map (Value.int .i64)) rfl HN.out (reps_enc _) hp (by simp; omega) (by simp; omega) ?_); intro g1 cap1 w2 h2; have HI2 := hid h2; clear h2; refine hK _ _ ?_; clear hK K)
      go_meet
      case rel => exact hid (by simpa using HI2.out)
  case rest =>
    have H2 := hcut
    clear hcut H1 hb2
    go_wp2
    go_loopg [3, 4] nv (fun kq v3 v4 wr => ∃ (k : Nat), v4 = .int .i64 ((k : Int) + 1) ∧ k ≤ nv ∧ Hid (kq + k = nv) ∧ Hid (YLib.Inv w NoM wr [rowP Kind.int 3 v3 (order ++ negs k), blkP w.heap.size 28 [.int .i64 nv, .slice Ac nc cc, .slice Ao order.length co]]))
    case atStart => exact ⟨0, rfl, by omega, hid rfl, hid (by have := H2.out; rw [show negs 0 = [] from rfl, List.append_nil]; exact this)⟩
    case round =>
      clear H2
      obtain ⟨k, rfl, hk, HK, H⟩ := hrel
      have hb0 := (H.out.cell (i := 1) rfl 0 rfl).1
      by_cases hlt : k < nv
      · have hlt' : (k : Int) + 1 ≤ (nv : Int) := by omega
        have hln : (order ++ negs k).length ≤ 2000000000 := by rw [List.length_append, show (negs k).length = k by simp [negs]]; omega
        have HLN := hid hln
        clear hln
        obtain ⟨wo, hwo⟩ : ∃ wo : World, wo = wr := ⟨_, rfl⟩
        subst hwo
        have HA := hid (H.out.alloc (.cells #[.int .i64 (-((k : Int) + 1))] 3))
        go_wp2_with (at_builtin; refine wpList_of_wp rfl fun K hK => ?_; go_loud (refine wp_append_inv (d := Kind.int) _ _ 26 rfl Try.underlying26 infoInt rfl (by decide) 0 _ (order ++ negs k) [-((k : Int) + 1)] HA.out rfl rfl ⟨wo.heap.size, 0, none⟩ 1 1 rfl [.int .i64 (-((k : Int) + 1))] rfl (World.news_of_block (heap_alloc_new wo _)) (reps_enc [-((k : Int) + 1)]) (by omega) (by have := HLN.out; omega) (by have := HLN.out; omega) ?_); intro g1 cap1 w2 h2; have HI2 := hid h2; clear h2; refine hK _ _ ?_; clear hK K)
        go_roundg (gk - 1)
        case measure => have := HK.out; omega
        case rel => exact ⟨k + 1, by go_num, by omega, hid (by have := HK.out; omega), hid (by rw [negs_succ, ← List.append_assoc]; simpa using HI2.out)⟩
      · obtain rfl : k = nv := by omega
        go_wp2
        go_ret
        exact ⟨_, rfl, H.out.init (cs := [_])⟩
end Go.Proofs.Ytcglokippflioaa

/-! The document's word: is a model ahead of another one. -/
namespace Go.Proofs.Ytcglokippflioaa
open Go Go.RowKit YLib
theorem gi_cons (m : List Int) (v : Nat) (x : Int) (h : m[v]? = some x) : gi (0 :: m) ((v : Int) + 1) = x := by
  unfold gi
  rw [show (((v : Int) + 1)).toNat = v + 1 by omega, List.getD_eq_getElem?_getD, List.getElem?_cons_succ, h]
  rfl
theorem row_lit {n : Nat} {order : List Int} (ho : ∀ x ∈ order, litOk n x) : ∀ y ∈ order ++ negs n, litOk n y := by
  intro y hy
  rcases List.mem_append.1 hy with hy | hy
  · exact ho y hy
  · have := (negs_mem n y).1 hy
    exact ⟨by omega, by omega, by omega⟩
set_option maxRecDepth 100000 in
set_option maxHeartbeats 4000000 in
theorem RAhead_calls {w : World} {S S1 S2 : Nat → Prop} {Ac Ao A1 A2 : Option Addr} {nc cc co k1 k2 : Nat} {nv : Nat} {order am bm : List Int} (hv : nv ≤ 4096) (hol : order.length ≤ LIM) (ho : RowAt Kind.int w S Ao order) (hord : ∀ x ∈ order, litOk nv x)
    (h1 : RowAt Kind.int w S1 A1 am) (h2 : RowAt Kind.int w S2 A2 bm) (hl1 : am.length = nv) (hl2 : bm.length = nv) (hna : ¬ ahead (order ++ negs nv) (gi (0 :: am)) (gi (0 :: bm))) :
    Calls Try.prog 14 #[.agg #[.int .i64 nv, .slice Ac nc cc, .slice Ao order.length co], .slice A1 am.length k1, .slice A2 bm.length k2] w fun e w' => e = .returned (.bool false) ∧ Inv w NoM w' [] := by
  have H1 := hid h1
  have H2 := hid h2
  have HNA := hid hna
  have H0 := hid ((Inv.start0 w).boxc 28 [.int .i64 nv, .slice Ac nc cc, .slice Ao order.length co])
  have HRW := hid (RRow_calls (w := w.alloc (.cells #[.int .i64 nv, .slice Ac nc cc, .slice Ao order.length co] 28)) (Ac := Ac) (nc := nc) (cc := cc) (co := co) hv hol (ho.chg ((Chg.refl NoM w).alloc _) (fun _ _ => id)))
  have HLT := hid (row_lit hord)
  have hrl : (order ++ negs nv).length ≤ 2000000000 := by unfold LIM at hol; rw [List.length_append, show (negs nv).length = nv by simp [negs]]; omega
  rw [hl1, hl2]
  have HL1 := hid hl1
  have HL2 := hid hl2
  clear h1 h2 hna ho hord hl1 hl2
  generalize order ++ negs nv = row at *
  go_enter Try.func14, Try.ntmps14
  go_upto_region 2 with (go_at_call 21; refine HRW.out.mono ?_; rintro e w1 ⟨v, rfl, h3⟩; have H3 := hid (H0.out.join h3); obtain ⟨Al, cl, ev, hlc, _, _⟩ := h3.rowShape (i := 0) rfl; subst ev; clear h3)
  clear HRW H0
  go_wp2
  go_loopg [8] row.length (fun kq v8 wr => ∃ (i : Nat), v8 = .int .i64 i ∧ i ≤ row.length ∧ Hid (kq + i = row.length) ∧ Hid (∀ y ∈ row.take i, gi (0 :: am) (size y) = gi (0 :: bm) (size y)) ∧ Hid (YLib.Inv w NoM wr [rowP Kind.int 3 (.slice Al row.length cl) row, blkP w.heap.size 28 [.int .i64 nv, .slice Ac nc cc, .slice Ao order.length co]]))
  case atStart => exact ⟨0, rfl, by omega, hid rfl, hid (fun y hy => by simp at hy), H3⟩
  case round =>
    clear H3
    obtain ⟨i, rfl, hi, HK, HE, H⟩ := hrel
    by_cases hlt : i < row.length
    · have hlt' : (i : Int) < (row.length : Int) := by omega
      obtain ⟨l, hl⟩ : ∃ l, row[i]? = some l := ⟨_, List.getElem?_eq_getElem hlt⟩
      have HL := hid hl
      obtain ⟨_, _, e1, _, _, hrr⟩ := H.out.rowShape (i := 0) rfl
      cases e1
      obtain ⟨bl, ol, rfl, hlc1⟩ := intAt hrr hl
      have hlo := HLT.out l (List.mem_of_getElem? hl)
      obtain ⟨s1, s2, s3, s4, s5⟩ := size_lit hlo (by omega)
      have HAB := hid (rabs_calls l (by omega) (by omega))
      obtain ⟨m, hm⟩ := Int.eq_ofNat_of_zero_le (show 0 ≤ size l - 1 by omega)
      have hm1 : (m : Int) < (nv : Int) := by omega
      have hw1 : wrap64 (size l - 1) = (m : Int) := (IntWalk.wrap64_in _ (by omega)).trans hm
      have hw2 : IntKind.i64.wrap (size l - 1) = (m : Int) := (IntWalk.i64_in _ (by omega)).trans hm
      have hw3 : IntKind.i64.wrap (m : Int) = (m : Int) := IntWalk.i64_in _ (by omega)
      obtain ⟨x, hx⟩ : ∃ x, am[m]? = some x := ⟨_, List.getElem?_eq_getElem (by have := HL1.out; omega)⟩
      obtain ⟨y, hy⟩ : ∃ y, bm[m]? = some y := ⟨_, List.getElem?_eq_getElem (by have := HL2.out; omega)⟩
      obtain ⟨b1, o1, rfl, hxc⟩ := intAt (H1.out.chg H.out.chg (fun _ _ => id)) hx
      obtain ⟨b2, o2, rfl, hyc⟩ := intAt (H2.out.chg H.out.chg (fun _ _ => id)) hy
      have hga : gi (0 :: am) (size l) = x := by rw [show size l = (m : Int) + 1 by omega]; exact gi_cons am m x hx
      have hgb : gi (0 :: bm) (size l) = y := by rw [show size l = (m : Int) + 1 by omega]; exact gi_cons bm m y hy
      have HGA := hid hga
      have HGB := hid hgb
      clear hl hrr hx hy hga hgb
      have hlc := hlc1
      go_upto_region 6 with (go_at_call 16; refine (HAB.out _).mono ?_; rintro e w' ⟨rfl, rfl⟩)
      by_cases hxy : x = y
      · have hxb : (x != y) = false := by simpa using hxy
        have hE : ∀ z ∈ row.take (i + 1), gi (0 :: am) (size z) = gi (0 :: bm) (size z) := by
          intro z hz
          rw [List.take_add_one, HL.out] at hz
          rcases List.mem_append.1 hz with hz | hz
          · exact HE.out z hz
          · obtain rfl : z = l := by simpa using hz
            rw [HGA.out, HGB.out, hxy]
        have HE2 := hid hE
        clear hE
        refine wp_region_noPanic ?_
        refine wp_region_held_drew (S := (fun w' => w'.cell? ⟨b1, o1 + m, none⟩ = some (.int .i64 x) ∧ w'.cell? ⟨b2, o2 + m, none⟩ = some (.int .i64 y))) (by kernel_rfl) ?_ (fun hHeld => ?_)
        · exact ⟨hxc, hyc⟩
        refine takeE (i := 0) 24 (by rw [List.getElem?_toArray]; rfl) rfl (by kernel_rfl) (by kernel_rfl) (by kernel_rfl) (fun _ _ _ _ h => h) (by rfl) hHeld ?_
        apply Exists.intro
        apply And.intro
        focus (intro w' hSw; obtain ⟨s0, s1⟩ := hSw; go_simp; try with_reducible rfl)
        try simp only [List.setIfInBounds_toArray, List.set_cons_zero, List.set_cons_succ]
        refine takeE (i := 1) 25 (by rw [List.getElem?_toArray]; rfl) rfl (by kernel_rfl) (by kernel_rfl) (by kernel_rfl) (fun _ _ _ _ h => h) (by rfl) hHeld ?_
        apply Exists.intro
        apply And.intro
        focus (intro w' hSw; obtain ⟨s0, s1⟩ := hSw; go_simp; try with_reducible rfl)
        try simp only [List.setIfInBounds_toArray, List.set_cons_zero, List.set_cons_succ]
        refine takeE (i := 2) 26 (by rw [List.getElem?_toArray]; rfl) rfl (by kernel_rfl) (by kernel_rfl) (by kernel_rfl) (fun _ _ _ _ h => h) (by rfl) hHeld ?_
        apply Exists.intro
        apply And.intro
        focus (intro w' hSw; obtain ⟨s0, s1⟩ := hSw; go_simp; try with_reducible rfl)
        try simp only [List.setIfInBounds_toArray, List.set_cons_zero, List.set_cons_succ]
        refine takeE (i := 3) 27 (by rw [List.getElem?_toArray]; rfl) rfl (by kernel_rfl) (by kernel_rfl) (by kernel_rfl) (fun _ _ _ _ h => h) (by rfl) hHeld ?_
        apply Exists.intro
        apply And.intro
        focus (intro w' hSw; obtain ⟨s0, s1⟩ := hSw; go_simp; try with_reducible rfl)
        try simp only [List.setIfInBounds_toArray, List.set_cons_zero, List.set_cons_succ]
        refine takeE (i := 4) 28 (by rw [List.getElem?_toArray]; rfl) rfl (by kernel_rfl) (by kernel_rfl) (by kernel_rfl) (fun _ _ _ _ h => h) (by rfl) hHeld ?_
        apply Exists.intro
        apply And.intro
        focus (intro w' hSw; obtain ⟨s0, s1⟩ := hSw; go_simp; try with_reducible rfl)
        try simp only [List.setIfInBounds_toArray, List.set_cons_zero, List.set_cons_succ]
        refine takeE (i := 5) 29 (by rw [List.getElem?_toArray]; rfl) rfl (by kernel_rfl) (by kernel_rfl) (by kernel_rfl) (fun _ _ _ _ h => h) (by rfl) hHeld ?_
        apply Exists.intro
        apply And.intro
        focus (intro w' hSw; obtain ⟨s0, s1⟩ := hSw; go_simp; try with_reducible rfl)
        try simp only [List.setIfInBounds_toArray, List.set_cons_zero, List.set_cons_succ]
        refine takeE (i := 6) 30 (by rw [List.getElem?_toArray]; rfl) rfl (by kernel_rfl) (by kernel_rfl) (by kernel_rfl) (fun _ _ _ _ h => h) (by rfl) hHeld ?_
        apply Exists.intro
        apply And.intro
        focus (intro w' hSw; obtain ⟨s0, s1⟩ := hSw; go_simp; try with_reducible rfl)
        try simp only [List.setIfInBounds_toArray, List.set_cons_zero, List.set_cons_succ]
        refine takeE (i := 7) 31 (by rw [List.getElem?_toArray]; rfl) rfl (by kernel_rfl) (by kernel_rfl) (by kernel_rfl) (fun _ _ _ _ h => h) (by rfl) hHeld ?_
        apply Exists.intro
        apply And.intro
        focus (intro w' hSw; obtain ⟨s0, s1⟩ := hSw; go_simp; try with_reducible rfl)
        try simp only [List.setIfInBounds_toArray, List.set_cons_zero, List.set_cons_succ]
        refine takeE (i := 8) 32 (by rw [List.getElem?_toArray]; rfl) rfl (by kernel_rfl) (by kernel_rfl) (by kernel_rfl) (fun _ _ _ _ h => h) (by rfl) hHeld ?_
        apply Exists.intro
        apply And.intro
        focus (intro w' hSw; obtain ⟨s0, s1⟩ := hSw; go_simp; try with_reducible rfl)
        try simp only [List.setIfInBounds_toArray, List.set_cons_zero, List.set_cons_succ]
        refine wpAnyH_done (by kernel_rfl) ?_ _
        refine NoPanic.normal ?_
        go_wp2
        go_roundg (gk - 1)
        case measure => have := HK.out; omega
        case rel => exact ⟨i + 1, by go_num, by omega, hid (by have := HK.out; omega), HE2, hid H.out.drew⟩
      · have hxb : (x != y) = true := by simpa using hxy
        have hxl : x ≠ l := by
          intro e
          refine HNA.out ⟨row.take i, l, row.drop (i + 1), ?_, HE.out, by rw [HGA.out, e], by rw [HGB.out]; omega⟩
          have h1 := (List.getElem?_eq_some_iff.1 HL.out).2
          rw [← h1, ← List.drop_eq_getElem_cons hlt, List.take_append_drop]
        have hxlb : (x == l) = false := by simpa using hxl
        refine wp_region_noPanic ?_
        refine wp_region_held_drew (S := (fun w' => w'.cell? ⟨b1, o1 + m, none⟩ = some (.int .i64 x) ∧ w'.cell? ⟨b2, o2 + m, none⟩ = some (.int .i64 y))) (by kernel_rfl) ?_ (fun hHeld => ?_)
        · exact ⟨hxc, hyc⟩
        refine takeE (i := 0) 24 (by rw [List.getElem?_toArray]; rfl) rfl (by kernel_rfl) (by kernel_rfl) (by kernel_rfl) (fun _ _ _ _ h => h) (by rfl) hHeld ?_
        apply Exists.intro
        apply And.intro
        focus (intro w' hSw; obtain ⟨s0, s1⟩ := hSw; go_simp; try with_reducible rfl)
        try simp only [List.setIfInBounds_toArray, List.set_cons_zero, List.set_cons_succ]
        refine takeE (i := 1) 25 (by rw [List.getElem?_toArray]; rfl) rfl (by kernel_rfl) (by kernel_rfl) (by kernel_rfl) (fun _ _ _ _ h => h) (by rfl) hHeld ?_
        apply Exists.intro
        apply And.intro
        focus (intro w' hSw; obtain ⟨s0, s1⟩ := hSw; go_simp; try with_reducible rfl)
        try simp only [List.setIfInBounds_toArray, List.set_cons_zero, List.set_cons_succ]
        refine takeE (i := 2) 26 (by rw [List.getElem?_toArray]; rfl) rfl (by kernel_rfl) (by kernel_rfl) (by kernel_rfl) (fun _ _ _ _ h => h) (by rfl) hHeld ?_
        apply Exists.intro
        apply And.intro
        focus (intro w' hSw; obtain ⟨s0, s1⟩ := hSw; go_simp; try with_reducible rfl)
        try simp only [List.setIfInBounds_toArray, List.set_cons_zero, List.set_cons_succ]
        refine takeE (i := 3) 27 (by rw [List.getElem?_toArray]; rfl) rfl (by kernel_rfl) (by kernel_rfl) (by kernel_rfl) (fun _ _ _ _ h => h) (by rfl) hHeld ?_
        apply Exists.intro
        apply And.intro
        focus (intro w' hSw; obtain ⟨s0, s1⟩ := hSw; go_simp; try with_reducible rfl)
        try simp only [List.setIfInBounds_toArray, List.set_cons_zero, List.set_cons_succ]
        refine takeE (i := 4) 28 (by rw [List.getElem?_toArray]; rfl) rfl (by kernel_rfl) (by kernel_rfl) (by kernel_rfl) (fun _ _ _ _ h => h) (by rfl) hHeld ?_
        apply Exists.intro
        apply And.intro
        focus (intro w' hSw; obtain ⟨s0, s1⟩ := hSw; go_simp; try with_reducible rfl)
        try simp only [List.setIfInBounds_toArray, List.set_cons_zero, List.set_cons_succ]
        refine takeE (i := 5) 29 (by rw [List.getElem?_toArray]; rfl) rfl (by kernel_rfl) (by kernel_rfl) (by kernel_rfl) (fun _ _ _ _ h => h) (by rfl) hHeld ?_
        apply Exists.intro
        apply And.intro
        focus (intro w' hSw; obtain ⟨s0, s1⟩ := hSw; go_simp; try with_reducible rfl)
        try simp only [List.setIfInBounds_toArray, List.set_cons_zero, List.set_cons_succ]
        refine takeE (i := 6) 30 (by rw [List.getElem?_toArray]; rfl) rfl (by kernel_rfl) (by kernel_rfl) (by kernel_rfl) (fun _ _ _ _ h => h) (by rfl) hHeld ?_
        apply Exists.intro
        apply And.intro
        focus (intro w' hSw; obtain ⟨s0, s1⟩ := hSw; go_simp; try with_reducible rfl)
        try simp only [List.setIfInBounds_toArray, List.set_cons_zero, List.set_cons_succ]
        refine takeE (i := 7) 31 (by rw [List.getElem?_toArray]; rfl) rfl (by kernel_rfl) (by kernel_rfl) (by kernel_rfl) (fun _ _ _ _ h => h) (by rfl) hHeld ?_
        apply Exists.intro
        apply And.intro
        focus (intro w' hSw; obtain ⟨s0, s1⟩ := hSw; go_simp; try with_reducible rfl)
        try simp only [List.setIfInBounds_toArray, List.set_cons_zero, List.set_cons_succ]
        refine takeE (i := 8) 32 (by rw [List.getElem?_toArray]; rfl) rfl (by kernel_rfl) (by kernel_rfl) (by kernel_rfl) (fun _ _ _ _ h => h) (by rfl) hHeld ?_
        apply Exists.intro
        apply And.intro
        focus (intro w' hSw; obtain ⟨s0, s1⟩ := hSw; go_simp; try with_reducible rfl)
        try simp only [List.setIfInBounds_toArray, List.set_cons_zero, List.set_cons_succ]
        refine wpAnyH_done (by kernel_rfl) ?_ _
        refine NoPanic.normal ?_
        go_wp2
        have hxc : wr.drew.cell? ⟨b1, o1 + m, none⟩ = some (.int .i64 x) := hxc
        have hlc : wr.drew.cell? ⟨bl, ol + i, none⟩ = some (.int .i64 l) := hlc1
        refine wp_region_noPanic ?_
        refine wp_region_held_drew (S := (fun w' => w'.cell? ⟨b1, o1 + m, none⟩ = some (.int .i64 x) ∧ w'.cell? ⟨bl, ol + i, none⟩ = some (.int .i64 l))) (by kernel_rfl) ?_ (fun hHeld => ?_)
        · exact ⟨hxc, hlc⟩
        refine takeE (i := 0) 33 (by rw [List.getElem?_toArray]; rfl) rfl (by kernel_rfl) (by kernel_rfl) (by kernel_rfl) (fun _ _ _ _ h => h) (by rfl) hHeld ?_
        apply Exists.intro
        apply And.intro
        focus (intro w' hSw; obtain ⟨s0, s1⟩ := hSw; go_simp; try with_reducible rfl)
        try simp only [List.setIfInBounds_toArray, List.set_cons_zero, List.set_cons_succ]
        refine takeE (i := 1) 34 (by rw [List.getElem?_toArray]; rfl) rfl (by kernel_rfl) (by kernel_rfl) (by kernel_rfl) (fun _ _ _ _ h => h) (by rfl) hHeld ?_
        apply Exists.intro
        apply And.intro
        focus (intro w' hSw; obtain ⟨s0, s1⟩ := hSw; go_simp; try with_reducible rfl)
        try simp only [List.setIfInBounds_toArray, List.set_cons_zero, List.set_cons_succ]
        refine takeE (i := 2) 35 (by rw [List.getElem?_toArray]; rfl) rfl (by kernel_rfl) (by kernel_rfl) (by kernel_rfl) (fun _ _ _ _ h => h) (by rfl) hHeld ?_
        apply Exists.intro
        apply And.intro
        focus (intro w' hSw; obtain ⟨s0, s1⟩ := hSw; go_simp; try with_reducible rfl)
        try simp only [List.setIfInBounds_toArray, List.set_cons_zero, List.set_cons_succ]
        refine takeE (i := 3) 36 (by rw [List.getElem?_toArray]; rfl) rfl (by kernel_rfl) (by kernel_rfl) (by kernel_rfl) (fun _ _ _ _ h => h) (by rfl) hHeld ?_
        apply Exists.intro
        apply And.intro
        focus (intro w' hSw; obtain ⟨s0, s1⟩ := hSw; go_simp; try with_reducible rfl)
        try simp only [List.setIfInBounds_toArray, List.set_cons_zero, List.set_cons_succ]
        refine takeE (i := 4) 37 (by rw [List.getElem?_toArray]; rfl) rfl (by kernel_rfl) (by kernel_rfl) (by kernel_rfl) (fun _ _ _ _ h => h) (by rfl) hHeld ?_
        apply Exists.intro
        apply And.intro
        focus (intro w' hSw; obtain ⟨s0, s1⟩ := hSw; go_simp; try with_reducible rfl)
        try simp only [List.setIfInBounds_toArray, List.set_cons_zero, List.set_cons_succ]
        refine takeE (i := 5) 38 (by rw [List.getElem?_toArray]; rfl) rfl (by kernel_rfl) (by kernel_rfl) (by kernel_rfl) (fun _ _ _ _ h => h) (by rfl) hHeld ?_
        apply Exists.intro
        apply And.intro
        focus (intro w' hSw; obtain ⟨s0, s1⟩ := hSw; go_simp; try with_reducible rfl)
        try simp only [List.setIfInBounds_toArray, List.set_cons_zero, List.set_cons_succ]
        refine takeE (i := 6) 39 (by rw [List.getElem?_toArray]; rfl) rfl (by kernel_rfl) (by kernel_rfl) (by kernel_rfl) (fun _ _ _ _ h => h) (by rfl) hHeld ?_
        apply Exists.intro
        apply And.intro
        focus (intro w' hSw; obtain ⟨s0, s1⟩ := hSw; go_simp; try with_reducible rfl)
        try simp only [List.setIfInBounds_toArray, List.set_cons_zero, List.set_cons_succ]
        refine takeE (i := 7) 40 (by rw [List.getElem?_toArray]; rfl) rfl (by kernel_rfl) (by kernel_rfl) (by kernel_rfl) (fun _ _ _ _ h => h) (by rfl) hHeld ?_
        apply Exists.intro
        apply And.intro
        focus (intro w' hSw; obtain ⟨s0, s1⟩ := hSw; go_simp; try with_reducible rfl)
        try simp only [List.setIfInBounds_toArray, List.set_cons_zero, List.set_cons_succ]
        refine takeE (i := 8) 41 (by rw [List.getElem?_toArray]; rfl) rfl (by kernel_rfl) (by kernel_rfl) (by kernel_rfl) (fun _ _ _ _ h => h) (by rfl) hHeld ?_
        apply Exists.intro
        apply And.intro
        focus (intro w' hSw; obtain ⟨s0, s1⟩ := hSw; go_simp; try with_reducible rfl)
        try simp only [List.setIfInBounds_toArray, List.set_cons_zero, List.set_cons_succ]
        refine takeE (i := 9) 6 (by rw [List.getElem?_toArray]; rfl) rfl (by kernel_rfl) (by kernel_rfl) (by kernel_rfl) (fun _ _ _ _ h => h) (by rfl) hHeld ?_
        apply Exists.intro
        apply And.intro
        focus (intro w' hSw; obtain ⟨s0, s1⟩ := hSw; go_simp; try with_reducible rfl)
        try simp only [List.setIfInBounds_toArray, List.set_cons_zero, List.set_cons_succ]
        refine wpAnyH_done (by kernel_rfl) ?_ _
        refine NoPanic.normal ?_
        go_wp2
        go_ret
        exact ⟨rfl, H.out.tail.tail.drew.drew⟩
    · obtain rfl : i = row.length := by omega
      go_wp2
      go_ret
      exact ⟨rfl, H.out.tail.tail⟩
end Go.Proofs.Ytcglokippflioaa

/-! The document's word: a formula holds by a model. -/
namespace Go.Proofs.Ytcglokippflioaa
open Go Go.RowKit YLib
theorem fitC_lit' {vars : Int} {l : List Int} (h : fitC vars l) {i : Nat} {x : Int} (hx : l[i]? = some x) : litOk vars x := by
  obtain ⟨hi, rfl⟩ := List.getElem?_eq_some_iff.1 hx
  exact (h i hi).1
/-- Does one of some literals stand in a model? -/
def anyT (m : List Int) (l : List Int) : Bool := l.any fun x => gi (0 :: m) (size x) == x
set_option maxRecDepth 100000 in
set_option maxHeartbeats 8000000 in
theorem RHolds_calls {w : World} {S S1 : Nat → Prop} {Ac Ao A1 : Option Addr} {cc co k1 : Nat} {nv : Nat} {fcl : List Cl} {order am : List Int} (hf : fitF nv fcl order) (hc : RowAt cK w S Ac fcl) (ho : RowAt Kind.int w S Ao order) (hl : ∀ c ∈ fcl, c.lits.length ≤ 9223372036854775807) (hol : order.length ≤ 9223372036854775807)
    (h1 : RowAt Kind.int w S1 A1 am) (hl1 : am.length = nv) (hm : modRow am) (hs : ∀ c ∈ fcl, anyT am c.lits = true) :
    Calls Try.prog 13 #[.agg #[.int .i64 nv, .slice Ac fcl.length cc, .slice Ao order.length co], .slice A1 am.length k1] w fun e w' => e = .returned (.bool true) ∧ Inv w NoM w' [] := by
  obtain ⟨hv0, hv, hn, hcl, hlit, hnd⟩ := id hf
  have hcn : fcl.length ≤ 9223372036854775807 := by omega
  have H0 := hid ((Inv.start0 w).boxc 28 [.int .i64 nv, .slice Ac fcl.length cc, .slice Ao order.length co])
  have HFT := hid (RFit_calls (w := w.alloc (.cells #[.int .i64 nv, .slice Ac fcl.length cc, .slice Ao order.length co] 28)) (cc := cc) (co := co) (vars := nv) (hc.chg ((Chg.refl NoM w).alloc _) (fun _ _ => id)) (ho.chg ((Chg.refl NoM w).alloc _) (fun _ _ => id)) hl hol hcn)
  have HF := hid hf
  have HC := hid hc
  have HL := hid hl
  have HCL := hid hcl
  have HM := hid (fun (W : World) (hW : Chg NoM w W) => RModel_calls (w := W) (cap := k1) (by omega) hm (h1.chg hW (fun _ _ => id)))
  have H1 := hid h1
  have HS := hid hs
  rw [hl1] at HM ⊢
  have HL1 := hid hl1
  clear hc ho hl h1 hm hs hf hcl hlit hnd hl1
  go_enter Try.func13, Try.ntmps13
  go_upto_region 3 with (first
    | (go_at_call 8; refine HFT.out.mono ?_; rintro e w1 ⟨⟨bb, rfl, hbb⟩, h2⟩; have hbt := hbb.2 HF.out; subst hbt; clear hbb; have H2 := hid (H0.out.join h2); have hf0 := (H2.out.cell (i := 0) rfl 0 rfl).1; clear h2)
    | (go_at_call 20; refine (HM.out _ H2.out.chg).mono ?_; rintro e w' ⟨rfl, rfl⟩))
  clear HFT HM H0
  go_wp2
  go_loopg [5] fcl.length (fun kq v5 wr => ∃ (k : Nat), v5 = .int .i64 k ∧ k ≤ fcl.length ∧ Hid (kq + k = fcl.length) ∧ Hid (YLib.Inv w NoM wr [blkP w.heap.size 28 [.int .i64 nv, .slice Ac fcl.length cc, .slice Ao order.length co]]))
  case atStart => exact ⟨0, rfl, by omega, hid rfl, H2⟩
  case round =>
    clear H2
    obtain ⟨k, rfl, hk, HK, H⟩ := hrel
    obtain ⟨gO, rfl⟩ : ∃ g, g = gk := ⟨_, rfl⟩
    have hb1 := (H.out.cell (i := 0) rfl 1 rfl).1
    by_cases hlt : k < fcl.length
    · obtain ⟨c, hcc⟩ : ∃ c, fcl[k]? = some c := ⟨_, List.getElem?_eq_getElem hlt⟩
      have hcm := List.mem_of_getElem? hcc
      have hfc := HCL.out c hcm
      have hsc := HS.out c hcm
      obtain ⟨cb, cof, A', c', rfl, hc1, hc2, hle, hr⟩ := cAt (HC.out.chg H.out.chg (fun _ _ => id)) hcc
      have hla := HL.out c hcm
      have HR := hid hr
      have HFC := hid hfc
      have HSC := hid hsc
      clear hcc hr hfc hsc hcm
      obtain ⟨nl, hnl⟩ : ∃ n, c.lits.length = n := ⟨_, rfl⟩
      rw [hnl] at hc1 hle hla
      have HN := hid hnl
      clear hnl
      obtain ⟨wO, rfl⟩ : ∃ W, W = wr := ⟨_, rfl⟩
      go_wp2
      go_loopg [7, 8] nl (fun kq v7 v8 wr => ∃ (j : Nat), v8 = .int .i64 j ∧ j ≤ nl ∧ v7 = .bool (anyT am (c.lits.take j)) ∧ Hid (kq + j = nl) ∧ Hid (Gro wO wr) ∧ Hid (YLib.Inv w NoM wr [blkP w.heap.size 28 [.int .i64 nv, .slice (some ⟨cb, cof, none⟩) fcl.length cc, .slice Ao order.length co]]))
      case atStart => exact ⟨0, rfl, by omega, rfl, hid rfl, hid (Gro.refl _), H⟩
      case round =>
        clear H hb1 hc1 hc2
        obtain ⟨j, rfl, hj, rfl, HKJ, HG, H⟩ := hrel
        by_cases hjl : j < nl
        · have hjl1 : (j : Int) < (nl : Int) := by omega
          obtain ⟨x, hx⟩ : ∃ x, c.lits[j]? = some x := ⟨_, List.getElem?_eq_getElem (by have := HN.out; omega)⟩
          have hlx := fitC_lit' HFC.out hx
          obtain ⟨s1, s2, s3, s4, s5⟩ := size_lit hlx hv
          have HAB := hid (rabs_calls x (by omega) (by omega))
          obtain ⟨m, hm⟩ := Int.eq_ofNat_of_zero_le (show 0 ≤ size x - 1 by omega)
          have hm1 : (m : Int) < (nv : Int) := by omega
          have hw2 : IntKind.i64.wrap (size x - 1) = (m : Int) := (IntWalk.i64_in _ (by omega)).trans hm
          have hw3 : IntKind.i64.wrap (m : Int) = (m : Int) := IntWalk.i64_in _ (by omega)
          obtain ⟨y, hy⟩ : ∃ y, am[m]? = some y := ⟨_, List.getElem?_eq_getElem (by have := HL1.out; omega)⟩
          obtain ⟨b, o, rfl, hxc⟩ := intAt (HG.out.row HR.out) hx
          obtain ⟨b1, o1, rfl, hyc⟩ := intAt (H1.out.chg H.out.chg (fun _ _ => id)) hy
          have hga : gi (0 :: am) (size x) = y := by rw [show size x = (m : Int) + 1 by omega]; exact gi_cons am m y hy
          have hsn : anyT am (c.lits.take (j + 1)) = (anyT am (c.lits.take j) || (y == x)) := by
            rw [List.take_add_one, hx]
            unfold anyT
            rw [List.any_append]
            simp [hga]
          have HSN := hid hsn
          clear hsn hga hx hy
          obtain ⟨av, hav⟩ : ∃ v, anyT am (c.lits.take j) = v := ⟨_, rfl⟩
          rw [hav] at HSN ⊢
          clear hav
          go_wp2
          cases av with
          | true =>
            have hsn2 : anyT am (c.lits.take (j + 1)) = true := HSN.out
            have HSN2 := hid hsn2
            clear hsn2
            refine wp_region_noPanic ?_
            refine wp_region_held_drew (S := (fun w' => w'.cell? ⟨b, o + j, none⟩ = some (.int .i64 x) ∧ w'.cell? ⟨b1, o1 + m, none⟩ = some (.int .i64 y))) (by kernel_rfl) ?_ (fun hHeld => ?_)
            · exact ⟨hxc, hyc⟩
            refine takeE (i := 0) 38 (by rw [List.getElem?_toArray]; rfl) rfl (by kernel_rfl) (by kernel_rfl) (by kernel_rfl) (fun _ _ _ _ h => h) (by rfl) hHeld ?_
            apply Exists.intro
            apply And.intro
            focus (intro w' hSw; obtain ⟨s0, s1⟩ := hSw; go_simp; try with_reducible rfl)
            try simp only [List.setIfInBounds_toArray, List.set_cons_zero, List.set_cons_succ]
            refine takeE (i := 1) 39 (by rw [List.getElem?_toArray]; rfl) rfl (by kernel_rfl) (by kernel_rfl) (by kernel_rfl) (fun _ _ _ _ h => h) (by rfl) hHeld ?_
            apply Exists.intro
            apply And.intro
            focus (intro w' hSw; obtain ⟨s0, s1⟩ := hSw; go_simp; try with_reducible rfl)
            try simp only [List.setIfInBounds_toArray, List.set_cons_zero, List.set_cons_succ]
            first
              | (refine skipH (i := 2) 40 (by rw [List.getElem?_toArray]; rfl) rfl (by kernel_rfl) (by kernel_rfl) (by kernel_rfl) (fun _ _ _ h => h) (by rfl) hHeld ?_)
              | (refine takeE (i := 2) 40 (by rw [List.getElem?_toArray]; rfl) rfl (by kernel_rfl) (by kernel_rfl) (by kernel_rfl) (fun _ _ _ _ h => h) (by rfl) hHeld ?_
                 apply Exists.intro
                 apply And.intro
                 focus (intro w' hSw; obtain ⟨s0, s1⟩ := hSw; go_simp; try with_reducible rfl))
            try simp only [List.setIfInBounds_toArray, List.set_cons_zero, List.set_cons_succ]
            first
              | (refine skipH (i := 3) 41 (by rw [List.getElem?_toArray]; rfl) rfl (by kernel_rfl) (by kernel_rfl) (by kernel_rfl) (fun _ _ _ h => h) (by rfl) hHeld ?_)
              | (refine takeE (i := 3) 41 (by rw [List.getElem?_toArray]; rfl) rfl (by kernel_rfl) (by kernel_rfl) (by kernel_rfl) (fun _ _ _ _ h => h) (by rfl) hHeld ?_
                 apply Exists.intro
                 apply And.intro
                 focus (intro w' hSw; obtain ⟨s0, s1⟩ := hSw; go_simp; try with_reducible rfl))
            try simp only [List.setIfInBounds_toArray, List.set_cons_zero, List.set_cons_succ]
            first
              | (refine skipH (i := 4) 42 (by rw [List.getElem?_toArray]; rfl) rfl (by kernel_rfl) (by kernel_rfl) (by kernel_rfl) (fun _ _ _ h => h) (by rfl) hHeld ?_)
              | (refine takeE (i := 4) 42 (by rw [List.getElem?_toArray]; rfl) rfl (by kernel_rfl) (by kernel_rfl) (by kernel_rfl) (fun _ _ _ _ h => h) (by rfl) hHeld ?_
                 apply Exists.intro
                 apply And.intro
                 focus (intro w' hSw; obtain ⟨s0, s1⟩ := hSw; go_simp; try with_reducible rfl))
            try simp only [List.setIfInBounds_toArray, List.set_cons_zero, List.set_cons_succ]
            first
              | (refine skipH (i := 5) 43 (by rw [List.getElem?_toArray]; rfl) rfl (by kernel_rfl) (by kernel_rfl) (by kernel_rfl) (fun _ _ _ h => h) (by rfl) hHeld ?_)
              | (refine takeE (i := 5) 43 (by rw [List.getElem?_toArray]; rfl) rfl (by kernel_rfl) (by kernel_rfl) (by kernel_rfl) (fun _ _ _ _ h => h) (by rfl) hHeld ?_
                 apply Exists.intro
                 apply And.intro
                 focus (intro w' hSw; obtain ⟨s0, s1⟩ := hSw; go_simp; try with_reducible rfl))
            try simp only [List.setIfInBounds_toArray, List.set_cons_zero, List.set_cons_succ]
            first
              | (refine skipH (i := 6) 44 (by rw [List.getElem?_toArray]; rfl) rfl (by kernel_rfl) (by kernel_rfl) (by kernel_rfl) (fun _ _ _ h => h) (by rfl) hHeld ?_)
              | (refine takeE (i := 6) 44 (by rw [List.getElem?_toArray]; rfl) rfl (by kernel_rfl) (by kernel_rfl) (by kernel_rfl) (fun _ _ _ _ h => h) (by rfl) hHeld ?_
                 apply Exists.intro
                 apply And.intro
                 focus (intro w' hSw; obtain ⟨s0, s1⟩ := hSw; go_simp; try with_reducible rfl))
            try simp only [List.setIfInBounds_toArray, List.set_cons_zero, List.set_cons_succ]
            first
              | (refine skipH (i := 11) 49 (by rw [List.getElem?_toArray]; rfl) rfl (by kernel_rfl) (by kernel_rfl) (by kernel_rfl) (fun _ _ _ h => h) (by rfl) hHeld ?_)
              | (refine takeE (i := 11) 49 (by rw [List.getElem?_toArray]; rfl) rfl (by kernel_rfl) (by kernel_rfl) (by kernel_rfl) (fun _ _ _ _ h => h) (by rfl) hHeld ?_
                 apply Exists.intro
                 apply And.intro
                 focus (intro w' hSw; obtain ⟨s0, s1⟩ := hSw; go_simp; try with_reducible rfl))
            try simp only [List.setIfInBounds_toArray, List.set_cons_zero, List.set_cons_succ]
            first
              | (refine skipH (i := 12) 50 (by rw [List.getElem?_toArray]; rfl) rfl (by kernel_rfl) (by kernel_rfl) (by kernel_rfl) (fun _ _ _ h => h) (by rfl) hHeld ?_)
              | (refine takeE (i := 12) 50 (by rw [List.getElem?_toArray]; rfl) rfl (by kernel_rfl) (by kernel_rfl) (by kernel_rfl) (fun _ _ _ _ h => h) (by rfl) hHeld ?_
                 apply Exists.intro
                 apply And.intro
                 focus (intro w' hSw; obtain ⟨s0, s1⟩ := hSw; go_simp; try with_reducible rfl))
            try simp only [List.setIfInBounds_toArray, List.set_cons_zero, List.set_cons_succ]
            first
              | (refine skipH (i := 13) 51 (by rw [List.getElem?_toArray]; rfl) rfl (by kernel_rfl) (by kernel_rfl) (by kernel_rfl) (fun _ _ _ h => h) (by rfl) hHeld ?_)
              | (refine takeE (i := 13) 51 (by rw [List.getElem?_toArray]; rfl) rfl (by kernel_rfl) (by kernel_rfl) (by kernel_rfl) (fun _ _ _ _ h => h) (by rfl) hHeld ?_
                 apply Exists.intro
                 apply And.intro
                 focus (intro w' hSw; obtain ⟨s0, s1⟩ := hSw; go_simp; try with_reducible rfl))
            try simp only [List.setIfInBounds_toArray, List.set_cons_zero, List.set_cons_succ]
            first
              | (refine skipH (i := 14) 52 (by rw [List.getElem?_toArray]; rfl) rfl (by kernel_rfl) (by kernel_rfl) (by kernel_rfl) (fun _ _ _ h => h) (by rfl) hHeld ?_)
              | (refine takeE (i := 14) 52 (by rw [List.getElem?_toArray]; rfl) rfl (by kernel_rfl) (by kernel_rfl) (by kernel_rfl) (fun _ _ _ _ h => h) (by rfl) hHeld ?_
                 apply Exists.intro
                 apply And.intro
                 focus (intro w' hSw; obtain ⟨s0, s1⟩ := hSw; go_simp; try with_reducible rfl))
            try simp only [List.setIfInBounds_toArray, List.set_cons_zero, List.set_cons_succ]
            first
              | (refine skipH (i := 7) 45 (by rw [List.getElem?_toArray]; rfl) rfl (by kernel_rfl) (by kernel_rfl) (by kernel_rfl) (fun _ _ _ h => h) (by rfl) hHeld ?_)
              | (refine callH (i := 7) (some 45) (by rw [List.getElem?_toArray]; rfl) rfl (by kernel_rfl) (by rfl) fun K hK => ?_
                 go_simp
                 refine (HAB.out _).mono ?_
                 rintro e w' ⟨rfl, rfl⟩
                 refine hK (.int .i64 (size x)) _ hHeld ?_
                 clear hK K)
            try simp only [List.setIfInBounds_toArray, List.set_cons_zero, List.set_cons_succ]
            first
              | (refine skipH (i := 8) 46 (by rw [List.getElem?_toArray]; rfl) rfl (by kernel_rfl) (by kernel_rfl) (by kernel_rfl) (fun _ _ _ h => h) (by rfl) hHeld ?_)
              | (refine takeE (i := 8) 46 (by rw [List.getElem?_toArray]; rfl) rfl (by kernel_rfl) (by kernel_rfl) (by kernel_rfl) (fun _ _ _ _ h => h) (by rfl) hHeld ?_
                 apply Exists.intro
                 apply And.intro
                 focus (intro w' hSw; obtain ⟨s0, s1⟩ := hSw; go_simp; try with_reducible rfl))
            try simp only [List.setIfInBounds_toArray, List.set_cons_zero, List.set_cons_succ]
            first
              | (refine skipH (i := 9) 47 (by rw [List.getElem?_toArray]; rfl) rfl (by kernel_rfl) (by kernel_rfl) (by kernel_rfl) (fun _ _ _ h => h) (by rfl) hHeld ?_)
              | (refine takeE (i := 9) 47 (by rw [List.getElem?_toArray]; rfl) rfl (by kernel_rfl) (by kernel_rfl) (by kernel_rfl) (fun _ _ _ _ h => h) (by rfl) hHeld ?_
                 apply Exists.intro
                 apply And.intro
                 focus (intro w' hSw; obtain ⟨s0, s1⟩ := hSw; go_simp; try with_reducible rfl))
            try simp only [List.setIfInBounds_toArray, List.set_cons_zero, List.set_cons_succ]
            first
              | (refine skipH (i := 10) 48 (by rw [List.getElem?_toArray]; rfl) rfl (by kernel_rfl) (by kernel_rfl) (by kernel_rfl) (fun _ _ _ h => h) (by rfl) hHeld ?_)
              | (refine takeE (i := 10) 48 (by rw [List.getElem?_toArray]; rfl) rfl (by kernel_rfl) (by kernel_rfl) (by kernel_rfl) (fun _ _ _ _ h => h) (by rfl) hHeld ?_
                 apply Exists.intro
                 apply And.intro
                 focus (intro w' hSw; obtain ⟨s0, s1⟩ := hSw; go_simp; try with_reducible rfl))
            try simp only [List.setIfInBounds_toArray, List.set_cons_zero, List.set_cons_succ]
            first
              | (refine skipH (i := 15) 53 (by rw [List.getElem?_toArray]; rfl) rfl (by kernel_rfl) (by kernel_rfl) (by kernel_rfl) (fun _ _ _ h => h) (by rfl) hHeld ?_)
              | (refine takeE (i := 15) 53 (by rw [List.getElem?_toArray]; rfl) rfl (by kernel_rfl) (by kernel_rfl) (by kernel_rfl) (fun _ _ _ _ h => h) (by rfl) hHeld ?_
                 apply Exists.intro
                 apply And.intro
                 focus (intro w' hSw; obtain ⟨s0, s1⟩ := hSw; go_simp; try with_reducible rfl))
            try simp only [List.setIfInBounds_toArray, List.set_cons_zero, List.set_cons_succ]
            refine takeE (i := 16) 54 (by rw [List.getElem?_toArray]; rfl) rfl (by kernel_rfl) (by kernel_rfl) (by kernel_rfl) (fun _ _ _ _ h => h) (by rfl) hHeld ?_
            apply Exists.intro
            apply And.intro
            focus (intro w' hSw; obtain ⟨s0, s1⟩ := hSw; go_simp; try with_reducible rfl)
            try simp only [List.setIfInBounds_toArray, List.set_cons_zero, List.set_cons_succ]
            refine takeE (i := 17) 7 (by rw [List.getElem?_toArray]; rfl) rfl (by kernel_rfl) (by kernel_rfl) (by kernel_rfl) (fun _ _ _ _ h => h) (by rfl) hHeld ?_
            apply Exists.intro
            apply And.intro
            focus (intro w' hSw; obtain ⟨s0, s1⟩ := hSw; go_simp; try with_reducible rfl)
            try simp only [List.setIfInBounds_toArray, List.set_cons_zero, List.set_cons_succ]
            refine wpAnyH_done (by kernel_rfl) ?_ _
            refine NoPanic.normal ?_
            go_wp2
            go_roundg (gk - 1)
            case measure => have := HKJ.out; omega
            case rel => exact ⟨j + 1, by go_num, by omega, by rw [HSN2.out], hid (by have := HKJ.out; omega), hid HG.out.drew, hid H.out.drew⟩
          | false =>
            have hsn2 : anyT am (c.lits.take (j + 1)) = (y == x) := by rw [HSN.out, Bool.false_or]
            have HSN2 := hid hsn2
            clear hsn2
            refine wp_region_noPanic ?_
            refine wp_region_held_drew (S := (fun w' => w'.cell? ⟨b, o + j, none⟩ = some (.int .i64 x) ∧ w'.cell? ⟨b1, o1 + m, none⟩ = some (.int .i64 y))) (by kernel_rfl) ?_ (fun hHeld => ?_)
            · exact ⟨hxc, hyc⟩
            refine takeE (i := 0) 38 (by rw [List.getElem?_toArray]; rfl) rfl (by kernel_rfl) (by kernel_rfl) (by kernel_rfl) (fun _ _ _ _ h => h) (by rfl) hHeld ?_
            apply Exists.intro
            apply And.intro
            focus (intro w' hSw; obtain ⟨s0, s1⟩ := hSw; go_simp; try with_reducible rfl)
            try simp only [List.setIfInBounds_toArray, List.set_cons_zero, List.set_cons_succ]
            refine takeE (i := 1) 39 (by rw [List.getElem?_toArray]; rfl) rfl (by kernel_rfl) (by kernel_rfl) (by kernel_rfl) (fun _ _ _ _ h => h) (by rfl) hHeld ?_
            apply Exists.intro
            apply And.intro
            focus (intro w' hSw; obtain ⟨s0, s1⟩ := hSw; go_simp; try with_reducible rfl)
            try simp only [List.setIfInBounds_toArray, List.set_cons_zero, List.set_cons_succ]
            first
              | (refine skipH (i := 2) 40 (by rw [List.getElem?_toArray]; rfl) rfl (by kernel_rfl) (by kernel_rfl) (by kernel_rfl) (fun _ _ _ h => h) (by rfl) hHeld ?_)
              | (refine takeE (i := 2) 40 (by rw [List.getElem?_toArray]; rfl) rfl (by kernel_rfl) (by kernel_rfl) (by kernel_rfl) (fun _ _ _ _ h => h) (by rfl) hHeld ?_
                 apply Exists.intro
                 apply And.intro
                 focus (intro w' hSw; obtain ⟨s0, s1⟩ := hSw; go_simp; try with_reducible rfl))
            try simp only [List.setIfInBounds_toArray, List.set_cons_zero, List.set_cons_succ]
            first
              | (refine skipH (i := 3) 41 (by rw [List.getElem?_toArray]; rfl) rfl (by kernel_rfl) (by kernel_rfl) (by kernel_rfl) (fun _ _ _ h => h) (by rfl) hHeld ?_)
              | (refine takeE (i := 3) 41 (by rw [List.getElem?_toArray]; rfl) rfl (by kernel_rfl) (by kernel_rfl) (by kernel_rfl) (fun _ _ _ _ h => h) (by rfl) hHeld ?_
                 apply Exists.intro
                 apply And.intro
                 focus (intro w' hSw; obtain ⟨s0, s1⟩ := hSw; go_simp; try with_reducible rfl))
            try simp only [List.setIfInBounds_toArray, List.set_cons_zero, List.set_cons_succ]
            first
              | (refine skipH (i := 4) 42 (by rw [List.getElem?_toArray]; rfl) rfl (by kernel_rfl) (by kernel_rfl) (by kernel_rfl) (fun _ _ _ h => h) (by rfl) hHeld ?_)
              | (refine takeE (i := 4) 42 (by rw [List.getElem?_toArray]; rfl) rfl (by kernel_rfl) (by kernel_rfl) (by kernel_rfl) (fun _ _ _ _ h => h) (by rfl) hHeld ?_
                 apply Exists.intro
                 apply And.intro
                 focus (intro w' hSw; obtain ⟨s0, s1⟩ := hSw; go_simp; try with_reducible rfl))
            try simp only [List.setIfInBounds_toArray, List.set_cons_zero, List.set_cons_succ]
            first
              | (refine skipH (i := 5) 43 (by rw [List.getElem?_toArray]; rfl) rfl (by kernel_rfl) (by kernel_rfl) (by kernel_rfl) (fun _ _ _ h => h) (by rfl) hHeld ?_)
              | (refine takeE (i := 5) 43 (by rw [List.getElem?_toArray]; rfl) rfl (by kernel_rfl) (by kernel_rfl) (by kernel_rfl) (fun _ _ _ _ h => h) (by rfl) hHeld ?_
                 apply Exists.intro
                 apply And.intro
                 focus (intro w' hSw; obtain ⟨s0, s1⟩ := hSw; go_simp; try with_reducible rfl))
            try simp only [List.setIfInBounds_toArray, List.set_cons_zero, List.set_cons_succ]
            first
              | (refine skipH (i := 6) 44 (by rw [List.getElem?_toArray]; rfl) rfl (by kernel_rfl) (by kernel_rfl) (by kernel_rfl) (fun _ _ _ h => h) (by rfl) hHeld ?_)
              | (refine takeE (i := 6) 44 (by rw [List.getElem?_toArray]; rfl) rfl (by kernel_rfl) (by kernel_rfl) (by kernel_rfl) (fun _ _ _ _ h => h) (by rfl) hHeld ?_
                 apply Exists.intro
                 apply And.intro
                 focus (intro w' hSw; obtain ⟨s0, s1⟩ := hSw; go_simp; try with_reducible rfl))
            try simp only [List.setIfInBounds_toArray, List.set_cons_zero, List.set_cons_succ]
            first
              | (refine skipH (i := 11) 49 (by rw [List.getElem?_toArray]; rfl) rfl (by kernel_rfl) (by kernel_rfl) (by kernel_rfl) (fun _ _ _ h => h) (by rfl) hHeld ?_)
              | (refine takeE (i := 11) 49 (by rw [List.getElem?_toArray]; rfl) rfl (by kernel_rfl) (by kernel_rfl) (by kernel_rfl) (fun _ _ _ _ h => h) (by rfl) hHeld ?_
                 apply Exists.intro
                 apply And.intro
                 focus (intro w' hSw; obtain ⟨s0, s1⟩ := hSw; go_simp; try with_reducible rfl))
            try simp only [List.setIfInBounds_toArray, List.set_cons_zero, List.set_cons_succ]
            first
              | (refine skipH (i := 12) 50 (by rw [List.getElem?_toArray]; rfl) rfl (by kernel_rfl) (by kernel_rfl) (by kernel_rfl) (fun _ _ _ h => h) (by rfl) hHeld ?_)
              | (refine takeE (i := 12) 50 (by rw [List.getElem?_toArray]; rfl) rfl (by kernel_rfl) (by kernel_rfl) (by kernel_rfl) (fun _ _ _ _ h => h) (by rfl) hHeld ?_
                 apply Exists.intro
                 apply And.intro
                 focus (intro w' hSw; obtain ⟨s0, s1⟩ := hSw; go_simp; try with_reducible rfl))
            try simp only [List.setIfInBounds_toArray, List.set_cons_zero, List.set_cons_succ]
            first
              | (refine skipH (i := 13) 51 (by rw [List.getElem?_toArray]; rfl) rfl (by kernel_rfl) (by kernel_rfl) (by kernel_rfl) (fun _ _ _ h => h) (by rfl) hHeld ?_)
              | (refine takeE (i := 13) 51 (by rw [List.getElem?_toArray]; rfl) rfl (by kernel_rfl) (by kernel_rfl) (by kernel_rfl) (fun _ _ _ _ h => h) (by rfl) hHeld ?_
                 apply Exists.intro
                 apply And.intro
                 focus (intro w' hSw; obtain ⟨s0, s1⟩ := hSw; go_simp; try with_reducible rfl))
            try simp only [List.setIfInBounds_toArray, List.set_cons_zero, List.set_cons_succ]
            first
              | (refine skipH (i := 14) 52 (by rw [List.getElem?_toArray]; rfl) rfl (by kernel_rfl) (by kernel_rfl) (by kernel_rfl) (fun _ _ _ h => h) (by rfl) hHeld ?_)
              | (refine takeE (i := 14) 52 (by rw [List.getElem?_toArray]; rfl) rfl (by kernel_rfl) (by kernel_rfl) (by kernel_rfl) (fun _ _ _ _ h => h) (by rfl) hHeld ?_
                 apply Exists.intro
                 apply And.intro
                 focus (intro w' hSw; obtain ⟨s0, s1⟩ := hSw; go_simp; try with_reducible rfl))
            try simp only [List.setIfInBounds_toArray, List.set_cons_zero, List.set_cons_succ]
            first
              | (refine skipH (i := 7) 45 (by rw [List.getElem?_toArray]; rfl) rfl (by kernel_rfl) (by kernel_rfl) (by kernel_rfl) (fun _ _ _ h => h) (by rfl) hHeld ?_)
              | (refine callH (i := 7) (some 45) (by rw [List.getElem?_toArray]; rfl) rfl (by kernel_rfl) (by rfl) fun K hK => ?_
                 go_simp
                 refine (HAB.out _).mono ?_
                 rintro e w' ⟨rfl, rfl⟩
                 refine hK (.int .i64 (size x)) _ hHeld ?_
                 clear hK K)
            try simp only [Act.put, List.setIfInBounds_toArray, List.set_cons_zero, List.set_cons_succ]
            first
              | (refine skipH (i := 8) 46 (by rw [List.getElem?_toArray]; rfl) rfl (by kernel_rfl) (by kernel_rfl) (by kernel_rfl) (fun _ _ _ h => h) (by rfl) hHeld ?_)
              | (refine takeE (i := 8) 46 (by rw [List.getElem?_toArray]; rfl) rfl (by kernel_rfl) (by kernel_rfl) (by kernel_rfl) (fun _ _ _ _ h => h) (by rfl) hHeld ?_
                 apply Exists.intro
                 apply And.intro
                 focus (intro w' hSw; obtain ⟨s0, s1⟩ := hSw; go_simp; try with_reducible rfl))
            try simp only [List.setIfInBounds_toArray, List.set_cons_zero, List.set_cons_succ]
            first
              | (refine skipH (i := 9) 47 (by rw [List.getElem?_toArray]; rfl) rfl (by kernel_rfl) (by kernel_rfl) (by kernel_rfl) (fun _ _ _ h => h) (by rfl) hHeld ?_)
              | (refine takeE (i := 9) 47 (by rw [List.getElem?_toArray]; rfl) rfl (by kernel_rfl) (by kernel_rfl) (by kernel_rfl) (fun _ _ _ _ h => h) (by rfl) hHeld ?_
                 apply Exists.intro
                 apply And.intro
                 focus (intro w' hSw; obtain ⟨s0, s1⟩ := hSw; go_simp; try with_reducible rfl))
            try simp only [List.setIfInBounds_toArray, List.set_cons_zero, List.set_cons_succ]
            first
              | (refine skipH (i := 10) 48 (by rw [List.getElem?_toArray]; rfl) rfl (by kernel_rfl) (by kernel_rfl) (by kernel_rfl) (fun _ _ _ h => h) (by rfl) hHeld ?_)
              | (refine takeE (i := 10) 48 (by rw [List.getElem?_toArray]; rfl) rfl (by kernel_rfl) (by kernel_rfl) (by kernel_rfl) (fun _ _ _ _ h => h) (by rfl) hHeld ?_
                 apply Exists.intro
                 apply And.intro
                 focus (intro w' hSw; obtain ⟨s0, s1⟩ := hSw; go_simp; try with_reducible rfl))
            try simp only [List.setIfInBounds_toArray, List.set_cons_zero, List.set_cons_succ]
            first
              | (refine skipH (i := 15) 53 (by rw [List.getElem?_toArray]; rfl) rfl (by kernel_rfl) (by kernel_rfl) (by kernel_rfl) (fun _ _ _ h => h) (by rfl) hHeld ?_)
              | (refine takeE (i := 15) 53 (by rw [List.getElem?_toArray]; rfl) rfl (by kernel_rfl) (by kernel_rfl) (by kernel_rfl) (fun _ _ _ _ h => h) (by rfl) hHeld ?_
                 apply Exists.intro
                 apply And.intro
                 focus (intro w' hSw; obtain ⟨s0, s1⟩ := hSw; go_simp; try with_reducible rfl))
            try simp only [List.setIfInBounds_toArray, List.set_cons_zero, List.set_cons_succ]
            refine takeE (i := 16) 54 (by rw [List.getElem?_toArray]; rfl) rfl (by kernel_rfl) (by kernel_rfl) (by kernel_rfl) (fun _ _ _ _ h => h) (by rfl) hHeld ?_
            apply Exists.intro
            apply And.intro
            focus (intro w' hSw; obtain ⟨s0, s1⟩ := hSw; go_simp; try with_reducible rfl)
            try simp only [List.setIfInBounds_toArray, List.set_cons_zero, List.set_cons_succ]
            refine takeE (i := 17) 7 (by rw [List.getElem?_toArray]; rfl) rfl (by kernel_rfl) (by kernel_rfl) (by kernel_rfl) (fun _ _ _ _ h => h) (by rfl) hHeld ?_
            apply Exists.intro
            apply And.intro
            focus (intro w' hSw; obtain ⟨s0, s1⟩ := hSw; go_simp; try with_reducible rfl)
            try simp only [List.setIfInBounds_toArray, List.set_cons_zero, List.set_cons_succ]
            refine wpAnyH_done (by kernel_rfl) ?_ _
            refine NoPanic.normal ?_
            go_wp2
            go_roundg (gk - 1)
            case measure => have := HKJ.out; omega
            case rel => exact ⟨j + 1, by go_num, by omega, by rw [HSN2.out], hid (by have := HKJ.out; omega), hid HG.out.drew, hid H.out.drew⟩
        · obtain rfl : j = nl := by omega
          have hall : anyT am (c.lits.take j) = true := by rw [List.take_of_length_le (by have := HN.out; omega)]; exact HSC.out
          rw [hall]
          go_wp2
          go_roundg (gO - 1)
          case measure => have := HK.out; omega
          case rel => exact ⟨k + 1, by go_num, by omega, hid (by have := HK.out; omega), H⟩
    · obtain rfl : k = fcl.length := by omega
      go_wp2
      go_ret
      exact ⟨rfl, H.out.tail⟩
end Go.Proofs.Ytcglokippflioaa

/-! The document's word: a copy of a formula. -/
namespace Go.Proofs.Ytcglokippflioaa
open Go Go.RowKit YLib
theorem infoCl : (Try.prog.info? 32).map (fun i => (i.zero, i.size, i.bytes)) = some (some (.agg #[.slice none 0 0, .int .i64 0]), 2, 32) := by kernel_rfl
set_option maxRecDepth 100000 in
set_option maxHeartbeats 8000000 in
theorem RCopy_calls {w : World} {S : Nat → Prop} {Ac Ao : Option Addr} {cc co : Nat} {nv : Int} {fcl : List Cl} {order : List Int} (hc : RowAt cK w S Ac fcl) (ho : RowAt Kind.int w S Ao order) (hl : ∀ c ∈ fcl, c.lits.length ≤ LIM) (hol : order.length ≤ LIM) (hcn : fcl.length ≤ 65536) :
    Calls Try.prog 10 #[.agg #[.int .i64 nv, .slice Ac fcl.length cc, .slice Ao order.length co]] w fun e w' => ∃ vc vo, e = .returned (.agg #[.int .i64 nv, vc, vo]) ∧ Inv w NoM w' [rowP cK 32 vc fcl, rowP Kind.int 3 vo order] := by
  have HC := hid hc
  have HO := hid ho
  have HL := hid hl
  unfold LIM at hol
  clear hc ho hl
  have h0 := (((Inv.start0 w).boxc 28 [.int .i64 nv, .slice Ac fcl.length cc, .slice Ao order.length co]).box 28 [.int .i64 0, .slice none 0 0, .slice none 0 0]).nilRow cK 32
  rw [World.size_alloc] at h0
  have H0 := hid h0
  clear h0
  go_enter Try.func10, Try.ntmps10
  go_wp2
  go_loopg [3, 4] fcl.length (fun kq v3 v4 wr => ∃ (k : Nat) (vv : Value), v4 = .int .i64 k ∧ v3 = vv ∧ k ≤ fcl.length ∧ Hid (kq + k = fcl.length) ∧ Hid (YLib.Inv w NoM wr [rowP cK 32 v3 (fcl.take k), blkP w.heap.size 28 [.int .i64 nv, .slice Ac fcl.length cc, .slice Ao order.length co], blkP (w.heap.size + 1) 28 [.int .i64 0, .slice none 0 0, .slice none 0 0]]))
  case atStart => exact ⟨0, _, rfl, rfl, by omega, hid rfl, H0⟩
  case round =>
    clear H0
    obtain ⟨k, v3, rfl, hv3, hk, HK, H⟩ := hrel
    have hv4 := hv3.symm
    clear hv3
    subst hv4
    have hf1 := (H.out.cell (i := 1) rfl 1 rfl).1
    have hf2 := (H.out.cell (i := 1) rfl 2 rfl).1
    by_cases hlt : k < fcl.length
    · have hlt' : (k : Int) < (fcl.length : Int) := by omega
      obtain ⟨c, hcc⟩ : ∃ c, fcl[k]? = some c := ⟨_, List.getElem?_eq_getElem hlt⟩
      obtain ⟨cb, cof, A', c', rfl, hc1, hc2, hle, hr⟩ := cAt (HC.out.chg H.out.chg (fun _ _ => id)) hcc
      have hla := HL.out c (List.mem_of_getElem? hcc)
      unfold LIM at hla
      have hcw : cb < w.heap.size := by
        obtain ⟨b', o', _, _, hA, hc', _⟩ := cAt HC.out hcc
        injection hA with hA
        injection hA with hA1 hA2
        subst hA1 hA2
        exact World.block_lt_of_cell? _ _ hc'
      have HSS : Hid (∀ W, Chg NoM w W → W.cell? ⟨w.heap.size, 1, none⟩ = some (.slice (some ⟨cb, cof, none⟩) fcl.length cc) → (fun w' => w'.cell? ⟨w.heap.size, 1, none⟩ = some (.slice (some ⟨cb, cof, none⟩) fcl.length cc) ∧ w'.cell? ⟨cb, cof + k * 2, none⟩ = some (.slice A' c.lits.length c') ∧ w'.cell? ⟨cb, cof + k * 2 + 1, none⟩ = some (.int .i64 c.tag)) W) := hid (fun W hW h => ⟨h,
        (hW.below.cell (p := ⟨cb, cof + k * 2, none⟩) hcw).trans ((H.out.belowOf.cell (p := ⟨cb, cof + k * 2, none⟩) hcw).symm.trans hc1), (hW.below.cell (p := ⟨cb, cof + k * 2 + 1, none⟩) hcw).trans ((H.out.belowOf.cell (p := ⟨cb, cof + k * 2 + 1, none⟩) hcw).symm.trans hc2)⟩)
      have hkl : (fcl.take k).length = k := by rw [List.length_take]; omega
      have HTK : Hid (fcl.take k ++ [c] = fcl.take (k + 1)) := hid (by rw [List.take_add_one, hcc]; rfl)
      have HA := hid (H.out.drew.nilRow Kind.int 3)
      have HR := hid hr
      clear hcc hr
      obtain ⟨wo, hwo⟩ : ∃ wo : World, wo = wr := ⟨_, rfl⟩
      go_wp2
      rcases Nat.eq_zero_or_pos c.lits.length with hz | hlp
      · have hl0 := List.eq_nil_of_length_eq_zero hz
        rw [hl0, List.length_nil] at hc1 HSS
        cases A' with
        | none =>
          refine wp_region_noPanic ?_
          refine wp_region_held_drew (S := (fun w' => w'.cell? ⟨w.heap.size, 1, none⟩ = some (.slice (some ⟨cb, cof, none⟩) fcl.length cc) ∧ w'.cell? ⟨cb, cof + k * 2, none⟩ = some (.slice none 0 c') ∧ w'.cell? ⟨cb, cof + k * 2 + 1, none⟩ = some (.int .i64 c.tag))) (by kernel_rfl) ?_ (fun hHeld => ?_)
          · exact ⟨hf1, hc1, hc2⟩
          refine takeE (i := 0) 14 (by rw [List.getElem?_toArray]; rfl) rfl (by kernel_rfl) (by kernel_rfl) (by kernel_rfl) (fun _ _ _ _ h => h) (by rfl) hHeld ?_
          apply Exists.intro
          apply And.intro
          focus (intro w' hSw; obtain ⟨s0, s1, s2⟩ := hSw; go_simp; try with_reducible rfl)
          try simp only [List.setIfInBounds_toArray, List.set_cons_zero, List.set_cons_succ]
          refine takeE (i := 1) 15 (by rw [List.getElem?_toArray]; rfl) rfl (by kernel_rfl) (by kernel_rfl) (by kernel_rfl) (fun _ _ _ _ h => h) (by rfl) hHeld ?_
          apply Exists.intro
          apply And.intro
          focus (intro w' hSw; obtain ⟨s0, s1, s2⟩ := hSw; go_simp; try with_reducible rfl)
          try simp only [List.setIfInBounds_toArray, List.set_cons_zero, List.set_cons_succ]
          refine takeE (i := 2) 16 (by rw [List.getElem?_toArray]; rfl) rfl (by kernel_rfl) (by kernel_rfl) (by kernel_rfl) (fun _ _ _ _ h => h) (by rfl) hHeld ?_
          apply Exists.intro
          apply And.intro
          focus (intro w' hSw; obtain ⟨s0, s1, s2⟩ := hSw; go_simp; try with_reducible rfl)
          try simp only [List.setIfInBounds_toArray, List.set_cons_zero, List.set_cons_succ]
          refine takeE (i := 3) 17 (by rw [List.getElem?_toArray]; rfl) rfl (by kernel_rfl) (by kernel_rfl) (by kernel_rfl) (fun _ _ _ _ h => h) (by rfl) hHeld ?_
          apply Exists.intro
          apply And.intro
          focus (intro w' hSw; obtain ⟨s0, s1, s2⟩ := hSw; go_simp; try with_reducible rfl)
          try simp only [List.setIfInBounds_toArray, List.set_cons_zero, List.set_cons_succ]
          refine takeE (i := 4) 18 (by rw [List.getElem?_toArray]; rfl) rfl (by kernel_rfl) (by kernel_rfl) (by kernel_rfl) (fun _ _ _ _ h => h) (by rfl) hHeld ?_
          apply Exists.intro
          apply And.intro
          focus (intro w' hSw; obtain ⟨s0, s1, s2⟩ := hSw; go_simp; try with_reducible rfl)
          try simp only [List.setIfInBounds_toArray, List.set_cons_zero, List.set_cons_succ]
          refine takeE (i := 5) 19 (by rw [List.getElem?_toArray]; rfl) rfl (by kernel_rfl) (by kernel_rfl) (by kernel_rfl) (fun _ _ _ _ h => h) (by rfl) hHeld ?_
          apply Exists.intro
          apply And.intro
          focus (intro w' hSw; obtain ⟨s0, s1, s2⟩ := hSw; go_simp; try with_reducible rfl)
          try simp only [List.setIfInBounds_toArray, List.set_cons_zero, List.set_cons_succ]
          refine takeE (i := 6) 20 (by rw [List.getElem?_toArray]; rfl) rfl (by kernel_rfl) (by kernel_rfl) (by kernel_rfl) (fun _ _ _ _ h => h) (by rfl) hHeld ?_
          apply Exists.intro
          apply And.intro
          focus (intro w' hSw; obtain ⟨s0, s1, s2⟩ := hSw; go_simp; try with_reducible rfl)
          try simp only [List.setIfInBounds_toArray, List.set_cons_zero, List.set_cons_succ]
          refine takeE (i := 7) 21 (by rw [List.getElem?_toArray]; rfl) rfl (by kernel_rfl) (by kernel_rfl) (by kernel_rfl) (fun _ _ _ _ h => h) (by rfl) hHeld ?_
          apply Exists.intro
          apply And.intro
          focus (intro w' hSw; obtain ⟨s0, s1, s2⟩ := hSw; go_simp; try with_reducible rfl)
          try simp only [List.setIfInBounds_toArray, List.set_cons_zero, List.set_cons_succ]
          refine takeE (i := 9) 23 (by rw [List.getElem?_toArray]; rfl) rfl (by kernel_rfl) (by kernel_rfl) (by kernel_rfl) (fun _ _ _ _ h => h) (by rfl) hHeld ?_
          apply Exists.intro
          apply And.intro
          focus (intro w' hSw; obtain ⟨s0, s1, s2⟩ := hSw; go_simp; try with_reducible rfl)
          try simp only [List.setIfInBounds_toArray, List.set_cons_zero, List.set_cons_succ]
          refine takeE (i := 10) 24 (by rw [List.getElem?_toArray]; rfl) rfl (by kernel_rfl) (by kernel_rfl) (by kernel_rfl) (fun _ _ _ _ h => h) (by rfl) hHeld ?_
          apply Exists.intro
          apply And.intro
          focus (intro w' hSw; obtain ⟨s0, s1, s2⟩ := hSw; go_simp; try with_reducible rfl)
          try simp only [List.setIfInBounds_toArray, List.set_cons_zero, List.set_cons_succ]
          refine takeE (i := 11) 25 (by rw [List.getElem?_toArray]; rfl) rfl (by kernel_rfl) (by kernel_rfl) (by kernel_rfl) (fun _ _ _ _ h => h) (by rfl) hHeld ?_
          apply Exists.intro
          apply And.intro
          focus (intro w' hSw; obtain ⟨s0, s1, s2⟩ := hSw; go_simp; try with_reducible rfl)
          try simp only [List.setIfInBounds_toArray, List.set_cons_zero, List.set_cons_succ]
          refine takeE (i := 12) 26 (by rw [List.getElem?_toArray]; rfl) rfl (by kernel_rfl) (by kernel_rfl) (by kernel_rfl) (fun _ _ _ _ h => h) (by rfl) hHeld ?_
          apply Exists.intro
          apply And.intro
          focus (intro w' hSw; obtain ⟨s0, s1, s2⟩ := hSw; go_simp; try with_reducible rfl)
          try simp only [List.setIfInBounds_toArray, List.set_cons_zero, List.set_cons_succ]
          refine takeE (i := 13) 27 (by rw [List.getElem?_toArray]; rfl) rfl (by kernel_rfl) (by kernel_rfl) (by kernel_rfl) (fun _ _ _ _ h => h) (by rfl) hHeld ?_
          apply Exists.intro
          apply And.intro
          focus (intro w' hSw; obtain ⟨s0, s1, s2⟩ := hSw; go_simp; try with_reducible rfl)
          try simp only [List.setIfInBounds_toArray, List.set_cons_zero, List.set_cons_succ]
          refine takeE (i := 14) 28 (by rw [List.getElem?_toArray]; rfl) rfl (by kernel_rfl) (by kernel_rfl) (by kernel_rfl) (fun _ _ _ _ h => h) (by rfl) hHeld ?_
          apply Exists.intro
          apply And.intro
          focus (intro w' hSw; obtain ⟨s0, s1, s2⟩ := hSw; go_simp; try with_reducible rfl)
          try simp only [List.setIfInBounds_toArray, List.set_cons_zero, List.set_cons_succ]
          refine callH (i := 8) (some 22) (by rw [List.getElem?_toArray]; rfl) rfl (by kernel_rfl) (by rfl) fun K hK => ?_
          go_simp
          have HB1 : Hid (YLib.Inv w NoM wr.drew [rowP Kind.int 3 (.slice none 0 0) c.lits, rowP cK 32 v3 (fcl.take k), blkP w.heap.size 28 [.int .i64 nv, .slice (some ⟨cb, cof, none⟩) fcl.length cc, .slice Ao order.length co], blkP (w.heap.size + 1) 28 [.int .i64 0, .slice none 0 0, .slice none 0 0]]) := hid (by rw [hl0]; exact HA.out)
          refine hK (.slice none 0 0) _ hHeld ?_
          clear hK K
          try simp only [Act.put, List.setIfInBounds_toArray, List.set_cons_zero, List.set_cons_succ]
          refine takeE (i := 15) 29 (by rw [List.getElem?_toArray]; rfl) rfl (by kernel_rfl) (by kernel_rfl) (by kernel_rfl) (fun _ _ _ _ h => h) (by rfl) hHeld ?_
          apply Exists.intro
          apply And.intro
          focus (intro w' hSw; obtain ⟨s0, s1, s2⟩ := hSw; go_simp; try with_reducible rfl)
          try simp only [List.setIfInBounds_toArray, List.set_cons_zero, List.set_cons_succ]
          refine callH (i := 16) (some 30) (by rw [List.getElem?_toArray]; rfl) rfl (by kernel_rfl) (by rfl) fun K hK => ?_
          go_simp
          have HB2 := hid (HB1.out.alloc (.cells #[.slice none 0 0, .int .i64 c.tag] 32))
          replace hHeld := HSS.out _ HB2.out.chg (HB2.out.cell (i := 2) rfl 1 rfl).1
          refine hK (.slice (some ⟨wr.drew.heap.size, 0, none⟩) 1 1) _ hHeld ?_
          clear hK K
          try simp only [Act.put, List.setIfInBounds_toArray, List.set_cons_zero, List.set_cons_succ]
          refine callH (i := 17) (some 31) (by rw [List.getElem?_toArray]; rfl) rfl (by kernel_rfl) (by rfl) fun K hK => ?_
          refine wp_append_inv2 (d := cK) _ _ 25 rfl Try.underlying25 infoCl rfl (by decide) 1 0 (by decide) v3 (fcl.take k) [c] _ HB2.out rfl rfl rfl ⟨wr.drew.heap.size, 0, none⟩ 1 1 rfl [.slice none 0 0, .int .i64 c.tag] rfl (World.news_of_block (heap_alloc_new wr.drew _)) (fun S2 h => ⟨[.slice none 0 0, .int .i64 c.tag], [], rfl, ⟨[.slice none 0 0], [.int .i64 c.tag], rfl, Owned.rd (d := Kind.int) h, rfl⟩, rfl⟩) (by omega) (by rw [hkl]; omega) (by rw [hkl]; omega) ?_
          intro g2 cap2 w3 h3
          rw [hkl, HTK.out] at h3
          rw [hkl]
          have HB3 := hid h3.tail
          clear h3
          replace hHeld := HSS.out _ HB3.out.chg (HB3.out.cell (i := 1) rfl 1 rfl).1
          refine hK (.slice (some ⟨g2, 0, none⟩) (k + 1) cap2) _ hHeld ?_
          clear hK K
          try simp only [Act.put, List.setIfInBounds_toArray, List.set_cons_zero, List.set_cons_succ]
          refine takeE (i := 18) 3 (by rw [List.getElem?_toArray]; rfl) rfl (by kernel_rfl) (by kernel_rfl) (by kernel_rfl) (fun _ _ _ _ h => h) (by rfl) hHeld ?_
          apply Exists.intro
          apply And.intro
          focus (intro w' hSw; obtain ⟨s0, s1, s2⟩ := hSw; go_simp; try with_reducible rfl)
          try simp only [List.setIfInBounds_toArray, List.set_cons_zero, List.set_cons_succ]
          refine wpAnyH_done (by kernel_rfl) ?_ _
          refine NoPanic.normal ?_
          go_wp2
          go_roundg (gk - 1)
          case measure => have := HK.out; omega
          case rel => exact ⟨k + 1, _, by go_num, rfl, by omega, hid (by have := HK.out; omega), HB3⟩
        | some ad =>
          refine wp_region_noPanic ?_
          refine wp_region_held_drew (S := (fun w' => w'.cell? ⟨w.heap.size, 1, none⟩ = some (.slice (some ⟨cb, cof, none⟩) fcl.length cc) ∧ w'.cell? ⟨cb, cof + k * 2, none⟩ = some (.slice (some ad) 0 c') ∧ w'.cell? ⟨cb, cof + k * 2 + 1, none⟩ = some (.int .i64 c.tag))) (by kernel_rfl) ?_ (fun hHeld => ?_)
          · exact ⟨hf1, hc1, hc2⟩
          refine takeE (i := 0) 14 (by rw [List.getElem?_toArray]; rfl) rfl (by kernel_rfl) (by kernel_rfl) (by kernel_rfl) (fun _ _ _ _ h => h) (by rfl) hHeld ?_
          apply Exists.intro
          apply And.intro
          focus (intro w' hSw; obtain ⟨s0, s1, s2⟩ := hSw; go_simp; try with_reducible rfl)
          try simp only [List.setIfInBounds_toArray, List.set_cons_zero, List.set_cons_succ]
          refine takeE (i := 1) 15 (by rw [List.getElem?_toArray]; rfl) rfl (by kernel_rfl) (by kernel_rfl) (by kernel_rfl) (fun _ _ _ _ h => h) (by rfl) hHeld ?_
          apply Exists.intro
          apply And.intro
          focus (intro w' hSw; obtain ⟨s0, s1, s2⟩ := hSw; go_simp; try with_reducible rfl)
          try simp only [List.setIfInBounds_toArray, List.set_cons_zero, List.set_cons_succ]
          refine takeE (i := 2) 16 (by rw [List.getElem?_toArray]; rfl) rfl (by kernel_rfl) (by kernel_rfl) (by kernel_rfl) (fun _ _ _ _ h => h) (by rfl) hHeld ?_
          apply Exists.intro
          apply And.intro
          focus (intro w' hSw; obtain ⟨s0, s1, s2⟩ := hSw; go_simp; try with_reducible rfl)
          try simp only [List.setIfInBounds_toArray, List.set_cons_zero, List.set_cons_succ]
          refine takeE (i := 3) 17 (by rw [List.getElem?_toArray]; rfl) rfl (by kernel_rfl) (by kernel_rfl) (by kernel_rfl) (fun _ _ _ _ h => h) (by rfl) hHeld ?_
          apply Exists.intro
          apply And.intro
          focus (intro w' hSw; obtain ⟨s0, s1, s2⟩ := hSw; go_simp; try with_reducible rfl)
          try simp only [List.setIfInBounds_toArray, List.set_cons_zero, List.set_cons_succ]
          refine takeE (i := 4) 18 (by rw [List.getElem?_toArray]; rfl) rfl (by kernel_rfl) (by kernel_rfl) (by kernel_rfl) (fun _ _ _ _ h => h) (by rfl) hHeld ?_
          apply Exists.intro
          apply And.intro
          focus (intro w' hSw; obtain ⟨s0, s1, s2⟩ := hSw; go_simp; try with_reducible rfl)
          try simp only [List.setIfInBounds_toArray, List.set_cons_zero, List.set_cons_succ]
          refine takeE (i := 5) 19 (by rw [List.getElem?_toArray]; rfl) rfl (by kernel_rfl) (by kernel_rfl) (by kernel_rfl) (fun _ _ _ _ h => h) (by rfl) hHeld ?_
          apply Exists.intro
          apply And.intro
          focus (intro w' hSw; obtain ⟨s0, s1, s2⟩ := hSw; go_simp; try with_reducible rfl)
          try simp only [List.setIfInBounds_toArray, List.set_cons_zero, List.set_cons_succ]
          refine takeE (i := 6) 20 (by rw [List.getElem?_toArray]; rfl) rfl (by kernel_rfl) (by kernel_rfl) (by kernel_rfl) (fun _ _ _ _ h => h) (by rfl) hHeld ?_
          apply Exists.intro
          apply And.intro
          focus (intro w' hSw; obtain ⟨s0, s1, s2⟩ := hSw; go_simp; try with_reducible rfl)
          try simp only [List.setIfInBounds_toArray, List.set_cons_zero, List.set_cons_succ]
          refine takeE (i := 7) 21 (by rw [List.getElem?_toArray]; rfl) rfl (by kernel_rfl) (by kernel_rfl) (by kernel_rfl) (fun _ _ _ _ h => h) (by rfl) hHeld ?_
          apply Exists.intro
          apply And.intro
          focus (intro w' hSw; obtain ⟨s0, s1, s2⟩ := hSw; go_simp; try with_reducible rfl)
          try simp only [List.setIfInBounds_toArray, List.set_cons_zero, List.set_cons_succ]
          refine takeE (i := 9) 23 (by rw [List.getElem?_toArray]; rfl) rfl (by kernel_rfl) (by kernel_rfl) (by kernel_rfl) (fun _ _ _ _ h => h) (by rfl) hHeld ?_
          apply Exists.intro
          apply And.intro
          focus (intro w' hSw; obtain ⟨s0, s1, s2⟩ := hSw; go_simp; try with_reducible rfl)
          try simp only [List.setIfInBounds_toArray, List.set_cons_zero, List.set_cons_succ]
          refine takeE (i := 10) 24 (by rw [List.getElem?_toArray]; rfl) rfl (by kernel_rfl) (by kernel_rfl) (by kernel_rfl) (fun _ _ _ _ h => h) (by rfl) hHeld ?_
          apply Exists.intro
          apply And.intro
          focus (intro w' hSw; obtain ⟨s0, s1, s2⟩ := hSw; go_simp; try with_reducible rfl)
          try simp only [List.setIfInBounds_toArray, List.set_cons_zero, List.set_cons_succ]
          refine takeE (i := 11) 25 (by rw [List.getElem?_toArray]; rfl) rfl (by kernel_rfl) (by kernel_rfl) (by kernel_rfl) (fun _ _ _ _ h => h) (by rfl) hHeld ?_
          apply Exists.intro
          apply And.intro
          focus (intro w' hSw; obtain ⟨s0, s1, s2⟩ := hSw; go_simp; try with_reducible rfl)
          try simp only [List.setIfInBounds_toArray, List.set_cons_zero, List.set_cons_succ]
          refine takeE (i := 12) 26 (by rw [List.getElem?_toArray]; rfl) rfl (by kernel_rfl) (by kernel_rfl) (by kernel_rfl) (fun _ _ _ _ h => h) (by rfl) hHeld ?_
          apply Exists.intro
          apply And.intro
          focus (intro w' hSw; obtain ⟨s0, s1, s2⟩ := hSw; go_simp; try with_reducible rfl)
          try simp only [List.setIfInBounds_toArray, List.set_cons_zero, List.set_cons_succ]
          refine takeE (i := 13) 27 (by rw [List.getElem?_toArray]; rfl) rfl (by kernel_rfl) (by kernel_rfl) (by kernel_rfl) (fun _ _ _ _ h => h) (by rfl) hHeld ?_
          apply Exists.intro
          apply And.intro
          focus (intro w' hSw; obtain ⟨s0, s1, s2⟩ := hSw; go_simp; try with_reducible rfl)
          try simp only [List.setIfInBounds_toArray, List.set_cons_zero, List.set_cons_succ]
          refine takeE (i := 14) 28 (by rw [List.getElem?_toArray]; rfl) rfl (by kernel_rfl) (by kernel_rfl) (by kernel_rfl) (fun _ _ _ _ h => h) (by rfl) hHeld ?_
          apply Exists.intro
          apply And.intro
          focus (intro w' hSw; obtain ⟨s0, s1, s2⟩ := hSw; go_simp; try with_reducible rfl)
          try simp only [List.setIfInBounds_toArray, List.set_cons_zero, List.set_cons_succ]
          refine callH (i := 8) (some 22) (by rw [List.getElem?_toArray]; rfl) rfl (by kernel_rfl) (by rfl) fun K hK => ?_
          go_simp
          have HB1 : Hid (YLib.Inv w NoM wr.drew [rowP Kind.int 3 (.slice none 0 0) c.lits, rowP cK 32 v3 (fcl.take k), blkP w.heap.size 28 [.int .i64 nv, .slice (some ⟨cb, cof, none⟩) fcl.length cc, .slice Ao order.length co], blkP (w.heap.size + 1) 28 [.int .i64 0, .slice none 0 0, .slice none 0 0]]) := hid (by rw [hl0]; exact HA.out)
          refine hK (.slice none 0 0) _ hHeld ?_
          clear hK K
          try simp only [Act.put, List.setIfInBounds_toArray, List.set_cons_zero, List.set_cons_succ]
          refine takeE (i := 15) 29 (by rw [List.getElem?_toArray]; rfl) rfl (by kernel_rfl) (by kernel_rfl) (by kernel_rfl) (fun _ _ _ _ h => h) (by rfl) hHeld ?_
          apply Exists.intro
          apply And.intro
          focus (intro w' hSw; obtain ⟨s0, s1, s2⟩ := hSw; go_simp; try with_reducible rfl)
          try simp only [List.setIfInBounds_toArray, List.set_cons_zero, List.set_cons_succ]
          refine callH (i := 16) (some 30) (by rw [List.getElem?_toArray]; rfl) rfl (by kernel_rfl) (by rfl) fun K hK => ?_
          go_simp
          have HB2 := hid (HB1.out.alloc (.cells #[.slice none 0 0, .int .i64 c.tag] 32))
          replace hHeld := HSS.out _ HB2.out.chg (HB2.out.cell (i := 2) rfl 1 rfl).1
          refine hK (.slice (some ⟨wr.drew.heap.size, 0, none⟩) 1 1) _ hHeld ?_
          clear hK K
          try simp only [Act.put, List.setIfInBounds_toArray, List.set_cons_zero, List.set_cons_succ]
          refine callH (i := 17) (some 31) (by rw [List.getElem?_toArray]; rfl) rfl (by kernel_rfl) (by rfl) fun K hK => ?_
          refine wp_append_inv2 (d := cK) _ _ 25 rfl Try.underlying25 infoCl rfl (by decide) 1 0 (by decide) v3 (fcl.take k) [c] _ HB2.out rfl rfl rfl ⟨wr.drew.heap.size, 0, none⟩ 1 1 rfl [.slice none 0 0, .int .i64 c.tag] rfl (World.news_of_block (heap_alloc_new wr.drew _)) (fun S2 h => ⟨[.slice none 0 0, .int .i64 c.tag], [], rfl, ⟨[.slice none 0 0], [.int .i64 c.tag], rfl, Owned.rd (d := Kind.int) h, rfl⟩, rfl⟩) (by omega) (by rw [hkl]; omega) (by rw [hkl]; omega) ?_
          intro g2 cap2 w3 h3
          rw [hkl, HTK.out] at h3
          rw [hkl]
          have HB3 := hid h3.tail
          clear h3
          replace hHeld := HSS.out _ HB3.out.chg (HB3.out.cell (i := 1) rfl 1 rfl).1
          refine hK (.slice (some ⟨g2, 0, none⟩) (k + 1) cap2) _ hHeld ?_
          clear hK K
          try simp only [Act.put, List.setIfInBounds_toArray, List.set_cons_zero, List.set_cons_succ]
          refine takeE (i := 18) 3 (by rw [List.getElem?_toArray]; rfl) rfl (by kernel_rfl) (by kernel_rfl) (by kernel_rfl) (fun _ _ _ _ h => h) (by rfl) hHeld ?_
          apply Exists.intro
          apply And.intro
          focus (intro w' hSw; obtain ⟨s0, s1, s2⟩ := hSw; go_simp; try with_reducible rfl)
          try simp only [List.setIfInBounds_toArray, List.set_cons_zero, List.set_cons_succ]
          refine wpAnyH_done (by kernel_rfl) ?_ _
          refine NoPanic.normal ?_
          go_wp2
          go_roundg (gk - 1)
          case measure => have := HK.out; omega
          case rel => exact ⟨k + 1, _, by go_num, rfl, by omega, hid (by have := HK.out; omega), HB3⟩
      · obtain ⟨x, hx⟩ : ∃ x, c.lits[0]? = some x := ⟨_, List.getElem?_eq_getElem hlp⟩
        obtain ⟨lb, lo, rfl, _⟩ := intAt HR.out hx
        clear hx
        have HNL : Hid (∀ (j : Nat) u, (c.lits.map (Value.int .i64))[j]? = some u → wr.drew.cell? ((⟨lb, lo, none⟩ : Addr).add j) = some u) := hid (by
          intro j u hu
          rw [List.getElem?_map] at hu
          obtain ⟨y, hy, rfl⟩ := Option.map_eq_some_iff.1 hu
          obtain ⟨_, _, hA, hc⟩ := intAt HR.out hy
          injection hA with hA
          injection hA with hA1 hA2
          subst hA1 hA2
          rw [add_addr']; exact hc)
        refine wp_region_noPanic ?_
        refine wp_region_held_drew (S := (fun w' => w'.cell? ⟨w.heap.size, 1, none⟩ = some (.slice (some ⟨cb, cof, none⟩) fcl.length cc) ∧ w'.cell? ⟨cb, cof + k * 2, none⟩ = some (.slice (some ⟨lb, lo, none⟩) c.lits.length c') ∧ w'.cell? ⟨cb, cof + k * 2 + 1, none⟩ = some (.int .i64 c.tag))) (by kernel_rfl) ?_ (fun hHeld => ?_)
        · exact ⟨hf1, hc1, hc2⟩
        refine takeE (i := 0) 14 (by rw [List.getElem?_toArray]; rfl) rfl (by kernel_rfl) (by kernel_rfl) (by kernel_rfl) (fun _ _ _ _ h => h) (by rfl) hHeld ?_
        apply Exists.intro
        apply And.intro
        focus (intro w' hSw; obtain ⟨s0, s1, s2⟩ := hSw; go_simp; try with_reducible rfl)
        try simp only [List.setIfInBounds_toArray, List.set_cons_zero, List.set_cons_succ]
        refine takeE (i := 1) 15 (by rw [List.getElem?_toArray]; rfl) rfl (by kernel_rfl) (by kernel_rfl) (by kernel_rfl) (fun _ _ _ _ h => h) (by rfl) hHeld ?_
        apply Exists.intro
        apply And.intro
        focus (intro w' hSw; obtain ⟨s0, s1, s2⟩ := hSw; go_simp; try with_reducible rfl)
        try simp only [List.setIfInBounds_toArray, List.set_cons_zero, List.set_cons_succ]
        refine takeE (i := 2) 16 (by rw [List.getElem?_toArray]; rfl) rfl (by kernel_rfl) (by kernel_rfl) (by kernel_rfl) (fun _ _ _ _ h => h) (by rfl) hHeld ?_
        apply Exists.intro
        apply And.intro
        focus (intro w' hSw; obtain ⟨s0, s1, s2⟩ := hSw; go_simp; try with_reducible rfl)
        try simp only [List.setIfInBounds_toArray, List.set_cons_zero, List.set_cons_succ]
        refine takeE (i := 3) 17 (by rw [List.getElem?_toArray]; rfl) rfl (by kernel_rfl) (by kernel_rfl) (by kernel_rfl) (fun _ _ _ _ h => h) (by rfl) hHeld ?_
        apply Exists.intro
        apply And.intro
        focus (intro w' hSw; obtain ⟨s0, s1, s2⟩ := hSw; go_simp; try with_reducible rfl)
        try simp only [List.setIfInBounds_toArray, List.set_cons_zero, List.set_cons_succ]
        refine takeE (i := 4) 18 (by rw [List.getElem?_toArray]; rfl) rfl (by kernel_rfl) (by kernel_rfl) (by kernel_rfl) (fun _ _ _ _ h => h) (by rfl) hHeld ?_
        apply Exists.intro
        apply And.intro
        focus (intro w' hSw; obtain ⟨s0, s1, s2⟩ := hSw; go_simp; try with_reducible rfl)
        try simp only [List.setIfInBounds_toArray, List.set_cons_zero, List.set_cons_succ]
        refine takeE (i := 5) 19 (by rw [List.getElem?_toArray]; rfl) rfl (by kernel_rfl) (by kernel_rfl) (by kernel_rfl) (fun _ _ _ _ h => h) (by rfl) hHeld ?_
        apply Exists.intro
        apply And.intro
        focus (intro w' hSw; obtain ⟨s0, s1, s2⟩ := hSw; go_simp; try with_reducible rfl)
        try simp only [List.setIfInBounds_toArray, List.set_cons_zero, List.set_cons_succ]
        refine takeE (i := 6) 20 (by rw [List.getElem?_toArray]; rfl) rfl (by kernel_rfl) (by kernel_rfl) (by kernel_rfl) (fun _ _ _ _ h => h) (by rfl) hHeld ?_
        apply Exists.intro
        apply And.intro
        focus (intro w' hSw; obtain ⟨s0, s1, s2⟩ := hSw; go_simp; try with_reducible rfl)
        try simp only [List.setIfInBounds_toArray, List.set_cons_zero, List.set_cons_succ]
        refine takeE (i := 7) 21 (by rw [List.getElem?_toArray]; rfl) rfl (by kernel_rfl) (by kernel_rfl) (by kernel_rfl) (fun _ _ _ _ h => h) (by rfl) hHeld ?_
        apply Exists.intro
        apply And.intro
        focus (intro w' hSw; obtain ⟨s0, s1, s2⟩ := hSw; go_simp; try with_reducible rfl)
        try simp only [List.setIfInBounds_toArray, List.set_cons_zero, List.set_cons_succ]
        refine takeE (i := 9) 23 (by rw [List.getElem?_toArray]; rfl) rfl (by kernel_rfl) (by kernel_rfl) (by kernel_rfl) (fun _ _ _ _ h => h) (by rfl) hHeld ?_
        apply Exists.intro
        apply And.intro
        focus (intro w' hSw; obtain ⟨s0, s1, s2⟩ := hSw; go_simp; try with_reducible rfl)
        try simp only [List.setIfInBounds_toArray, List.set_cons_zero, List.set_cons_succ]
        refine takeE (i := 10) 24 (by rw [List.getElem?_toArray]; rfl) rfl (by kernel_rfl) (by kernel_rfl) (by kernel_rfl) (fun _ _ _ _ h => h) (by rfl) hHeld ?_
        apply Exists.intro
        apply And.intro
        focus (intro w' hSw; obtain ⟨s0, s1, s2⟩ := hSw; go_simp; try with_reducible rfl)
        try simp only [List.setIfInBounds_toArray, List.set_cons_zero, List.set_cons_succ]
        refine takeE (i := 11) 25 (by rw [List.getElem?_toArray]; rfl) rfl (by kernel_rfl) (by kernel_rfl) (by kernel_rfl) (fun _ _ _ _ h => h) (by rfl) hHeld ?_
        apply Exists.intro
        apply And.intro
        focus (intro w' hSw; obtain ⟨s0, s1, s2⟩ := hSw; go_simp; try with_reducible rfl)
        try simp only [List.setIfInBounds_toArray, List.set_cons_zero, List.set_cons_succ]
        refine takeE (i := 12) 26 (by rw [List.getElem?_toArray]; rfl) rfl (by kernel_rfl) (by kernel_rfl) (by kernel_rfl) (fun _ _ _ _ h => h) (by rfl) hHeld ?_
        apply Exists.intro
        apply And.intro
        focus (intro w' hSw; obtain ⟨s0, s1, s2⟩ := hSw; go_simp; try with_reducible rfl)
        try simp only [List.setIfInBounds_toArray, List.set_cons_zero, List.set_cons_succ]
        refine takeE (i := 13) 27 (by rw [List.getElem?_toArray]; rfl) rfl (by kernel_rfl) (by kernel_rfl) (by kernel_rfl) (fun _ _ _ _ h => h) (by rfl) hHeld ?_
        apply Exists.intro
        apply And.intro
        focus (intro w' hSw; obtain ⟨s0, s1, s2⟩ := hSw; go_simp; try with_reducible rfl)
        try simp only [List.setIfInBounds_toArray, List.set_cons_zero, List.set_cons_succ]
        refine takeE (i := 14) 28 (by rw [List.getElem?_toArray]; rfl) rfl (by kernel_rfl) (by kernel_rfl) (by kernel_rfl) (fun _ _ _ _ h => h) (by rfl) hHeld ?_
        apply Exists.intro
        apply And.intro
        focus (intro w' hSw; obtain ⟨s0, s1, s2⟩ := hSw; go_simp; try with_reducible rfl)
        try simp only [List.setIfInBounds_toArray, List.set_cons_zero, List.set_cons_succ]
        refine callH (i := 8) (some 22) (by rw [List.getElem?_toArray]; rfl) rfl (by kernel_rfl) (by rfl) fun K hK => ?_
        refine wp_append_inv (d := Kind.int) _ _ 26 rfl Try.underlying26 infoInt rfl (by decide) 0 _ [] c.lits HA.out rfl rfl ⟨lb, lo, none⟩ c.lits.length c' rfl (c.lits.map (Value.int .i64)) rfl HNL.out (reps_enc _) hlp (by simp; omega) (by simp; omega) ?_
        intro g1 cap1 w1 h2
        simp only [List.length_nil, Nat.zero_add, List.nil_append, List.set_cons_zero] at h2 ⊢
        have HL1 := hid h2
        clear h2
        have HB1 : Hid (YLib.Inv w NoM w1 [rowP Kind.int 3 (.slice (some ⟨g1, 0, none⟩) c.lits.length cap1) c.lits, rowP cK 32 v3 (fcl.take k), blkP w.heap.size 28 [.int .i64 nv, .slice (some ⟨cb, cof, none⟩) fcl.length cc, .slice Ao order.length co], blkP (w.heap.size + 1) 28 [.int .i64 0, .slice none 0 0, .slice none 0 0]]) := HL1
        replace hHeld := HSS.out _ HB1.out.chg (HB1.out.cell (i := 2) rfl 1 rfl).1
        refine hK (.slice (some ⟨g1, 0, none⟩) c.lits.length cap1) _ hHeld ?_
        clear hK K
        try simp only [Act.put, List.setIfInBounds_toArray, List.set_cons_zero, List.set_cons_succ]
        refine takeE (i := 15) 29 (by rw [List.getElem?_toArray]; rfl) rfl (by kernel_rfl) (by kernel_rfl) (by kernel_rfl) (fun _ _ _ _ h => h) (by rfl) hHeld ?_
        apply Exists.intro
        apply And.intro
        focus (intro w' hSw; obtain ⟨s0, s1, s2⟩ := hSw; go_simp; try with_reducible rfl)
        try simp only [List.setIfInBounds_toArray, List.set_cons_zero, List.set_cons_succ]
        refine callH (i := 16) (some 30) (by rw [List.getElem?_toArray]; rfl) rfl (by kernel_rfl) (by rfl) fun K hK => ?_
        go_simp
        have HB2 := hid (HB1.out.alloc (.cells #[.slice (some ⟨g1, 0, none⟩) c.lits.length cap1, .int .i64 c.tag] 32))
        replace hHeld := HSS.out _ HB2.out.chg (HB2.out.cell (i := 2) rfl 1 rfl).1
        refine hK (.slice (some ⟨w1.heap.size, 0, none⟩) 1 1) _ hHeld ?_
        clear hK K
        try simp only [Act.put, List.setIfInBounds_toArray, List.set_cons_zero, List.set_cons_succ]
        refine callH (i := 17) (some 31) (by rw [List.getElem?_toArray]; rfl) rfl (by kernel_rfl) (by rfl) fun K hK => ?_
        refine wp_append_inv2 (d := cK) _ _ 25 rfl Try.underlying25 infoCl rfl (by decide) 1 0 (by decide) v3 (fcl.take k) [c] _ HB2.out rfl rfl rfl ⟨w1.heap.size, 0, none⟩ 1 1 rfl [.slice (some ⟨g1, 0, none⟩) c.lits.length cap1, .int .i64 c.tag] rfl (World.news_of_block (heap_alloc_new w1 _)) (fun S2 h => ⟨[.slice (some ⟨g1, 0, none⟩) c.lits.length cap1, .int .i64 c.tag], [], rfl, ⟨[.slice (some ⟨g1, 0, none⟩) c.lits.length cap1], [.int .i64 c.tag], rfl, Owned.rd (d := Kind.int) h, rfl⟩, rfl⟩) (by omega) (by rw [hkl]; omega) (by rw [hkl]; omega) ?_
        intro g2 cap2 w3 h3
        rw [hkl, HTK.out] at h3
        rw [hkl]
        have HB3 := hid h3.tail
        clear h3
        replace hHeld := HSS.out _ HB3.out.chg (HB3.out.cell (i := 1) rfl 1 rfl).1
        refine hK (.slice (some ⟨g2, 0, none⟩) (k + 1) cap2) _ hHeld ?_
        clear hK K
        try simp only [Act.put, List.setIfInBounds_toArray, List.set_cons_zero, List.set_cons_succ]
        refine takeE (i := 18) 3 (by rw [List.getElem?_toArray]; rfl) rfl (by kernel_rfl) (by kernel_rfl) (by kernel_rfl) (fun _ _ _ _ h => h) (by rfl) hHeld ?_
        apply Exists.intro
        apply And.intro
        focus (intro w' hSw; obtain ⟨s0, s1, s2⟩ := hSw; go_simp; try with_reducible rfl)
        try simp only [List.setIfInBounds_toArray, List.set_cons_zero, List.set_cons_succ]
        refine wpAnyH_done (by kernel_rfl) ?_ _
        refine NoPanic.normal ?_
        go_wp2
        go_roundg (gk - 1)
        case measure => have := HK.out; omega
        case rel => exact ⟨k + 1, _, by go_num, rfl, by omega, hid (by have := HK.out; omega), HB3⟩
    · obtain rfl : k = fcl.length := by omega
      rw [List.take_length] at H
      go_upto_region 8 with (fail)
      go_cut [6] (fun v6 wx => Hid (YLib.Inv w NoM wx [rowP Kind.int 3 v6 order, rowP cK 32 v3 fcl, blkP w.heap.size 28 [.int .i64 nv, .slice Ac fcl.length cc, .slice Ao order.length co], blkP (w.heap.size + 1) 28 [.int .i64 0, .slice none 0 0, .slice none 0 0]]))
      case first =>
        have H1 := hid (H.out.nilRow Kind.int 3)
        rcases Nat.eq_zero_or_pos order.length with hz | hp
        · obtain rfl := List.eq_nil_of_length_eq_zero hz
          rw [List.length_nil] at hf2
          cases Ao with
          | none =>
            go_wp2
            go_meet
            case rel => exact H1
          | some a =>
            go_wp2
            go_meet
            case rel => exact H1
        · obtain ⟨x, hx⟩ : ∃ x, order[0]? = some x := ⟨_, List.getElem?_eq_getElem hp⟩
          obtain ⟨b, o, rfl, _⟩ := intAt HO.out hx
          clear hx
          have HN : Hid (∀ (j : Nat) u, (order.map (Value.int .i64))[j]? = some u → wr.cell? ((⟨b, o, none⟩ : Addr).add j) = some u) := by
            intro j u hu
            rw [List.getElem?_map] at hu
            obtain ⟨y, hy, rfl⟩ := Option.map_eq_some_iff.1 hu
            obtain ⟨_, _, hA, hc⟩ := intAt (HO.out.chg H1.out.chg (fun _ _ => id)) hy
            injection hA with hA
            injection hA with hA1 hA2
            subst hA1 hA2
            rw [add_addr']; exact hc
          go_wp2_with (at_builtin; refine wpList_of_wp rfl fun K hK => ?_; go_loud (refine wp_append_inv (d := Kind.int) _ _ 26 rfl Try.underlying26 infoInt rfl (by decide) 0 _ [] order H1.out rfl rfl ⟨b, o, none⟩ order.length co rfl (order.map (Value.int .i64)) rfl HN.out (reps_enc _) hp (by simp; omega) (by simp; omega) ?_); intro g1 cap1 w2 h2; have HI2 := hid h2; clear h2; refine hK _ _ ?_; clear hK K)
          go_meet
          case rel => exact hid (by simpa using HI2.out)
      case rest =>
        have H2 := hcut
        clear hcut
        obtain ⟨A3, c3, e3, _, _, _⟩ := H2.out.rowShape (i := 1) rfl
        obtain ⟨A6, c6, e6, _, _, _⟩ := H2.out.rowShape (i := 0) rfl
        subst e3 e6
        have hb0 := (H2.out.cell (i := 2) rfl 0 rfl).1
        have hr0 := (H2.out.cell (i := 3) rfl 0 rfl).2
        have hr1 := (H2.out.cell (i := 3) rfl 1 rfl).2
        have hr2 := (H2.out.cell (i := 3) rfl 2 rfl).2
        have hr3 := (H2.out.cell (i := 3) rfl 0 rfl).1
        have hr4 := (H2.out.cell (i := 3) rfl 1 rfl).1
        have hr5 := (H2.out.cell (i := 3) rfl 2 rfl).1
        go_wp2
        have h9 := ((H2.out.set (i := 3) rfl 0 (.int .i64 nv)).set (i := 3) rfl 1 (.slice A3 fcl.length c3)).set (i := 3) rfl 2 (.slice A6 order.length c6)
        generalize ((wc.setCell ⟨w.heap.size + 1, 0, none⟩ (.int .i64 nv)).setCell ⟨w.heap.size + 1, 1, none⟩ (.slice A3 fcl.length c3)).setCell ⟨w.heap.size + 1, 2, none⟩ (.slice A6 order.length c6) = w9 at *
        have e0 := (h9.cell (i := 3) rfl 0 rfl).1
        have e1 := (h9.cell (i := 3) rfl 1 rfl).1
        have e2 := (h9.cell (i := 3) rfl 2 rfl).1
        refine bodyPost_ret_by (v := .agg #[.int .i64 nv, .slice A3 fcl.length c3, .slice A6 order.length c6]) ?_ rfl ⟨_, _, rfl, ?_⟩
        · simp only [results]
          go_simp
        · exact (h9.perm (List.Perm.swap _ _ _)).init (cs := [_, _])
end Go.Proofs.Ytcglokippflioaa

/-! light. -/
namespace Go.Proofs.Ytcglokippflioaa
open Go Go.RowKit YLib
set_option maxRecDepth 100000 in
theorem light_calls {w : World} {Ac Ao : Option Addr} {nc cc no co : Nat} {vars : Int} :
    Calls Try.prog 9 #[.agg #[.int .i64 vars, .slice Ac nc cc, .slice Ao no co]] w fun e w' => e = .returned (.bool (decide (vars ≤ 14 ∧ nc ≤ 80))) ∧ Inv w NoM w' [] := by
  have H0 := hid ((Inv.start0 w).alloc (.cells #[.int .i64 vars, .slice Ac nc cc, .slice Ao no co] 28))
  by_cases h1 : vars ≤ 14
  · by_cases h2 : (nc : Int) ≤ 80
    · have hd : decide (vars ≤ 14 ∧ nc ≤ 80) = true := decide_eq_true ⟨h1, by omega⟩
      rw [hd]
      go_enter Try.func9, Try.ntmps9
      go_wp2
      go_ret
      exact ⟨rfl, H0.out⟩
    · have hd : decide (vars ≤ 14 ∧ nc ≤ 80) = false := decide_eq_false fun h => by omega
      rw [hd]
      go_enter Try.func9, Try.ntmps9
      go_wp2
      go_ret
      exact ⟨rfl, H0.out⟩
  · have hd : decide (vars ≤ 14 ∧ nc ≤ 80) = false := decide_eq_false fun h => by omega
    rw [hd]
    go_enter Try.func9, Try.ntmps9
    go_wp2
    go_ret
    exact ⟨rfl, H0.out⟩
end Go.Proofs.Ytcglokippflioaa
