/- Texts of the claim, in one: BeginW, FitW. -/
import Derived.Deep.OwnRows
import Derived.Carry
import Derived.Test.YtcglokippflioaaSm17

/-! begin. -/
namespace Go.Proofs.Ytcglokippflioaa
open Go Go.RowKit YLib
theorem beg0 (vars : Int) (order : List Int) (fcl : List Cl) : (begSt vars order fcl 0).act = fun _ => 0 := by
  funext j
  show (if 0 ≤ j ∧ j < ((0 : Nat) : Int) then (1 : Int) else 0) = 0
  rw [if_neg (by omega)]
theorem begS {vars : Int} {order : List Int} {fcl : List Cl} {k : Nat} {c : Cl} (HC : fcl[k]? = some c) :
    ({ begSt vars order fcl k with cls := (begSt vars order fcl k).cls ++ [c.lits], act := fun j => if j = (k : Int) then (begSt vars order fcl k).act j + 1 else (begSt vars order fcl k).act j } : St) = begSt vars order fcl (k + 1) := by
  unfold begSt
  have h1 : (fcl.take (k + 1)).map Cl.lits = (fcl.take k).map Cl.lits ++ [c.lits] := by rw [List.take_add_one, HC]; simp
  have h2 : (fun j : Int => if j = (k : Int) then (if 0 ≤ j ∧ j < (k : Int) then (1 : Int) else 0) + 1 else (if 0 ≤ j ∧ j < (k : Int) then 1 else 0)) = fun j => if 0 ≤ j ∧ j < ((k + 1 : Nat) : Int) then 1 else 0 := by
    funext j
    by_cases hj : j = (k : Int)
    · rw [if_pos hj, if_neg (by omega), if_pos (by omega)]; rfl
    · rw [if_neg hj]
      by_cases h2 : 0 ≤ j ∧ j < (k : Int)
      · rw [if_pos h2, if_pos (by omega)]
      · rw [if_neg h2, if_neg (by omega)]
  rw [h1]
  exact congrArg (fun a => ({ vars := vars, nf := fcl.length, order := order, val := List.replicate (vars.toNat + 1) 0, tr := [], cls := (fcl.take k).map Cl.lits ++ [c.lits], act := a, log := [], steps := 0 } : St)) h2
theorem makeInts (n : Nat) (hn : n ≤ LIM) : ∀ W : World, (Instr.makeSlice 26 (.int .i64 (n : Int)) (.int .i64 (n : Int))).run Try.prog W = .ok (.slice (some ⟨W.heap.size, 0, none⟩) n n) (W.alloc (.cells (madeCells #[.int .i64 0] n) 3)) := by
  intro W
  unfold LIM at hn
  obtain ⟨i0, hi, hzz⟩ := Option.map_eq_some_iff.1 infoInt
  exact run_make_row' 26 3 (.int .i64 0) 8 Try.underlying26 infoInt rfl .i64 .i64 n (by omega) (by omega) W
section
set_option maxRecDepth 100000 in
set_option maxHeartbeats 4000000 in
theorem begin_calls {w : World} {S : Nat → Prop} {Ac Ao : Option Addr} {cc co : Nat} {vars : Int} {fcl : List Cl} {order : List Int} (hv0 : 0 ≤ vars) (hv1 : vars < LIM) (hc : RowAt cK w S Ac fcl) (hn : fcl.length ≤ LIM) (hl : ∀ c ∈ fcl, c.lits.length ≤ LIM) :
    Calls Try.prog 18 #[.agg #[.int .i64 vars, .slice Ac fcl.length cc, .slice Ao order.length co]] w fun e w' => ∃ b vc vv vt vl m, e = .returned (.pointer (some ⟨b, 0, none⟩)) ∧
      Inv w NoM w' (sP b (.slice Ac fcl.length cc) (.slice Ao order.length co) vc vv vt vl m (begSt vars order fcl fcl.length)) := by
  have hmk := makeInts (vars.toNat + 1) (by unfold LIM at *; omega)
  obtain ⟨nv, rfl⟩ := Int.eq_ofNat_of_zero_le hv0
  unfold LIM at hv1 hn
  rw [Int.toNat_natCast] at hmk
  have hcast : ((nv + 1 : Nat) : Int) = (nv : Int) + 1 := by omega
  rw [hcast] at hmk
  have HC := hid hc
  have HL := hid hl
  clear hc hl hcast
  have hmm := @run_makeMap Try.prog
  have H0 := hid ((Inv.start0 w).boxc 28 [.int .i64 nv, .slice Ac fcl.length cc, .slice Ao order.length co])
  go_enter Try.func18, Try.ntmps18
  go_upto_region 1 with (fail)
  go_cut [3] (fun v3 wx => ∃ b m g, v3 = .pointer (some ⟨b, 0, none⟩) ∧ Hid (YLib.Inv w NoM wx (sPn 0 b (.slice Ac fcl.length cc) (.slice Ao order.length co) (.slice none 0 0) (.slice (some ⟨g, 0, none⟩) (nv + 1) (nv + 1)) (.slice none 0 0) (.slice none 0 0) m (begSt nv order fcl 0) ++ [blkP w.heap.size 28 [.int .i64 nv, .slice Ac fcl.length cc, .slice Ao order.length co]])))
  case first =>
    go_region
    · go_wp2_with (fail)
      go_meet
      case rel =>
        have h1 := (H0.out.mapMadec Try.prog 3 3).nilRow clK 26 |>.nilRow clK 26 |>.nilRow trK 70
        have h2 := h1.made (enc := Value.int .i64) (h1 := fun _ => rfl) 3 0 (nv + 1) (by omega)
        have h3 := h2.boxc 53 [.int .i64 nv, .slice Ac fcl.length cc, .slice Ao order.length co, .slice none 0 0, .map (some (w.heap.size + 1)), .slice (some ⟨w.heap.size + 1 + 1, 0, none⟩) (nv + 1) (nv + 1), .slice none 0 0, .slice none 0 0, .int .i64 0]
        simp only [World.size_alloc] at h3
        exact ⟨_, w.heap.size + 1, w.heap.size + 1 + 1, rfl, hid ((h3.weaken (i := 5) (c' := mapP Try.prog 3 3 (w.heap.size + 1) 0 (begSt nv order fcl 0).act) rfl (fun _ h => by rw [beg0]; exact h)).same rfl rfl rfl rfl)⟩
    · go_wp2_with (fail)
      go_meet
      case rel =>
        have h1 := H0.out.made (enc := Value.int .i64) (h1 := fun _ => rfl) 3 0 (nv + 1) (by omega)
        have h2 := (h1.mapMadec Try.prog 3 3).perm (.swap _ _ _)
        have h4 := h2.nilRow clK 26 |>.nilRow clK 26 |>.nilRow trK 70
        have h5 := h4.perm (List.perm_middle (l₁ := [_, _, _]))
        have h3 := h5.boxc 53 [.int .i64 nv, .slice Ac fcl.length cc, .slice Ao order.length co, .slice none 0 0, .map (some (w.heap.size + 1 + 1)), .slice (some ⟨w.heap.size + 1, 0, none⟩) (nv + 1) (nv + 1), .slice none 0 0, .slice none 0 0, .int .i64 0]
        simp only [World.size_alloc] at h3
        exact ⟨_, w.heap.size + 1 + 1, w.heap.size + 1, rfl, hid ((h3.weaken (i := 5) (c' := mapP Try.prog 3 3 (w.heap.size + 1 + 1) 0 (begSt nv order fcl 0).act) rfl (fun _ h => by rw [beg0]; exact h)).same rfl rfl rfl rfl)⟩
  case rest =>
    obtain ⟨b, m, g, rfl, H⟩ := hcut
    clear H0 hmk hmm
    have hc1 := (H.out.cell (i := 6) rfl 1 rfl).1
    go_wp2
    go_loopg [17] fcl.length (fun kq v17 wr => ∃ (k : Nat) (vc : Value) (l : List HP), v17 = .int .i64 k ∧ k ≤ fcl.length ∧ Hid (YLib.Inv w NoM wr (sP b (.slice Ac fcl.length cc) (.slice Ao order.length co) vc (.slice (some ⟨g, 0, none⟩) (nv + 1) (nv + 1)) (.slice none 0 0) (.slice none 0 0) m (begSt nv order fcl k) ++ l)) ∧ Hid (kq + k = fcl.length))
    case atStart => exact ⟨0, _, _, rfl, by omega, H, hid rfl⟩
    case round =>
      clear H hc1
      obtain ⟨k, vc, l, rfl, hk, H, HK⟩ := hrel
      by_cases hlt : k < fcl.length
      · obtain ⟨c, hc⟩ : ∃ c, fcl[k]? = some c := ⟨_, List.getElem?_eq_getElem hlt⟩
        obtain ⟨cb, cof, A', c', rfl, hc1, hc2, hle, hr⟩ := cAt (HC.out.chg H.out.chg (fun _ _ => id)) hc
        have hla := HL.out c (List.mem_of_getElem? hc)
        have hlen : (begSt nv order fcl k).cls.length = k := by simp [begSt]; omega
        have HA := hid (fun o => add_calls (H.out.alloc o) (S := fun _ => True) (cc := c') (c := c.lits) ((hr.chg ((Chg.refl NoM wr).alloc o) (fun _ _ => id)).mono (fun _ _ => trivial)) hla (by rw [hlen]; unfold LIM; omega) (by show 0 ≤ (if _ then (1 : Int) else 0) ∧ (if _ then (1 : Int) else 0) ≤ 1; split <;> omega))
        rw [hlen] at HA
        clear hlen hla
        go_wp2_with (first | (go_at_call 23; refine (HA.out _).mono ?_; rintro e w' ⟨rfl, vc', h1⟩; have H1 := hid h1; clear h1))
        go_roundg (gk - 1)
        case measure => have := HK.out; omega
        case rel =>
          refine ⟨k + 1, vc', l, by go_num, by omega, hid (begS (HC := hc) ▸ H1.out), hid (by have := HK.out; omega)⟩
      · obtain rfl : k = fcl.length := by omega
        go_wp2
        go_ret
        exact ⟨b, vc, _, _, _, m, rfl, H.out.init⟩
end
end Go.Proofs.Ytcglokippflioaa

/-! cnf.Fit, of a fit formula. -/
namespace Go.Proofs.Ytcglokippflioaa
open Go Go.RowKit YLib
theorem size_lit {vars x : Int} (h : litOk vars x) (hv : vars ≤ 4096) : 0 ≤ size x ∧ size x ≤ vars ∧ -4096 ≤ x ∧ x ≤ 4096 ∧ 1 ≤ size x := by
  obtain ⟨h0, h1, h2⟩ := h
  unfold size
  split <;> omega
set_option maxRecDepth 100000 in
theorem literal_calls {x vars : Int} (h : litOk vars x) (hv0 : 0 ≤ vars) (hv : vars ≤ 4096) (w : World) : Calls Try.prog 32 #[.int .i64 x, .int .i64 vars] w fun e w' => e = .returned (.bool true) ∧ w = w' := by
  obtain ⟨h0, h1, h2⟩ := h
  have h0' : (x != 0) = true := by simpa using h0
  go_enter Try.func32, Try.ntmps32
  go_wp2
  go_ret
  exact ⟨rfl, rfl⟩
set_option maxRecDepth 100000 in
theorem csize_calls (x : Int) (hx : -4096 ≤ x) (hx2 : x ≤ 4096) (w : World) : Calls Try.prog 39 #[.int .i64 x] w fun e w' => e = .returned (.int .i64 (size x)) ∧ w = w' := by
  go_enter Try.func39, Try.ntmps39
  go_wp2
  go_ret
  have : max x (-x) = size x := by unfold size; split <;> omega
  exact ⟨by rw [← this]; rfl, rfl⟩
set_option maxRecDepth 100000 in
set_option maxHeartbeats 1000000 in
theorem clean_calls {vars : Int} (hv0 : 0 ≤ vars) (hv : vars ≤ 4096) {w : World} {S : Nat → Prop} {A : Option Addr} {cc : Nat} {l : List Int} (hl : RowAt Kind.int w S A l) (hf : fitC vars l) (hn : l.length ≤ LIM) :
    Calls Try.prog 31 #[.slice A l.length cc, .int .i64 vars] w fun e w' => e = .returned (.bool true) ∧ w = w' := by
  have HL := hid hl; clear hl
  have HF := hid hf; clear hf
  unfold LIM at hn
  go_enter Try.func31, Try.ntmps31
  go_wp2
  go_loopg [9] l.length (fun kq v9 wq => ∃ (k : Nat), v9 = .int .i64 k ∧ k ≤ l.length ∧ Hid (kq + k = l.length) ∧ wq = w)
  case atStart => exact ⟨0, rfl, by omega, hid (by omega), rfl⟩
  case round =>
    obtain ⟨k, rfl, hk, HK, hww⟩ := hrel
    subst hww
    by_cases hlt : k < l.length
    · obtain ⟨hx1, hx2⟩ := HF.out k hlt
      obtain ⟨x, hx⟩ : ∃ x, l[k]? = some x := ⟨_, List.getElem?_eq_getElem hlt⟩
      have hxx : l[k] = x := (List.getElem?_eq_some_iff.1 hx).2
      rw [hxx] at hx1 hx2
      obtain ⟨b, o, rfl, hxc⟩ := intAt HL.out hx
      obtain ⟨s1, s2, s3, s4, _⟩ := size_lit hx1 hv
      have HLi := hid (literal_calls hx1 hv0 hv)
      have HSx := hid (csize_calls x s3 s4)
      clear hx hxx
      by_cases hk0 : 0 < k
      · obtain ⟨y, hy⟩ : ∃ y, l[k - 1]? = some y := ⟨_, List.getElem?_eq_getElem (by omega)⟩
        obtain ⟨hy1, _⟩ := HF.out (k - 1) (by omega)
        have hyy : l[k - 1] = y := (List.getElem?_eq_some_iff.1 hy).2
        rw [hyy] at hy1
        obtain ⟨t1, t2, t3, t4, _⟩ := size_lit hy1 hv
        have HSy := hid (csize_calls y t3 t4)
        have hyx := hx2 hk0
        have hg : gi l ((k : Int) - 1) = y := by unfold gi; rw [List.getD_eq_getElem?_getD, show ((k : Int) - 1).toNat = k - 1 by omega, hy]; rfl
        rw [hg] at hyx
        obtain ⟨b2, o2, hA, hyc⟩ := intAt HL.out hy
        injection hA with hA
        injection hA with hA1 hA2
        subst hA1 hA2
        have hyc' : wr.cell? ⟨b, o + ((k : Int) - 1).toNat, none⟩ = some (.int .i64 y) := by rw [show ((k : Int) - 1).toNat = k - 1 by omega]; exact hyc
        have hk0' : (0 : Int) < k := by omega
        have hi1 : 0 ≤ (k : Int) - 1 := by omega
        have hi2 : (k : Int) - 1 < l.length := by omega
        clear hyy hy hg
        go_wp2_with (first
          | (go_at_call 32; refine (HLi.out _).mono ?_; rintro e w' ⟨rfl, rfl⟩)
          | (go_at_call 39; first | (refine (HSy.out _).mono ?_; rintro e w' ⟨rfl, rfl⟩) | (refine (HSx.out _).mono ?_; rintro e w' ⟨rfl, rfl⟩)))
        go_roundg (gk - 1)
        case measure => have := HK.out; omega
        case rel => exact ⟨k + 1, by go_num, by omega, hid (by have := HK.out; omega), rfl⟩
      · obtain rfl : k = 0 := by omega
        rw [Nat.add_zero] at hxc
        go_wp2_with (first
          | (go_at_call 32; refine (HLi.out _).mono ?_; rintro e w' ⟨rfl, rfl⟩))
        go_roundg (gk - 1)
        case measure => have := HK.out; omega
        case rel => exact ⟨1, by go_num, by omega, hid (by have := HK.out; omega), rfl⟩
    · go_wp2
      go_ret
      exact ⟨rfl, rfl⟩
/-- What the second walk of Fit has seen. -/
def seenOf (nv : Nat) (pre : List Int) (sk : List Int) : Prop := sk.length = 2 * nv + 1 ∧ ∀ y, litOk nv y → gi sk (y + nv) = if y ∈ pre then 1 else 0
theorem seen0 (nv : Nat) : seenOf nv [] (List.replicate (2 * nv + 1) 0) := by
  refine ⟨by simp, fun y hy => ?_⟩
  unfold gi
  obtain ⟨_, _, _⟩ := hy
  rw [List.getD_eq_getElem?_getD, List.getElem?_replicate, if_pos (by omega)]
  simp
theorem seen1 {nv : Nat} {pre sk : List Int} {x : Int} (h : seenOf nv pre sk) (hx : litOk nv x) : seenOf nv (pre ++ [x]) (sk.set (x + nv).toNat 1) := by
  obtain ⟨h1, h2⟩ := h
  refine ⟨by rw [List.length_set]; exact h1, fun y hy => ?_⟩
  have := h2 y hy
  unfold gi at this ⊢
  rw [List.getD_eq_getElem?_getD] at this ⊢
  obtain ⟨_, _, _⟩ := hx
  obtain ⟨_, _, _⟩ := hy
  by_cases hxy : y = x
  · subst hxy
    rw [List.getElem?_set_self (by omega)]
    simp
  · rw [List.getElem?_set_ne (by omega), this]
    simp [hxy]
set_option maxRecDepth 100000 in
set_option maxHeartbeats 4000000 in
theorem Fit_calls {w : World} {S : Nat → Prop} {Ac Ao : Option Addr} {cc co : Nat} {vars : Int} {fcl : List Cl} {order : List Int} (hf : fitF vars fcl order) (hc : RowAt cK w S Ac fcl) (ho : RowAt Kind.int w S Ao order) (hl : ∀ c ∈ fcl, c.lits.length ≤ LIM) (hol : order.length ≤ LIM) :
    Calls Try.prog 22 #[.agg #[.int .i64 vars, .slice Ac fcl.length cc, .slice Ao order.length co]] w fun e w' => e = .returned (.bool true) ∧ Inv w NoM w' [] := by
  obtain ⟨hv0, hv, hn, hcl, hlit, hnd⟩ := hf
  obtain ⟨nv, rfl⟩ := Int.eq_ofNat_of_zero_le hv0
  have hmk := makeInts (2 * nv + 1) (by unfold LIM; omega)
  have hcast : ((2 * nv + 1 : Nat) : Int) = 2 * (nv : Int) + 1 := by omega
  rw [hcast] at hmk
  have HC := hid hc
  have HO := hid ho
  have HL := hid hl
  have HCL := hid hcl
  have HLT := hid hlit
  have HND := hid hnd
  unfold LIM at hol
  clear hc ho hl hcl hlit hnd hcast
  have H0 := hid ((Inv.start0 w).boxc 28 [.int .i64 nv, .slice Ac fcl.length cc, .slice Ao order.length co])
  have hB : w.heap.size = w.heap.size := rfl
  go_enter Try.func22, Try.ntmps22
  go_wp2
  go_loopg [25] fcl.length (fun kq v25 wr => ∃ (k : Nat), v25 = .int .i64 k ∧ k ≤ fcl.length ∧ Hid (YLib.Inv w NoM wr [blkP w.heap.size 28 [.int .i64 nv, .slice Ac fcl.length cc, .slice Ao order.length co]]) ∧ Hid (kq + k = fcl.length))
  case atStart => exact ⟨0, rfl, by omega, H0, hid rfl⟩
  case round =>
    clear H0
    obtain ⟨k, rfl, hk, H, HK⟩ := hrel
    have hb0 := (H.out.cell (i := 0) rfl 0 rfl).1
    have hb2 := (H.out.cell (i := 0) rfl 2 rfl).1
    by_cases hlt : k < fcl.length
    · obtain ⟨c, hc⟩ : ∃ c, fcl[k]? = some c := ⟨_, List.getElem?_eq_getElem hlt⟩
      obtain ⟨cb, cof, A', c', rfl, hc1, hc2, hle, hr⟩ := cAt (HC.out.chg H.out.chg (fun _ _ => id)) hc
      have hla := HL.out c (List.mem_of_getElem? hc)
      have HA := hid (fun o => clean_calls (cc := c') (w := wr.alloc o) hv0 hv ((hr.chg ((Chg.refl NoM wr).alloc o) (fun _ _ => id)).mono (fun _ _ => trivial)) (HCL.out c (List.mem_of_getElem? hc)) hla)
      have hBl : w.heap.size < wr.heap.size := by obtain ⟨S, hS, _⟩ := H.out.get (i := 0) rfl; exact heap_lt hS.1
      clear hla hc hr
      go_wp2_with (first | (go_at_call 31; refine (HA.out _).mono ?_; rintro e w' ⟨rfl, rfl⟩))
      go_roundg (gk - 1)
      case measure => have := HK.out; omega
      case rel => exact ⟨k + 1, by go_num, by omega, hid (H.out.alloc _), hid (by have := HK.out; omega)⟩
    · go_upto_region 10 with (fail)
      have H1 := hid (H.out.made (enc := Value.int .i64) (h1 := fun _ => rfl) 3 0 (2 * nv + 1) (by omega))
      generalize wr.alloc (.cells (madeCells #[Value.int .i64 0] (2 * nv + 1)) 3) = w1 at *
      generalize wr.heap.size = g at *
      clear H hmk hb0 hb2
      have hb0 := (H1.out.cell (i := 1) rfl 0 rfl).1
      have hb2 := (H1.out.cell (i := 1) rfl 2 rfl).1
      go_wp2
      go_loopg [44] order.length (fun kq v44 wr => ∃ (k : Nat) (sk : List Int), v44 = .int .i64 k ∧ k ≤ order.length ∧ Hid (seenOf nv (order.take k) sk) ∧ Hid (YLib.Inv w NoM wr [rowP Kind.int 3 (.slice (some ⟨g, 0, none⟩) (2 * nv + 1) (2 * nv + 1)) sk, blkP w.heap.size 28 [.int .i64 nv, .slice Ac fcl.length cc, .slice Ao order.length co]]) ∧ Hid (kq + k = order.length))
      case atStart => exact ⟨0, _, rfl, by omega, hid (seen0 nv), H1, hid rfl⟩
      case round =>
        clear H1 hb0 hb2
        obtain ⟨k, sk, rfl, hk, HS, H, HK⟩ := hrel
        have hb0 := (H.out.cell (i := 1) rfl 0 rfl).1
        by_cases hlt : k < order.length
        · obtain ⟨x, hx⟩ : ∃ x, order[k]? = some x := ⟨_, List.getElem?_eq_getElem hlt⟩
          have hlx := HLT.out x (List.mem_of_getElem? hx)
          obtain ⟨b, o, rfl, hxc⟩ := intAt (HO.out.chg H.out.chg (fun _ _ => id)) hx
          have HLi := hid (literal_calls hlx hv0 hv)
          obtain ⟨hl0, hl1, hl2⟩ := hlx
          have hni : x ∉ order.take k := by
            intro hm
            obtain ⟨j, hj, e⟩ := List.mem_take_iff_getElem.1 hm
            have h1 := (List.getElem?_eq_some_iff.1 hx).2
            exact (List.pairwise_iff_getElem.1 HND.out) j k (by omega) hlt (by omega) (by rw [e, h1])
          have hsn := HS.out.2 x ⟨hl0, hl1, hl2⟩
          rw [if_neg hni] at hsn
          have hsl := HS.out.1
          obtain ⟨hs1, hs2⟩ := H.out.cellRow (i := 0) rfl (x + nv).toNat (by omega)
          have hz : sk[(x + nv).toNat]'(by omega) = 0 := by
            have := hsn; unfold gi at this; rw [List.getD_eq_getElem?_getD, List.getElem?_eq_getElem (by omega)] at this; exact this
          rw [hz] at hs1
          have H2 := hid (H.out.setRow (i := 0) rfl (x + nv).toNat 1)
          have HS2 := hid (seen1 HS.out ⟨hl0, hl1, hl2⟩)
          have htk : order.take (k + 1) = order.take k ++ [x] := by rw [List.take_add_one, hx]; rfl
          rw [← htk] at HS2
          obtain ⟨hm0, hm1⟩ : 0 ≤ x + (nv : Int) ∧ x + (nv : Int) < 2 * nv + 1 := by omega
          have hx1 : -4096 ≤ x := by omega
          have hx2 : x ≤ 4096 := by omega
          clear hz hsn hni htk hx hsl HS
          go_wp2_with (first | (go_at_call 32; refine (HLi.out _).mono ?_; rintro e w' ⟨rfl, rfl⟩))
          go_roundg (gk - 1)
          case measure => have := HK.out; omega
          case rel => exact ⟨k + 1, _, by go_num, by omega, HS2, H2, hid (by have := HK.out; omega)⟩
        · go_wp2
          go_ret
          exact ⟨rfl, H.out.tail.tail⟩
end Go.Proofs.Ytcglokippflioaa
