import Derived.Test.YtcglokippflioaaPropW
import Derived.Deep.OwnRows
import Derived.Carry
/-! begin. -/
namespace Go.Proofs.Ytcglokippflioaa
open Go Go.RowKit YLib
theorem beg0 (vars : Int) (order : List Int) (fcl : List Cl) : (begSt vars order fcl 0).act = fun _ => 0 := by
  funext j
  show (if 0 ≤ j ∧ j < ((0 : Nat) : Int) then (1 : Int) else 0) = 0
  rw [if_neg (by omega)]
theorem begS {vars : Int} {order : List Int} {fcl : List Cl} {k : Nat} {c : Cl} (HC : fcl[k]? = some c) :
    ({ begSt vars order fcl k with cls := (begSt vars order fcl k).cls ++ [c.lits], act := fun j => if j = (k : Int) then (begSt vars order fcl k).act j + 1 else (begSt vars order fcl k).act j } : St) = begSt vars order fcl (k + 1) := by
  unfold begSt
  have h1 : (fcl.take (k + 1)).map Cl.lits = (fcl.take k).map Cl.lits ++ [c.lits] := by rw [List.take_add_one, HC]; simp
  have h2 : (fun j : Int => if j = (k : Int) then (if 0 ≤ j ∧ j < (k : Int) then (1 : Int) else 0) + 1 else (if 0 ≤ j ∧ j < (k : Int) then 1 else 0)) = fun j => if 0 ≤ j ∧ j < ((k + 1 : Nat) : Int) then 1 else 0 := by
    funext j
    by_cases hj : j = (k : Int)
    · rw [if_pos hj, if_neg (by omega), if_pos (by omega)]; rfl
    · rw [if_neg hj]
      by_cases h2 : 0 ≤ j ∧ j < (k : Int)
      · rw [if_pos h2, if_pos (by omega)]
      · rw [if_neg h2, if_neg (by omega)]
  rw [h1]
  exact congrArg (fun a => ({ vars := vars, nf := fcl.length, order := order, val := List.replicate (vars.toNat + 1) 0, tr := [], cls := (fcl.take k).map Cl.lits ++ [c.lits], act := a, log := [], steps := 0 } : St)) h2
theorem makeInts (n : Nat) (hn : n ≤ LIM) : ∀ W : World, (Instr.makeSlice 26 (.int .i64 (n : Int)) (.int .i64 (n : Int))).run Try.prog W = .ok (.slice (some ⟨W.heap.size, 0, none⟩) n n) (W.alloc (.cells (madeCells #[.int .i64 0] n) 3)) := by
  intro W
  unfold LIM at hn
  obtain ⟨i0, hi, hzz⟩ := Option.map_eq_some_iff.1 infoInt
  exact run_make_row' 26 3 (.int .i64 0) 8 Try.underlying26 infoInt rfl .i64 .i64 n (by omega) (by omega) W
section
set_option maxRecDepth 100000 in
set_option maxHeartbeats 4000000 in
theorem begin_calls {w : World} {S : Nat → Prop} {Ac Ao : Option Addr} {cc co : Nat} {vars : Int} {fcl : List Cl} {order : List Int} (hv0 : 0 ≤ vars) (hv1 : vars < LIM) (hc : RowAt cK w S Ac fcl) (hn : fcl.length ≤ LIM) (hl : ∀ c ∈ fcl, c.lits.length ≤ LIM) :
    Calls Try.prog 18 #[.agg #[.int .i64 vars, .slice Ac fcl.length cc, .slice Ao order.length co]] w fun e w' => ∃ b vc vv vt vl m, e = .returned (.pointer (some ⟨b, 0, none⟩)) ∧
      Inv w NoM w' (sP b (.slice Ac fcl.length cc) (.slice Ao order.length co) vc vv vt vl m (begSt vars order fcl fcl.length)) := by
  have hmk := makeInts (vars.toNat + 1) (by unfold LIM at *; omega)
  obtain ⟨nv, rfl⟩ := Int.eq_ofNat_of_zero_le hv0
  unfold LIM at hv1 hn
  rw [Int.toNat_natCast] at hmk
  have hcast : ((nv + 1 : Nat) : Int) = (nv : Int) + 1 := by omega
  rw [hcast] at hmk
  have HC := hid hc
  have HL := hid hl
  clear hc hl hcast
  have hmm := @run_makeMap Try.prog
  have H0 := hid ((Inv.start0 w).boxc 28 [.int .i64 nv, .slice Ac fcl.length cc, .slice Ao order.length co])
  go_enter Try.func18, Try.ntmps18
  go_upto_region 1 with (fail)
  go_cut [3] (fun v3 wx => ∃ b m g, v3 = .pointer (some ⟨b, 0, none⟩) ∧ Hid (YLib.Inv w NoM wx (sPn 0 b (.slice Ac fcl.length cc) (.slice Ao order.length co) (.slice none 0 0) (.slice (some ⟨g, 0, none⟩) (nv + 1) (nv + 1)) (.slice none 0 0) (.slice none 0 0) m (begSt nv order fcl 0) ++ [blkP w.heap.size 28 [.int .i64 nv, .slice Ac fcl.length cc, .slice Ao order.length co]])))
  case first =>
    go_region
    · go_wp2_with (fail)
      go_meet
      case rel =>
        have h1 := (H0.out.mapMadec Try.prog 3 3).nilRow clK 26 |>.nilRow clK 26 |>.nilRow trK 70
        have h2 := h1.made (enc := Value.int .i64) (h1 := fun _ => rfl) 3 0 (nv + 1) (by omega)
        have h3 := h2.boxc 53 [.int .i64 nv, .slice Ac fcl.length cc, .slice Ao order.length co, .slice none 0 0, .map (some (w.heap.size + 1)), .slice (some ⟨w.heap.size + 1 + 1, 0, none⟩) (nv + 1) (nv + 1), .slice none 0 0, .slice none 0 0, .int .i64 0]
        simp only [World.size_alloc] at h3
        exact ⟨_, w.heap.size + 1, w.heap.size + 1 + 1, rfl, hid ((h3.weaken (i := 5) (c' := mapP Try.prog 3 3 (w.heap.size + 1) 0 (begSt nv order fcl 0).act) rfl (fun _ h => by rw [beg0]; exact h)).same rfl rfl rfl rfl)⟩
    · go_wp2_with (fail)
      go_meet
      case rel =>
        have h1 := H0.out.made (enc := Value.int .i64) (h1 := fun _ => rfl) 3 0 (nv + 1) (by omega)
        have h2 := (h1.mapMadec Try.prog 3 3).perm (.swap _ _ _)
        have h4 := h2.nilRow clK 26 |>.nilRow clK 26 |>.nilRow trK 70
        have h5 := h4.perm (List.perm_middle (l₁ := [_, _, _]))
        have h3 := h5.boxc 53 [.int .i64 nv, .slice Ac fcl.length cc, .slice Ao order.length co, .slice none 0 0, .map (some (w.heap.size + 1 + 1)), .slice (some ⟨w.heap.size + 1, 0, none⟩) (nv + 1) (nv + 1), .slice none 0 0, .slice none 0 0, .int .i64 0]
        simp only [World.size_alloc] at h3
        exact ⟨_, w.heap.size + 1 + 1, w.heap.size + 1, rfl, hid ((h3.weaken (i := 5) (c' := mapP Try.prog 3 3 (w.heap.size + 1 + 1) 0 (begSt nv order fcl 0).act) rfl (fun _ h => by rw [beg0]; exact h)).same rfl rfl rfl rfl)⟩
  case rest =>
    obtain ⟨b, m, g, rfl, H⟩ := hcut
    clear H0 hmk hmm
    have hc1 := (H.out.cell (i := 6) rfl 1 rfl).1
    go_wp2
    go_loopg [17] fcl.length (fun kq v17 wr => ∃ (k : Nat) (vc : Value) (l : List HP), v17 = .int .i64 k ∧ k ≤ fcl.length ∧ Hid (YLib.Inv w NoM wr (sP b (.slice Ac fcl.length cc) (.slice Ao order.length co) vc (.slice (some ⟨g, 0, none⟩) (nv + 1) (nv + 1)) (.slice none 0 0) (.slice none 0 0) m (begSt nv order fcl k) ++ l)) ∧ Hid (kq + k = fcl.length))
    case atStart => exact ⟨0, _, _, rfl, by omega, H, hid rfl⟩
    case round =>
      clear H hc1
      obtain ⟨k, vc, l, rfl, hk, H, HK⟩ := hrel
      by_cases hlt : k < fcl.length
      · obtain ⟨c, hc⟩ : ∃ c, fcl[k]? = some c := ⟨_, List.getElem?_eq_getElem hlt⟩
        obtain ⟨cb, cof, A', c', rfl, hc1, hc2, hle, hr⟩ := cAt (HC.out.chg H.out.chg (fun _ _ => id)) hc
        have hla := HL.out c (List.mem_of_getElem? hc)
        have hlen : (begSt nv order fcl k).cls.length = k := by simp [begSt]; omega
        have HA := hid (fun o => add_calls (H.out.alloc o) (S := fun _ => True) (cc := c') (c := c.lits) ((hr.chg ((Chg.refl NoM wr).alloc o) (fun _ _ => id)).mono (fun _ _ => trivial)) hla (by rw [hlen]; unfold LIM; omega) (by show 0 ≤ (if _ then (1 : Int) else 0) ∧ (if _ then (1 : Int) else 0) ≤ 1; split <;> omega))
        rw [hlen] at HA
        clear hlen hla
        go_wp2_with (first | (go_at_call 23; refine (HA.out _).mono ?_; rintro e w' ⟨rfl, vc', h1⟩; have H1 := hid h1; clear h1))
        go_roundg (gk - 1)
        case measure => have := HK.out; omega
        case rel =>
          refine ⟨k + 1, vc', l, by go_num, by omega, hid (begS (HC := hc) ▸ H1.out), hid (by have := HK.out; omega)⟩
      · obtain rfl : k = fcl.length := by omega
        go_wp2
        go_ret
        exact ⟨b, vc, _, _, _, m, rfl, H.out.init⟩
end
end Go.Proofs.Ytcglokippflioaa
