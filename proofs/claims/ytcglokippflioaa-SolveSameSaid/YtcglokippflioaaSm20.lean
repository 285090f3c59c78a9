/- Texts of the claim, in one: LearnB. -/
import Derived.Test.YtcglokippflioaaSm12
import Derived.Test.YtcglokippflioaaSm17

/-! learn: back, what it hands out. -/
namespace Go.Proofs.Ytcglokippflioaa
open Go Go.RowKit YLib
section
variable {w0 w : World} {T : Nat → Prop} {rest : List HP} {m n gF B4 : Nat} {f : Int → Int} {tr : List Tr} {A2 : Option Addr} {c2 : Nat}
/-- A map's entry written: only the map's block turns. -/
theorem _root_.Go.Proofs.Ytcglokippflioaa.YLib.Inv.mapPutC {P : Program} {w0 w : World} {T : Nat → Prop} {cs : List HP} {k e t : TypeId} {b n : Nat} {f : Int → Int} (ht : P.underlying t = some (.map k e)) (hk : P.underlying k = some (.int .i64)) (he : P.underlying e = some (.int .i64))
    (h : Inv w0 T w cs) {i : Nat} (hi : cs[i]? = some (mapP P k e b n f)) (hn : n < 9223372036854775807) {x y : Int} (hx : (Lit.int .i64 x).wf = true) (hy : (Lit.int .i64 y).wf = true) :
    ∃ w', (Instr.mapUpdate t (.map (some b)) (.int .i64 x) (.int .i64 y)).run P w = .ok () w' ∧ Chg (fun k => k = b) w w' ∧ Inv w0 T w' (cs.set i (mapP P k e b (n + 1) (fun j => if j = x then y else f j))) := by
  obtain ⟨w1, hr1, h1⟩ := h.mapPut ht hk he hi hn hx hy
  obtain ⟨S, ⟨hb, D, hD, hf⟩, _⟩ := h.get hi
  obtain ⟨w', hrun, _, hg⟩ := hD.update (Maps.int_keyed hk) ht (by unfold maxLen; omega) (Maps.keyOf_int_mk hk hx) (plainElem_int he hy)
  rw [hr1] at hrun
  injection hrun with _ hrun
  subst hrun
  exact ⟨w1, hr1, (Chg.refl _ w).grown hg (fun k hk _ => by injection hk with hk; exact hk.symm), h1⟩
theorem _root_.Go.Proofs.Ytcglokippflioaa.YLib.RowAt.chgB {α : Type} {d : Kind α} {B0 m : Nat} {w w' : World} {A : Option Addr} {xs : List α} (h : RowAt d w (fun k => k < B0) A xs) (hc : Chg (fun k => k = m) w w') (hm : B0 ≤ m) : RowAt d w' (fun k => k < B0) A xs :=
  h.chg hc (fun k hk e => by have hk : k < B0 := hk; have e : k = m := e; omega)
set_option maxRecDepth 100000 in
set_option maxHeartbeats 1000000 in
theorem mark_calls {B0 : Nat} {A : Option Addr} {cc : Nat} {c : List Int} {but : Int} (h : Inv w0 T w (mapP Try.prog 3 3 m n f :: blkP gF 50 [.map (some m)] :: rest))
    (hB4 : w.cell? ⟨B4, 0, none⟩ = some (.slice A2 tr.length c2)) (hBm : B4 ≠ m) (hm : B0 ≤ m) (htr : RowAt trK w (fun k => k < B0) A2 tr) (hrow : RowAt Kind.int w (fun k => k < B0) A c) (hn : n + c.length < 9223372036854775807) (hn2 : tr.length ≤ 9223372036854775807) (hb : ∀ x ∈ c, bd x) :
    Calls Try.prog 57 #[.slice A c.length cc, .int .i64 but, .pointer (some ⟨B4, 0, none⟩), .pointer (some ⟨gF, 0, none⟩)] w fun e w' => e = .returned (.tuple #[]) ∧
      ∃ n', n' ≤ n + c.length ∧ Inv w0 T w' (mapP Try.prog 3 3 m n' (markL tr but c f) :: blkP gF 50 [.map (some m)] :: rest) := by
  have H := hid h; clear h
  have HB4 := hid hB4
  have HTR := hid htr
  have HRW := hid hrow
  clear hB4 htr hrow
  have HB := hid hb; clear hb
  obtain ⟨nc, hnc⟩ : ∃ n, c.length = n := ⟨_, rfl⟩
  have HN := hid hnc
  rw [hnc] at hn ⊢
  clear hnc
  obtain ⟨fN, hfN⟩ : ∃ r, markL tr but c f = r := ⟨_, rfl⟩
  have HF0 := hid hfN
  rw [hfN]
  clear hfN
  go_enter Try.func57, Try.ntmps57
  go_wp2
  go_loopg [12] nc (fun kq v12 wr => ∃ (k n1 : Nat) (f1 : Int → Int), v12 = .int .i64 k ∧ k ≤ nc ∧ n1 ≤ n + k ∧ Hid (markL tr but (c.drop k) f1 = fN) ∧ Hid (kq + k = nc) ∧ Hid (Chg (fun k => k = m) w wr) ∧ Hid (Inv w0 T wr (mapP Try.prog 3 3 m n1 f1 :: blkP gF 50 [.map (some m)] :: rest)))
  case atStart => exact ⟨0, n, f, rfl, by omega, by omega, HF0, hid (by omega), hid (Chg.refl _ _), H⟩
  case round =>
    clear H HF0
    obtain ⟨k, n1, f1, rfl, hk, hn1, HF, HK, HG, H⟩ := hrel
    by_cases hlt : k < nc
    · obtain ⟨x, hx⟩ : ∃ x, c[k]? = some x := ⟨_, List.getElem?_eq_getElem (by have := HN.out; omega)⟩
      have hB4 := HG.out.cell (b := B4) hBm HB4.out
      have htr := HTR.out.chgB HG.out hm
      obtain ⟨b, o, rfl, hcx⟩ := intAt (HRW.out.chgB HG.out hm) hx
      have HXB := HB.out x (List.mem_of_getElem? hx)
      have HFA := hid (falseAt_calls (w := wr) (c := c2) HXB.1 HXB.2 htr hn2)
      have hF := HF.out
      rw [drop_of hx] at hF
      unfold markL at hF
      unfold isF at hF
      have hfl := fAt_lt tr x
      have hge := (idxI_neg (fun t : Tr => t.lit == -x) tr).1
      have hge : -1 ≤ fAt tr x := hge
      clear htr hx HXB
      generalize fAt tr x = i at *
      by_cases hf : 0 ≤ i ∧ x ≠ but
      · have hd : (x != but) = true := by simpa using hf.2
        rw [decide_eq_true hf.1] at HFA
        rw [if_pos ⟨decide_eq_true hf.1, hf.2⟩] at hF
        have hmx : max i 0 = i := by omega
        rw [hmx] at HFA
        have hf0 := hf.1
        have HFx := hid hF
        clear hF hf hmx
        go_wp2_with (go_at_call 50; refine HFA.out.mono ?_; rintro e w' ⟨rfl, h1⟩; have hI := h1.inv H.out; have hcg := (hI.cell (i := 1) rfl 0 rfl).1; obtain ⟨w3, hup, hc3, h3⟩ := hI.mapPutC Try.underlying50 Try.underlying3 Try.underlying3 (i := 0) rfl (by omega) (YLib.wf_i64 (x := i) (by omega)) (YLib.wf_i64 (x := 1) (by omega)); have H3 := hid h3; have HC3 := hid ((HG.out.trans (h1.chg (fun k => k = m)) (fun _ => id) (fun _ _ => id)).trans hc3 (fun _ => id) (fun _ _ => id)); clear h1 hI h3 hc3)
        go_roundg (gk - 1)
        case measure => have := HK.out; omega
        case rel => exact ⟨k + 1, n1 + 1, _, by go_num, by omega, by omega, HFx, hid (by have := HK.out; omega), HC3, H3⟩
      · rw [if_neg (by simpa using hf)] at hF
        have HFx := hid hF
        clear hF
        by_cases hf0 : 0 ≤ i
        · have hxb : x = but := Classical.byContradiction fun h => hf ⟨hf0, h⟩
          have hd : (x != but) = false := by simpa using hxb
          rw [decide_eq_true hf0] at HFA
          clear hf hxb
          obtain ⟨j, hj⟩ : ∃ j, max i 0 = j := ⟨_, rfl⟩
          rw [hj] at HFA
          clear hj
          go_wp2_with (go_at_call 50; refine HFA.out.mono ?_; rintro e w' ⟨rfl, h1⟩; have H3 := hid (h1.inv H.out); have HC3 := hid (HG.out.trans (h1.chg (fun k => k = m)) (fun _ => id) (fun _ _ => id)); clear h1)
          go_roundg (gk - 1)
          case measure => have := HK.out; omega
          case rel => exact ⟨k + 1, n1, _, by go_num, by omega, by omega, HFx, hid (by have := HK.out; omega), HC3, H3⟩
        · rw [decide_eq_false hf0] at HFA
          clear hf
          obtain ⟨j, hj⟩ : ∃ j, max i 0 = j := ⟨_, rfl⟩
          rw [hj] at HFA
          clear hj hf0
          go_wp2_with (go_at_call 50; refine HFA.out.mono ?_; rintro e w' ⟨rfl, h1⟩; have H3 := hid (h1.inv H.out); have HC3 := hid (HG.out.trans (h1.chg (fun k => k = m)) (fun _ => id) (fun _ _ => id)); clear h1)
          go_roundg (gk - 1)
          case measure => have := HK.out; omega
          case rel => exact ⟨k + 1, n1, _, by go_num, by omega, by omega, HFx, hid (by have := HK.out; omega), HC3, H3⟩
    · obtain rfl : k = nc := by omega
      have hF := HF.out
      rw [List.drop_eq_nil_of_le (by have := HN.out; omega)] at hF
      unfold markL at hF
      subst hF
      go_wp2
      go_end0
      exact ⟨rfl, n1, hn1, H.out⟩
end
end Go.Proofs.Ytcglokippflioaa
