/- Texts of the claim, in one: AddW, ForgetW, PropW, LearnA, LearnD, LearnE, LearnF, LearnG, LearnH, LearnR, ConfW. -/
import Derived.Deep.DeepCutAuto
import Derived.Lib.SlicesCompact
import Derived.Test.YtcglokippflioaaSm1
import Derived.Test.YtcglokippflioaaSm5
import Derived.Test.YtcglokippflioaaSm13
import Derived.Test.YtcglokippflioaaSm16

/-! add. -/
namespace Go.Proofs.Ytcglokippflioaa
open Go Go.RowKit YLib
section
variable {w0 w : World} {T : Nat → Prop} {b m : Nat} {fc fo vc vv vt vl : Value} {s : St} {rest : List HP}
set_option maxRecDepth 100000 in
set_option maxHeartbeats 2000000 in
theorem add_calls (h : Inv w0 T w (sP b fc fo vc vv vt vl m s ++ rest)) {S : Nat → Prop} {A : Option Addr} {cc : Nat} {c : List Int} (hc : RowAt Kind.int w S A c) (hb : c.length ≤ LIM) (hl : s.cls.length < LIM) (ha : 0 ≤ s.act s.cls.length ∧ s.act s.cls.length ≤ 1) :
    Calls Try.prog 23 #[.pointer (some ⟨b, 0, none⟩), .slice A c.length cc] w fun e w' => e = .returned (.int .i64 s.cls.length) ∧
      ∃ vc', Inv w0 T w' (sP b fc fo vc' vv vt vl m { s with cls := s.cls ++ [c], act := fun j => if j = s.cls.length then s.act j + 1 else s.act j } ++ rest) := by
  have HC := hid (fun W => Clone_calls (w := W) (S := fun _ => True) (A := A) (cc := cc) (c := c))
  have HB := hid hb
  have HR : Hid (RowAt Kind.int w (fun _ => True) A c) := hid (hc.mono (fun _ _ => trivial))
  clear hc
  unfold LIM at hl
  have hc3 := (h.cell (i := 0) rfl 3 rfl).1
  have H := hid h; clear h
  go_enter Try.func23, Try.ntmps23
  have hlt : b < w.heap.size := by obtain ⟨S, hS, _⟩ := H.out.get (i := 0) rfl; exact heap_lt hS.1
  go_upto_region 1 with (fail)
  go_cut [] (fun wx => ∃ g1 cap1, Hid (YLib.Inv w0 T wx (sPn s.cls.length b fc fo (.slice (some ⟨g1, 0, none⟩) (s.cls.length + 1) cap1) vv vt vl m { s with cls := s.cls ++ [c] } ++ rest)))
  case first =>
    go_region_law (first
      | (go_simp; go_at_call 33; refine (HC.out _ (by exact HR.out) HB.out).mono ?_; rintro e w1 ⟨A', c', rfl, hbl, hn⟩; have hc3' := (hbl.cell (p := ⟨b, 3, none⟩) hlt).trans hc3; have hlt1 : b < w1.heap.size := Nat.lt_of_lt_of_le hlt hbl.size; have H1 := hid ((H.out.drew).cons hbl hn); clear hbl hn)
      | (refine step_of_wp rfl ?_; refine wp_append_inv2 _ _ 33 rfl Try.underlying33 infoInts rfl (by decide) 4 0 (by decide) vc s.cls [c] _ (H1.out.alloc _) rfl rfl rfl ⟨w1.heap.size, 0, none⟩ 1 1 rfl [.slice A' c.length c'] rfl (World.news_of_block (heap_alloc_new w1 _)) (fun S2 h => ⟨[.slice A' c.length c'], [], rfl, Owned.rd (d := Kind.int) h, rfl⟩) (by omega) (by omega) (by omega) ?_; intro g1 cap1 w2 h4; obtain ⟨hc1, hc2⟩ := h4.cell (i := 1) rfl 3 rfl; have H4 := hid h4; clear h4))
    all_goals
      go_wp2_with (fail)
      go_meet
      case rel => exact ⟨_, _, hid ((H4.out.set (i := 1) rfl 3 _).tail)⟩
  case rest =>
    obtain ⟨g1, cap1, H1⟩ := hcut
    clear hc3 H
    have h1 := H1.out.drew
    have hc2 := (H1.out.cell (i := 0) rfl 4 rfl).1
    have hc3 := (H1.out.cell (i := 0) rfl 3 rfl).1
    have hk : (Lit.int .i64 (s.cls.length : Int)).wf = true := YLib.wf_i64 (by omega)
    obtain ⟨ha0, ha1⟩ := ha
    have hlk := (h1.mapGet Try.underlying50 Try.underlying3 Try.underlying3 (fun w => by kernel_rfl) (i := 5) rfl hk).1
    obtain ⟨w3, hup, h3⟩ := h1.mapPut Try.underlying50 Try.underlying3 Try.underlying3 (i := 5) rfl (by omega) hk (YLib.wf_i64 (x := s.act s.cls.length + 1) (by omega))
    have hc3' := (h3.cell (i := 0) rfl 3 rfl).1
    have hfun : (fun j => if j = (s.cls.length : Int) then s.act s.cls.length + 1 else s.act j) = (fun j => if j = (s.cls.length : Int) then s.act j + 1 else s.act j) := by
      funext j
      split
      · rename_i hj; rw [hj]
      · rfl
    rw [hfun] at h3
    clear hfun
    have H3 := hid h3
    clear h1 h3 hk
    generalize s.act s.cls.length = a0 at *
    have hs1 : IntKind.i64.wrap ((s.cls.length : Int) + 1 - 1) = s.cls.length := by rw [Int.add_sub_cancel]; exact IntWalk.i64_in _ (by omega)
    have hs2 : IntKind.i64.wrap (s.cls.length : Int) = s.cls.length := IntWalk.i64_in _ (by omega)
    have hs3 : IntKind.i64.wrap (a0 + 1) = a0 + 1 := IntWalk.i64_in _ (by omega)
    go_wp2
    go_region
    go_wp2
    go_ret
    exact ⟨rfl, _, H3.out.weaken (c' := mapP Try.prog 3 3 m (s.cls ++ [c]).length _) (i := 5) rfl (fun S h => by rw [List.length_append, List.length_singleton]; exact h)⟩
end
end Go.Proofs.Ytcglokippflioaa

/-! forget. -/
namespace Go.Proofs.Ytcglokippflioaa
open Go Go.RowKit YLib
theorem clAt {w : World} {S : Nat → Prop} {A : Option Addr} {xs : List (List Int)} (h : RowAt clK w S A xs) {i : Nat} {x : List Int} (hx : xs[i]? = some x) : ∃ b o A' c', A = some ⟨b, o, none⟩ ∧ w.cell? ⟨b, o + i, none⟩ = some (.slice A' x.length c') ∧ x.length ≤ c' ∧ RowAt Kind.int w S A' x := by
  obtain ⟨hi, rfl⟩ := List.getElem?_eq_some_iff.1 hx
  rcases h with rfl | ⟨b, o, hA, _, _, h⟩
  · simp at hi
  · obtain ⟨cs, ⟨A', c', h1, hl, hr⟩, h2⟩ := h i hi
    have := h2 0 (.slice A' xs[i].length c') (by rw [h1]; rfl)
    have hsz : clK.sz = 1 := rfl
    rw [hsz, Nat.mul_one, Nat.add_zero] at this
    exact ⟨b, o, A', c', hA, this, hl, hr⟩
section
variable {w0 w : World} {T : Nat → Prop} {b m : Nat} {fc fo vc vv vt vl : Value} {s : St} {rest : List HP}
set_option maxHeartbeats 2000000 in
theorem forget_calls {Af : Option Addr} {cf : Nat} (h : Inv w0 T w (sP b (.slice Af s.nf cf) fo vc vv vt vl m s ++ rest)) (hv0 : 0 < s.val.length) (hnf : s.nf ≤ s.cls.length) (hcl : s.cls.length ≤ LIM) {act' : Int → Int}
    (hf : forgetL s.val (s.cls.drop s.nf) s.nf s.act = some act') :
    Calls Try.prog 28 #[.pointer (some ⟨b, 0, none⟩)] w fun e w' => e = .returned (.tuple #[]) ∧ Inv w0 T w' (sP b (.slice Af s.nf cf) fo vc vv vt vl m { s with act := act' } ++ rest) := by
  obtain ⟨Ac, cc, rfl, hle, hcl63, _⟩ := h.rowShape (i := 3) rfl
  obtain ⟨hc1, _⟩ := h.cell (i := 0) rfl 1 rfl
  have HF := hid hf; clear hf
  unfold LIM at hcl
  have H := hid h; clear h
  go_enter Try.func28, Try.ntmps28
  go_wp2
  go_loopg [2] s.cls.length (fun kq v2 wr => ∃ (k : Nat) (a1 : Int → Int), v2 = .int .i64 k ∧ k ≤ s.cls.length ∧ Hid (Inv w0 T wr (sP b (.slice Af s.nf cf) fo (.slice Ac s.cls.length cc) vv vt vl m { s with act := a1 } ++ rest)) ∧ Hid (forgetL s.val (s.cls.drop k) k a1 = some act') ∧ Hid (kq + k = s.cls.length + s.nf))
  case atStart => exact ⟨s.nf, s.act, rfl, hnf, H, HF, hid rfl⟩
  case round =>
    clear H HF hc1
    obtain ⟨k, a1, rfl, hk, H, HF, HK⟩ := hrel
    have hc3 := (H.out.cell (i := 0) rfl 3 rfl).1
    by_cases hlt : k < s.cls.length
    · obtain ⟨c, hc⟩ : ∃ c, s.cls[k]? = some c := ⟨_, List.getElem?_eq_getElem hlt⟩
      obtain ⟨Ac', cc', hv, _, _, hr⟩ := H.out.rowShape (i := 3) rfl
      injection hv with hv
      subst hv
      obtain ⟨cb, co, A', c', rfl, hce, hle', hrc⟩ := clAt hr hc
      have hF := HF.out
      rw [drop_of hc] at hF
      simp only [forgetL] at hF
      cases hL : lookL s.val c 0 0 with
      | none => rw [hL] at hF; cases hF
      | some r =>
        obtain ⟨r1, r2, r3⟩ := r
        rw [hL] at hF
        dsimp only at hF
        by_cases hcL : c.length ≤ LIM
        · rw [if_pos hcL] at hF
          unfold LIM at hcL
          have HL := hid (fun W q (hW : W = wr.drewN q) => (by subst hW; exact look_calls (H.out.drewN q) (S := fun _ => True) (A := A') (cc := c') (c := c) (hrc.move (fun _ _ _ => rfl) |>.mono (fun _ _ => trivial)) (by omega) hv0 hL : Calls Try.prog 34 #[.pointer (some ⟨b, 0, none⟩), .slice A' c.length c'] W fun e w' => e = .returned (.tuple #[.int .i64 r1, .int .i64 r2, .bool r3]) ∧ ∃ q, w' = W.drewN q))
          clear hr hrc hL hc
          have HF' := hid hF; clear hF HF
          have hc4 := (H.out.cell (i := 0) rfl 4 rfl).1
          cases r3 with
          | true =>
            go_wp2_with (first
              | (go_at_call 34; refine (HL.out wr 0 rfl).mono ?_; rintro e w' ⟨rfl, q, rfl⟩)
              | (at_delete; refine wpList_of_wp rfl fun K hK => ?_; refine wp_delete_inv _ _ rfl Try.underlying50 Try.underlying3 5 (k : Int) (H.out.drewN _) rfl rfl rfl (YLib.wf_i64 (by omega)) ?_; intro w1 h1; have H1 := hid h1; clear h1; refine hK _ _ ?_; clear hK K))
            go_roundg (gk - 1)
            case measure => have := HK.out; omega
            case rel => exact ⟨k + 1, (fun j => if j = (k : Int) then 0 else a1 j), by go_num, by omega, H1, HF', hid (by have := HK.out; omega)⟩
          | false =>
            go_wp2_with (first
              | (go_at_call 34; refine (HL.out wr 0 rfl).mono ?_; rintro e w' ⟨rfl, q, rfl⟩))
            go_roundg (gk - 1)
            case measure => have := HK.out; omega
            case rel => exact ⟨k + 1, _, by go_num, by omega, hid (H.out.drewN _), HF', hid (by have := HK.out; omega)⟩
        · rw [if_neg hcL] at hF; cases hF
    · have hF := HF.out
      rw [List.drop_eq_nil_of_le (by omega)] at hF
      injection hF with hF
      subst hF
      go_wp2
      go_end0
      exact ⟨rfl, H.out⟩
end
end Go.Proofs.Ytcglokippflioaa

/-! propagate. -/
namespace Go.Proofs.Ytcglokippflioaa
open Go Go.RowKit YLib
section
variable {w0 w : World} {T : Nat → Prop} {b m : Nat} {fc fo vc vv vt vl : Value} {s : St} {rest : List HP}
set_option maxRecDepth 100000 in
set_option maxHeartbeats 4000000 in
theorem propagate_calls (h : Inv w0 T w (sP b fc fo vc vv vt vl m s ++ rest)) (hv0 : 0 < s.val.length) (hcl : s.cls.length ≤ LIM) (lvl : Int) {kk : Nat} {rk : Int} {rv : List Int} {rt : List Tr}
    (hp : propL s.cls s.act lvl kk s.val s.tr = some (rk, rv, rt)) :
    Calls Try.prog 24 #[.pointer (some ⟨b, 0, none⟩), .int .i64 lvl] w fun e w' => e = .returned (.int .i64 rk) ∧ ∃ vt', Inv w0 T w' (sP b fc fo vc vv vt' vl m { s with val := rv, tr := rt } ++ rest) := by
  obtain ⟨Ac, cc, rfl, hle, hcl63, _⟩ := h.rowShape (i := 3) rfl
  have HP := hid hp; clear hp
  unfold LIM at hcl
  have H := hid h; clear h
  go_enter Try.func24, Try.ntmps24
  go_wp2
  go_loopg [5] kk (fun kq v5 wr => ∃ (ag : Bool) (v1 : List Int) (t1 : List Tr) (vt1 : Value), v5 = .bool ag ∧ Hid (Inv w0 T wr (sP b fc fo (.slice Ac s.cls.length cc) vv vt1 vl m { s with val := v1, tr := t1 } ++ rest)) ∧ Hid (0 < v1.length) ∧ Hid ((if ag = true then propL s.cls s.act lvl kq v1 t1 else some (-1, v1, t1)) = some (rk, rv, rt)))
  case atStart => exact ⟨true, s.val, s.tr, vt, rfl, H, hid hv0, HP⟩
  case round =>
    clear H HP
    obtain ⟨ag, v1, t1, vt1, rfl, H, HV, HP⟩ := hrel
    cases ag with
    | false =>
      have hP := HP.out
      injection hP with hP
      injection hP with h1 h2
      injection h2 with h2 h3
      subst h1 h2 h3
      go_wp2
      go_ret
      exact ⟨rfl, _, H.out⟩
    | true =>
      have hP := HP.out
      rw [if_pos rfl] at hP
      clear HP
      cases gk with
      | zero => cases hP
      | succ k1 =>
        rw [propL_succ] at hP
        have HP := hid hP; clear hP
        have hc3 := (H.out.cell (i := 0) rfl 3 rfl).1
        go_wp2
        clear hc3
        go_loopg [17, 5] s.cls.length (fun kq v17 v5 wr => ∃ (i : Nat) (ag : Bool) (v1 : List Int) (t1 : List Tr) (vt1 : Value), v17 = .int .i64 i ∧ v5 = .bool ag ∧ i ≤ s.cls.length ∧ Hid (Inv w0 T wr (sP b fc fo (.slice Ac s.cls.length cc) vv vt1 vl m { s with val := v1, tr := t1 } ++ rest)) ∧ Hid (0 < v1.length) ∧ Hid (propK s.cls s.act lvl k1 (scanL s.act lvl (s.cls.drop i) i v1 t1 ag) = some (rk, rv, rt)) ∧ Hid (kq + i = s.cls.length))
        case atStart => exact ⟨0, false, v1, t1, vt1, rfl, rfl, by omega, H, HV, HP, hid rfl⟩
        case round =>
          clear H HP HV v1 t1 vt1
          obtain ⟨i, ag, v1, t1, vt1, rfl, rfl, hi, H, HV, HP, HK⟩ := hrel
          by_cases hlt : i < s.cls.length
          · obtain ⟨c, hc⟩ : ∃ c, s.cls[i]? = some c := ⟨_, List.getElem?_eq_getElem hlt⟩
            obtain ⟨Ac', cc', hv, _, _, hr⟩ := H.out.rowShape (i := 3) rfl
            injection hv with hv _ hcc
            subst hv hcc
            obtain ⟨cb, co, A', c', rfl, hce, hle', hrc⟩ := clAt hr hc
            have hP := HP.out
            rw [drop_of hc] at hP
            simp only [scanL] at hP
            have hc4 := (H.out.cell (i := 0) rfl 4 rfl).1
            have hlk := (H.out.mapGet Try.underlying50 Try.underlying3 Try.underlying3 (fun w => by kernel_rfl) (i := 5) rfl (YLib.wf_i64 (x := (i : Int)) (by omega))).1
            clear hc hr HP
            dsimp only at hlk
            generalize s.act i = a0 at *
            by_cases ha0 : a0 = 0
            · rw [if_pos ha0] at hP
              have hd : (a0 == 0) = true := by simpa using ha0
              have HP' := hid hP
              clear hP ha0 hrc
              go_wp2
              go_roundg (gk - 1)
              case measure => have := HK.out; omega
              case rel => exact ⟨i + 1, ag, v1, t1, vt1, by go_num, rfl, by omega, H, HV, HP', hid (by have := HK.out; omega)⟩
            · rw [if_neg ha0] at hP
              have hd : (a0 == 0) = false := by simpa using ha0
              clear ha0
              cases hL : lookL v1 c 0 0 with
              | none => rw [hL] at hP; cases hP
              | some r =>
                obtain ⟨o, l, t⟩ := r
                rw [hL] at hP
                dsimp only at hP
                by_cases hcL : c.length ≤ LIM
                · rw [if_pos hcL] at hP
                  unfold LIM at hcL
                  have HL := hid (look_calls H.out (S := fun _ => True) (A := A') (cc := c') (c := c) (hrc.mono (fun _ _ => trivial)) (by omega) HV.out hL)
                  clear hrc hL
                  cases t with
                  | true =>
                    rw [if_pos rfl] at hP
                    have HP' := hid hP; clear hP
                    go_wp2_with (first | (go_at_call 34; refine HL.out.mono ?_; rintro e w' ⟨rfl, q, rfl⟩))
                    go_roundg (gk - 1)
                    case measure => have := HK.out; omega
                    case rel => exact ⟨i + 1, ag, v1, t1, vt1, by go_num, rfl, by omega, hid (H.out.drewN _), HV, HP', hid (by have := HK.out; omega)⟩
                  | false =>
                    rw [if_neg (by decide)] at hP
                    by_cases ho : 1 < o
                    · rw [if_pos ho] at hP
                      have HP' := hid hP; clear hP
                      go_wp2_with (first | (go_at_call 34; refine HL.out.mono ?_; rintro e w' ⟨rfl, q, rfl⟩))
                      go_roundg (gk - 1)
                      case measure => have := HK.out; omega
                      case rel => exact ⟨i + 1, ag, v1, t1, vt1, by go_num, rfl, by omega, hid (H.out.drewN _), HV, HP', hid (by have := HK.out; omega)⟩
                    · rw [if_neg ho] at hP
                      by_cases ho0 : o = 0
                      · rw [if_pos ho0] at hP
                        injection hP with hP
                        injection hP with h1 h2
                        injection h2 with h2 h3
                        subst h1 h2 h3 ho0
                        go_wp2_with (first | (go_at_call 34; refine HL.out.mono ?_; rintro e w' ⟨rfl, q, rfl⟩))
                        go_ret
                        exact ⟨rfl, _, H.out.drewN _⟩
                      · rw [if_neg ho0] at hP
                        by_cases hs : 0 ≤ size l ∧ size l < v1.length ∧ t1.length < LIM
                        · rw [if_pos hs] at hP
                          have ho0' : (o == 0) = false := by simpa using ho0
                          have HS := hid (fun q => set_calls (H.out.drewN q) l i lvl hs.1 hs.2.1 hs.2.2)
                          have HV' : Hid (0 < (v1.set (size l).toNat l).length) := hid (by rw [List.length_set]; exact HV.out)
                          have HP' := hid hP; clear hP hs
                          generalize v1.set (size l).toNat l = v2 at *
                          go_wp2_with (first | (go_at_call 34; refine HL.out.mono ?_; rintro e w' ⟨rfl, q, rfl⟩) | (go_at_call 30; refine (HS.out _).mono ?_; rintro e w' ⟨rfl, vt2, h1⟩; have H1 := hid h1; clear h1))
                          go_roundg (gk - 1)
                          case measure => have := HK.out; omega
                          case rel => exact ⟨i + 1, true, v2, _, vt2, by go_num, rfl, by omega, H1, HV', HP', hid (by have := HK.out; omega)⟩
                        · rw [if_neg hs] at hP; cases hP
                · rw [if_neg hcL] at hP; cases hP
          · have hP := HP.out
            rw [List.drop_eq_nil_of_le (by omega)] at hP
            have HP' : Hid ((if ag = true then propL s.cls s.act lvl k1 v1 t1 else some (-1, v1, t1)) = some (rk, rv, rt)) := hid (by cases ag <;> exact hP)
            go_wp2
            go_roundg k1
            case measure => omega
            case rel => exact ⟨ag, v1, t1, vt1, rfl, H, HV, HP'⟩
end
end Go.Proofs.Ytcglokippflioaa

/-! learn: conflicts, at. -/
namespace Go.Proofs.Ytcglokippflioaa
open Go Go.RowKit YLib
def bd (x : Int) : Prop := -9223372036854775807 ≤ x ∧ x ≤ 9223372036854775807
theorem fAt_lt (tr : List Tr) (x : Int) : fAt tr x < tr.length := (idxI_neg _ tr).2.1
theorem confl1_calls {B : Nat} {tr : List Tr} {A : Option Addr} {c : Nat} {S : Nat → Prop} {W : World} {x : Int} (hx : bd x) (hn : tr.length ≤ 9223372036854775807) (hB : W.cell? ⟨B, 0, none⟩ = some (.slice A tr.length c)) (ha : RowAt trK W S A tr) :
    Calls Try.prog 53 #[.int .i64 x, .pointer (some ⟨B, 0, none⟩)] W fun e W' => e = .returned (.bool (!isF tr x)) ∧ Gro W W' := by
  have HF := hid (fun W' (hW : Gro W W') => falseAt_calls (c := c) hx.1 hx.2 (hW.row ha) hn)
  clear ha hx
  unfold isF
  generalize fAt tr x = i at *
  obtain ⟨j, hj⟩ : ∃ j, max i 0 = j := ⟨_, rfl⟩
  rw [hj] at HF
  clear hj
  generalize decide (0 ≤ i) = r at *
  go_enter Try.func53, Try.ntmps53
  go_wp2_with (go_at_call 50; refine (HF.out _ (by first | exact Gro.refl _ | exact (Gro.refl _).alloc _)).mono ?_; rintro e w' ⟨rfl, h1⟩; have H1 := hid h1; clear h1)
  go_ret
  exact ⟨rfl, H1.out⟩
set_option maxRecDepth 100000 in
set_option maxHeartbeats 1000000 in
theorem conflicts_calls {w : World} {S1 S2 : Nat → Prop} {A1 A2 : Option Addr} {c1 c2 : Nat} {cls : List (List Int)} {tr : List Tr} {k : Nat} {c : List Int} (hk : cls[k]? = some c) (h1 : RowAt clK w S1 A1 cls) (h2 : RowAt trK w S2 A2 tr) (_hn1 : cls.length ≤ 9223372036854775807) (hn2 : tr.length ≤ 9223372036854775807)
    (hc : c.length ≤ 9223372036854775807) (hb : ∀ x ∈ c, bd x) :
    Calls Try.prog 40 #[.slice A1 cls.length c1, .slice A2 tr.length c2, .int .i64 k] w fun e w' => e = .returned (.bool (conflB tr c)) ∧ Gro w w' := by
  obtain ⟨cb, co, A', c', rfl, hce, hle, hr⟩ := clAt h1 hk
  have hlt : (k : Int) < cls.length := by have := (List.getElem?_eq_some_iff.1 hk).1; omega
  have hlt1 : cb < w.heap.size := World.block_lt_of_cell? w _ hce
  have eg : ∀ args w, (callFunc 53 args).run Try.prog w = .ok (.enter 53 args) w := enters_of Try.func53 (by kernel_rfl) rfl
  have HG := hid ((Gro.refl w).alloc (.cells #[.slice A2 tr.length c2] 51))
  have HC := hid (ContainsFuncI_calls (g := 53) (lb := #[.pointer (some ⟨w.heap.size, 0, none⟩)]) (c := c') eg (HG.out.row hr) hc (p := fun x => !isF tr x)
    (fun x hx W hW => confl1_calls (c := c2) (hb x hx) hn2 (hW.cell (by simp [go_sem])) (hW.row (HG.out.row h2))))
  clear h1 h2 hr hb hk
  unfold conflB
  generalize (c.any fun x => !isF tr x) = r at *
  go_enter Try.func40, Try.ntmps40
  go_wp2_with (go_at_call 52; refine HC.out.mono ?_; rintro e w' ⟨rfl, h1⟩; have H1 := hid h1; clear h1)
  go_ret
  exact ⟨rfl, HG.out.trans H1.out⟩
theorem atL_bd (tr : List Tr) (lv : Int) : ∀ xs, 0 ≤ atL tr lv xs ∧ atL tr lv xs ≤ xs.length
  | [] => by simp [atL]
  | x :: xs => by
    have := atL_bd tr lv xs
    unfold atL
    rw [List.length_cons]
    split <;> omega
theorem atL_app (tr : List Tr) (lv : Int) : ∀ xs ys, atL tr lv (xs ++ ys) = atL tr lv xs + atL tr lv ys
  | [], ys => by simp [atL]
  | x :: xs, ys => by
    show (if isF tr x = true ∧ levAt tr x = lv then (1 : Int) else 0) + atL tr lv (xs ++ ys) = ((if isF tr x = true ∧ levAt tr x = lv then (1 : Int) else 0) + atL tr lv xs) + atL tr lv ys
    rw [atL_app tr lv xs ys]
    omega
set_option maxRecDepth 100000 in
set_option maxHeartbeats 1000000 in
theorem at_calls {w : World} {S1 S2 : Nat → Prop} {A A2 : Option Addr} {cc c2 : Nat} {tr : List Tr} {c : List Int} {lv : Int} (h1 : RowAt Kind.int w S1 A c) (h2 : RowAt trK w S2 A2 tr) (hc : c.length ≤ 9223372036854775807) (hn2 : tr.length ≤ 9223372036854775807) (hb : ∀ x ∈ c, bd x) :
    Calls Try.prog 41 #[.slice A2 tr.length c2, .slice A c.length cc, .int .i64 lv] w fun e w' => e = .returned (.int .i64 (atL tr lv c)) ∧ Gro w w' := by
  have H1 := hid h1; clear h1
  have H2 := hid h2; clear h2
  have HB := hid hb; clear hb
  obtain ⟨nc, hnc⟩ : ∃ n, c.length = n := ⟨_, rfl⟩
  have HN := hid hnc
  rw [hnc] at hc ⊢
  clear hnc
  obtain ⟨r, hr⟩ : ∃ r, atL tr lv c = r := ⟨_, rfl⟩
  have HR := hid hr
  rw [hr]
  clear hr
  go_enter Try.func41, Try.ntmps41
  go_wp2
  go_loopg [7, 14] nc (fun kq v7 v14 wr => ∃ (k : Nat) (m : Int), v14 = .int .i64 k ∧ k ≤ nc ∧ v7 = .int .i64 m ∧ 0 ≤ m ∧ m ≤ k ∧ Hid (m = atL tr lv (c.take k)) ∧ Hid (kq + k = nc) ∧ Hid (Gro w wr))
  case atStart => exact ⟨0, 0, rfl, by omega, rfl, by omega, by omega, hid (by simp [atL]), hid (by omega), hid (Gro.refl _)⟩
  case round =>
    obtain ⟨k, m, rfl, hk, rfl, hm0, hm1, HM, HK, HG⟩ := hrel
    by_cases hlt : k < nc
    · obtain ⟨x, hx⟩ : ∃ x, c[k]? = some x := ⟨_, List.getElem?_eq_getElem (by have := HN.out; omega)⟩
      obtain ⟨b, o, rfl, hcx⟩ := intAt (HG.out.row H1.out) hx
      have HXB := HB.out x (List.mem_of_getElem? hx)
      have HF := hid (falseAt_calls (w := wr) (c := c2) HXB.1 HXB.2 (HG.out.row H2.out) hn2)
      have hsn : atL tr lv (c.take (k + 1)) = atL tr lv (c.take k) + (if isF tr x = true ∧ levAt tr x = lv then 1 else 0) := by
        rw [List.take_add_one, hx, atL_app]; simp [atL]
      have HS := hid hsn
      clear hsn hx HXB
      by_cases hf : 0 ≤ fAt tr x
      · have hfl := fAt_lt tr x
        obtain ⟨t, ht⟩ : ∃ t, tr[(fAt tr x).toNat]? = some t := ⟨_, List.getElem?_eq_getElem (by omega)⟩
        have hlev : levAt tr x = t.level := by unfold levAt; rw [ht]
        have hif : isF tr x = true := decide_eq_true hf
        have HTR := hid (fun W (hW : Gro wr W) => trAt (hW.row (HG.out.row H2.out)) ht)
        have hmx : max (fAt tr x) 0 = fAt tr x := by omega
        rw [hlev, hif] at HS
        rw [hmx, decide_eq_true hf] at HF
        clear hlev hif hmx ht
        obtain ⟨b2, o2, rfl, _⟩ := HTR.out _ (Gro.refl _)
        generalize fAt tr x = i at *
        generalize t.level = tl at *
        by_cases hl : tl = lv
        · have hlb : (tl == lv) = true := by simpa using hl
          go_wp2_with (go_at_call 50; refine HF.out.mono ?_; rintro e w' ⟨rfl, h1⟩; obtain ⟨_, _, hA, _, _, hcl⟩ := HTR.out _ h1; injection hA with hA; injection hA with hA1 hA2; subst hA1 hA2; have H3 := hid h1; clear h1)
          go_roundg (gk - 1)
          case measure => have := HK.out; omega
          case rel => exact ⟨k + 1, m + 1, by go_num, by omega, rfl, by omega, by omega, hid (by rw [HS.out, HM.out, if_pos (by simp [hl])]), hid (by have := HK.out; omega), hid (HG.out.trans H3.out)⟩
        · have hlb : (tl == lv) = false := by simpa using hl
          go_wp2_with (go_at_call 50; refine HF.out.mono ?_; rintro e w' ⟨rfl, h1⟩; obtain ⟨_, _, hA, _, _, hcl⟩ := HTR.out _ h1; injection hA with hA; injection hA with hA1 hA2; subst hA1 hA2; have H3 := hid h1; clear h1)
          go_roundg (gk - 1)
          case measure => have := HK.out; omega
          case rel => exact ⟨k + 1, m, by go_num, by omega, rfl, by omega, by omega, hid (by rw [HS.out, HM.out, if_neg (fun h => hl h.2), Int.add_zero]), hid (by have := HK.out; omega), hid (HG.out.trans H3.out)⟩
      · have hif : isF tr x = false := decide_eq_false hf
        have hmx : max (fAt tr x) 0 = 0 := by omega
        rw [hif] at HS
        rw [hmx, decide_eq_false hf] at HF
        clear hif hmx hf
        go_wp2_with (go_at_call 50; refine HF.out.mono ?_; rintro e w' ⟨rfl, h1⟩; have H3 := hid h1; clear h1)
        go_roundg (gk - 1)
        case measure => have := HK.out; omega
        case rel => exact ⟨k + 1, m, by go_num, by omega, rfl, by omega, by omega, hid (by rw [HS.out, HM.out, if_neg (by simp), Int.add_zero]), hid (by have := HK.out; omega), hid (HG.out.trans H3.out)⟩
    · obtain rfl : k = nc := by omega
      have hm : m = r := by rw [HM.out, List.take_of_length_le (by have := HN.out; omega), HR.out]
      subst hm
      go_wp2
      go_ret
      exact ⟨rfl, HG.out⟩
end Go.Proofs.Ytcglokippflioaa

/-! learn: small functions; the library's Sort and Compact over owned rows. -/
namespace Go.Proofs.Ytcglokippflioaa
open Go Go.RowKit YLib
set_option maxRecDepth 100000 in
theorem good_calls (x : Int) (w : World) : Calls Try.prog 60 #[.int .i64 x] w fun e w' => e = .returned (.bool (decide (goodI x))) ∧ w = w' := by
  by_cases h0 : x = 0
  · subst h0
    rw [show decide (goodI 0) = false from decide_eq_false (fun h => h.1 rfl)]
    go_enter Try.func60, Try.ntmps60
    go_wp2
    go_ret
    exact ⟨rfl, rfl⟩
  · have hb : (x != 0) = true := by simpa using h0
    by_cases h1 : -4096 ≤ x
    · have hd1 : decide (-4096 ≤ x) = true := decide_eq_true h1
      by_cases h2 : x ≤ 4096
      · have hd2 : decide (x ≤ 4096) = true := decide_eq_true h2
        rw [show decide (goodI x) = true from decide_eq_true ⟨h0, h1, h2⟩]
        clear h0
        go_enter Try.func60, Try.ntmps60
        go_wp2
        go_ret
        exact ⟨rfl, rfl⟩
      · have hd2 : decide (x ≤ 4096) = false := decide_eq_false h2
        rw [show decide (goodI x) = false from decide_eq_false (fun h => h2 h.2.2)]
        clear h0
        go_enter Try.func60, Try.ntmps60
        go_wp2
        go_ret
        exact ⟨rfl, rfl⟩
    · have hd1 : decide (-4096 ≤ x) = false := decide_eq_false h1
      rw [show decide (goodI x) = false from decide_eq_false (fun h => h1 h.2.1)]
      clear h0
      go_enter Try.func60, Try.ntmps60
      go_wp2
      go_ret
      exact ⟨rfl, rfl⟩
theorem labs_calls {x : Int} (hx : bd x) (w : World) : Calls Try.prog 47 #[.int .i64 x] w fun e w' => e = .returned (.int .i64 (size x)) ∧ w = w' := by
  obtain ⟨h1, h2⟩ := hx
  go_enter Try.func47, Try.ntmps47
  go_wp2
  go_ret
  have : max x (-x) = size x := by unfold size; split <;> omega
  exact ⟨by rw [← this]; rfl, rfl⟩
theorem cmp_calls (x y : Int) (w : World) : Calls Try.prog 51 #[.int .i64 x, .int .i64 y] w fun e w' => e = .returned (.int .i64 (cmpI x y)) ∧ w = w' :=
  (Try.cmp_Compare_int x y w).mono fun _ _ ⟨h1, h2⟩ => ⟨h1, h2.symm⟩
theorem or_calls {a b : Int} {B : Nat} {w : World} (h0 : w.cell? ⟨B, 0, none⟩ = some (.int .i64 a)) (h1 : w.cell? ⟨B, 1, none⟩ = some (.int .i64 b)) :
    Calls Try.prog 65 #[.slice (some ⟨B, 0, none⟩) 2 2] w fun e w' => e = .returned (.int .i64 (if a ≠ 0 then a else b)) ∧ w = w' := by
  obtain ⟨r, hr⟩ : ∃ r, (if a ≠ 0 then a else b) = r := ⟨_, rfl⟩
  have HR := hid hr
  rw [hr]
  clear hr
  go_enter Try.func65, Try.ntmps65
  go_wp2
  go_loopg [8] 2 (fun kq v8 wr => ∃ k : Nat, v8 = .int .i64 k ∧ k ≤ 2 ∧ Hid (kq + k = 2) ∧ Hid (1 ≤ k → a = 0) ∧ Hid (2 ≤ k → b = 0) ∧ wr = w)
  case atStart => exact ⟨0, rfl, by omega, hid (by omega), hid (by intro h; omega), hid (by intro h; omega), rfl⟩
  case round =>
    obtain ⟨k, rfl, hk, HK, HA, HB, hww⟩ := hrel
    subst hww
    rcases Nat.eq_zero_or_pos k with hk0 | hk0
    · subst hk0
      by_cases ha : a = 0
      · have hab : (a != 0) = false := by simpa using ha
        have HA2 := hid ha
        clear ha
        go_wp2
        go_roundg 1
        case measure => have := HK.out; omega
        case rel => exact ⟨1, by go_num, by omega, hid (by omega), hid (fun _ => HA2.out), hid (by intro h; omega), rfl⟩
      · have hab : (a != 0) = true := by simpa using ha
        have hr := HR.out
        rw [if_pos ha] at hr
        clear ha
        subst hr
        go_wp2
        go_ret
        exact ⟨rfl, rfl⟩
    · have ha := HA.out hk0
      have hr := HR.out
      rw [if_neg (by simp [ha])] at hr
      have HA3 := hid ha
      clear ha HR HA
      by_cases hk1 : k = 1
      · subst hk1
        by_cases hb : b = 0
        · have hbb : (b != 0) = false := by simpa using hb
          have HB2 := hid hb
          have HR2 := hid hr
          clear hb hr
          go_wp2
          go_roundg 0
          case measure => have := HK.out; omega
          case rel => exact ⟨2, by go_num, by omega, hid (by omega), hid (fun _ => HA3.out), hid (fun _ => HB2.out), rfl⟩
        · have hbb : (b != 0) = true := by simpa using hb
          clear hb
          subst hr
          go_wp2
          go_ret
          exact ⟨rfl, rfl⟩
      · have hk2 : k = 2 := by omega
        subst hk2
        have hb := HB.out (by omega)
        subst hr
        subst hb
        go_wp2
        go_ret
        exact ⟨rfl, rfl⟩
end Go.Proofs.Ytcglokippflioaa

/-! learn: the closures of Resolve; Sort and Compact over owned rows. -/
namespace Go.Proofs.Ytcglokippflioaa
open Go Go.RowKit YLib
theorem good_bd {x : Int} (h : goodI x) : bd x := by obtain ⟨_, h1, h2⟩ := h; exact ⟨by omega, by omega⟩
theorem res1_calls (x : Int) (w : World) : Calls Try.prog 59 #[.int .i64 x] w fun e w' => e = .returned (.bool (!decide (goodI x))) ∧ Gro w w' := by
  have HG := hid (fun W => good_calls x W)
  generalize decide (goodI x) = r at *
  go_enter Try.func59, Try.ntmps59
  go_wp2_with (go_at_call 60; refine (HG.out _).mono ?_; rintro e w' ⟨rfl, rfl⟩)
  go_ret
  exact ⟨rfl, Gro.refl _⟩
theorem res2_calls {v : Int} (hv : bd v) (x : Int) {B : Nat} {w : World} (hB : w.cell? ⟨B, 0, none⟩ = some (.int .i64 v)) : Calls Try.prog 63 #[.int .i64 x, .pointer (some ⟨B, 0, none⟩)] w fun e w' => e = .returned (.bool (x == v || x == -v)) ∧ ∃ q, w' = w.drewN q := by
  have hw : wrap64 (-v) = -v := IntWalk.wrap64_in _ (by obtain ⟨_, _⟩ := hv; omega)
  by_cases h1 : x = v
  · have hb : (x == v) = true := by simpa using h1
    rw [hb, Bool.true_or]
    clear h1
    go_enter Try.func63, Try.ntmps63
    go_wp2
    go_ret
    exact ⟨rfl, 0, rfl⟩
  · have hb : (x == v) = false := by simpa using h1
    rw [hb, Bool.false_or]
    clear h1
    generalize hr : (x == -v) = r
    go_enter Try.func63, Try.ntmps63
    go_wp2
    go_ret
    exact ⟨rfl, 0, rfl⟩
theorem res3_calls {x y : Int} (hx : bd x) (hy : bd y) (w : World) : Calls Try.prog 64 #[.int .i64 x, .int .i64 y] w fun e w' => e = .returned (.int .i64 (cmpR x y)) ∧ Gro w w' := by
  have HX := hid (fun W => labs_calls hx W)
  have HY := hid (fun W => labs_calls hy W)
  have HC1 := hid (fun W => cmp_calls (size x) (size y) W)
  have HC2 := hid (fun W => cmp_calls y x W)
  have HO := hid (or_calls (a := cmpI (size x) (size y)) (b := cmpI y x) (B := w.heap.size) (w := w.alloc (.cells #[.int .i64 (cmpI (size x) (size y)), .int .i64 (cmpI y x)] 3)) (by simp [go_sem]) (by simp [go_sem]))
  unfold cmpR
  generalize (if cmpI (size x) (size y) ≠ 0 then cmpI (size x) (size y) else cmpI y x) = r at *
  generalize cmpI (size x) (size y) = a at *
  generalize cmpI y x = b at *
  generalize size x = sx at *
  generalize size y = sy at *
  go_enter Try.func64, Try.ntmps64
  go_wp2_with (first
    | (go_at_call 47; first | ((with_reducible refine (HX.out _).mono ?_); rintro e w' ⟨rfl, rfl⟩) | ((with_reducible refine (HY.out _).mono ?_); rintro e w' ⟨rfl, rfl⟩))
    | (go_at_call 51; first | ((with_reducible refine (HC1.out _).mono ?_); rintro e w' ⟨rfl, rfl⟩) | ((with_reducible refine (HC2.out _).mono ?_); rintro e w' ⟨rfl, rfl⟩))
    | (go_at_call 65; refine HO.out.mono ?_; rintro e w' ⟨rfl, rfl⟩))
  go_ret
  exact ⟨rfl, (Gro.refl _).alloc _⟩
end Go.Proofs.Ytcglokippflioaa

/-! Sort, Compact, SortFunc, DeleteFunc over owned rows. -/
namespace Go.Proofs.Ytcglokippflioaa
open Go Go.RowKit YLib
section
variable {w0 w : World} {T : Nat → Prop} {cs : List HP} {g n cap i : Nat} {xs : List Int}
theorem own_len (h : Inv w0 T w cs) {e : TypeId} (hi : cs[i]? = some (rowP Kind.int e (.slice (some ⟨g, 0, none⟩) n cap) xs)) : n = xs.length ∧ xs.length ≤ cap ∧ xs.length ≤ 9223372036854775807 := by
  obtain ⟨A, c, e1, h1, h2, _⟩ := h.rowShape hi
  injection e1 with e1 e2 e3
  subst e2 e3
  exact ⟨rfl, h1, h2⟩
theorem Sort_own (h : Inv w0 T w cs) (hi : cs[i]? = some (rowP Kind.int 3 (.slice (some ⟨g, 0, none⟩) n cap) xs)) (hl : xs.length ≤ LIM) :
    Calls Try.prog 42 #[.slice (some ⟨g, 0, none⟩) n cap] w fun e w' => e = .returned (.tuple #[]) ∧ Inv w0 T w' (cs.set i (rowP Kind.int 3 (.slice (some ⟨g, 0, none⟩) n cap) (xs.mergeSort leI))) := by
  obtain ⟨rfl, _, _⟩ := own_len h hi
  obtain ⟨hH, hg⟩ := h.holds hi
  refine (Try.slices_Sort_int g 0 cap xs w hH hg (by unfold LIM at hl; omega)).mono ?_
  rintro e w' ⟨rfl, q, os, rfl⟩
  refine ⟨rfl, ?_⟩
  rw [ahead_drewN]
  exact ((h.drewN q).putRow hi _ (List.length_mergeSort _)).grow os
theorem compactF_snoc : ∀ (xs : List Int) (p : Option Int) (x : Int), compactF p (xs ++ [x]) = compactF p xs ++ (if (if xs = [] then p else xs.getLast?) = some x then [] else [x])
  | [], p, x => by
    simp only [List.nil_append, compactF, if_true]
  | y :: xs, p, x => by
    have ih := compactF_snoc xs (some y) x
    have hl : (if xs = [] then some y else xs.getLast?) = (y :: xs).getLast? := by
      cases xs with
      | nil => simp
      | cons z xs => simp [List.getLast?_cons]
    rw [hl] at ih
    rw [List.cons_append]
    unfold compactF
    by_cases hp : p = some y
    · rw [if_pos hp, if_pos hp, ih]; simp
    · rw [if_neg hp, if_neg hp, ih]; simp
theorem compact_eq (zs : List Int) : Lib.compact zs = compactF none zs := by
  unfold Lib.compact
  have key : ∀ k, k ≤ zs.length → Lib.compactUpTo zs.toArray k = compactF none (zs.take k) := by
    intro k
    induction k with
    | zero => intro _; rfl
    | succ k ih =>
      intro hk
      have hk2 : k < zs.length := by omega
      have hd : zs.toArray[k]! = zs[k] := by rw [getElem!_pos _ k (by simpa using hk2)]; simp
      have h1 : Lib.compactUpTo zs.toArray (k + 1) = Lib.compactUpTo zs.toArray k ++ (if Lib.keeps zs.toArray k = true then [zs[k]] else []) := by
        unfold Lib.compactUpTo
        rw [List.range_succ, List.filter_append, List.map_append]
        congr 1
        by_cases hkp : Lib.keeps zs.toArray k = true
        · rw [List.filter_cons, if_pos hkp, if_pos hkp]; simp [hk2]
        · rw [List.filter_cons, if_neg hkp, if_neg hkp]; rfl
      rw [h1, ih (by omega), List.take_succ_eq_append_getElem hk2, compactF_snoc]
      congr 1
      rcases Nat.eq_zero_or_pos k with h0 | h0
      · subst h0
        simp [Lib.keeps]
      · have hne : zs.take k ≠ [] := fun e => by
          have h3 : (zs.take k).length = 0 := by rw [e]; rfl
          rw [List.length_take] at h3
          omega
        have hlast : (zs.take k).getLast? = some zs[k - 1] := by
          rw [List.getLast?_eq_getElem?, List.length_take, Nat.min_eq_left (by omega), List.getElem?_take, if_pos (by omega), List.getElem?_eq_getElem (by omega)]
        rw [if_neg hne, hlast]
        have hd1 : zs.toArray[k - 1]! = zs[k - 1] := by rw [getElem!_pos _ (k - 1) (by simp; omega)]; simp
        have hkk : (Lib.keeps zs.toArray k = true) ↔ zs[k] ≠ zs[k - 1] := by
          constructor
          · intro hk3 he
            rw [Lib.keeps_neg h0 (by rw [hd, hd1, he])] at hk3
            cases hk3
          · intro he
            exact Lib.keeps_pos (by rw [hd, hd1]; exact he)
        by_cases he : zs[k] = zs[k - 1]
        · rw [if_neg (fun h => hkk.1 h he), if_pos (by rw [he])]
        · rw [if_pos (hkk.2 he), if_neg (fun h => he (by injection h with h; exact h.symm))]
  have := key zs.length (Nat.le_refl _)
  rwa [List.take_length] at this
theorem compactF_len : ∀ (xs : List Int) (p : Option Int), (compactF p xs).length ≤ xs.length
  | [], _ => by simp [compactF]
  | x :: xs, p => by
    have := compactF_len xs (some x)
    unfold compactF
    split <;> simp only [List.length_cons] <;> omega
theorem Compact_own (h : Inv w0 T w cs) (hi : cs[i]? = some (rowP Kind.int 3 (.slice (some ⟨g, 0, none⟩) n cap) xs)) :
    Calls Try.prog 43 #[.slice (some ⟨g, 0, none⟩) n cap] w fun e w' => e = .returned (.slice (some ⟨g, 0, none⟩) (compactF none xs).length cap) ∧ Inv w0 T w' (cs.set i (rowP Kind.int 3 (.slice (some ⟨g, 0, none⟩) (compactF none xs).length cap) (compactF none xs))) := by
  obtain ⟨rfl, hc, h63⟩ := own_len h hi
  obtain ⟨hH, hg⟩ := h.holds hi
  refine (Try.slices_Compact_int g 0 cap xs w hH h63 hc).mono ?_
  rintro e w' ⟨rfl, q, rfl⟩
  rw [compact_eq]
  refine ⟨rfl, ?_⟩
  have hcl := compactF_len xs none
  rw [ahead_drewN]
  have h2 := (h.drewN q).putRow hi (compactF none xs ++ List.replicate (xs.length - (compactF none xs).length) 0) (by simp; omega)
  have hlt : i < cs.length := (List.getElem?_eq_some_iff.1 hi).1
  have h3 := h2.rowTake (i := i) (by rw [List.getElem?_set_self hlt]) (compactF none xs).length (by simp)
  rw [List.set_set, List.take_append_of_le_length (Nat.le_refl _), List.take_length] at h3
  exact h3
end
/-- Whole numbers that the search can bear. -/
abbrev BI := { x : Int // bd x }
instance : Inhabited BI := ⟨⟨0, by unfold bd; omega⟩⟩
theorem bd_lift : ∀ {xs : List Int}, (∀ x ∈ xs, bd x) → ∃ ys : List BI, ys.map Subtype.val = xs
  | [], _ => ⟨[], rfl⟩
  | x :: xs, h => by
    obtain ⟨ys, e⟩ := bd_lift (xs := xs) (fun y hy => h y (List.mem_cons_of_mem _ hy))
    exact ⟨⟨x, h x (List.mem_cons_self ..)⟩ :: ys, by rw [List.map_cons, e]⟩
theorem sorted_eq {cf : Int → Int → Int} {d : List BI} {d' : Array BI} (hp : Go.Sort.PermIn 0 d.toArray.size d.toArray d') (hs : Go.Sort.SortedIn (Go.Proofs.ltOf fun x y : BI => cf x.1 y.1) 0 d.toArray.size d')
    (htot : ∀ a b, (leOf cf a b || leOf cf b a) = true) (htr : ∀ a b c, leOf cf a b = true → leOf cf b c = true → leOf cf a c = true)
    (hanti : ∀ a ∈ d.map Subtype.val, ∀ b ∈ d.map Subtype.val, leOf cf a b = true → leOf cf b a = true → a = b) : d'.toList.map Subtype.val = (d.map Subtype.val).mergeSort (leOf cf) := by
  obtain ⟨h1, _, h3⟩ := hp
  have h1' : d'.size = d.length := by simpa using h1
  have h3' : d'.toList.Perm d := by
    have e1 : d'.extract 0 d.toArray.size = d' := by rw [show d.toArray.size = d'.size from h1.symm]; simp
    have e2 : d.toArray.extract 0 d.toArray.size = d.toArray := by simp
    rw [e1, e2] at h3
    simpa using h3
  have hperm := h3'.map Subtype.val
  refine List.Perm.eq_of_pairwise (le := fun a b => leOf cf a b = true) (fun a b ha hb hab hba => hanti a (hperm.mem_iff.1 ha) b ((List.mergeSort_perm _ _).mem_iff.1 hb) hab hba) ?_ (List.pairwise_mergeSort htr htot _) (hperm.trans (List.mergeSort_perm _ _).symm)
  rw [List.pairwise_iff_getElem]
  intro i j hi hj hij
  simp only [List.length_map, Array.length_toList] at hi hj
  have := hs i j (Nat.zero_le _) hij (by simpa [← h1'] using hj)
  rw [getElem!_pos d' j hj, getElem!_pos d' i hi] at this
  simp only [List.getElem_map, Array.getElem_toList]
  unfold leOf
  unfold Go.Proofs.ltOf at this
  rw [Bool.not_eq_true']
  exact this
theorem swo_of {cf : Int → Int → Int} (htot : ∀ a b, (leOf cf a b || leOf cf b a) = true) (htr : ∀ a b c, leOf cf a b = true → leOf cf b c = true → leOf cf a c = true) : Go.Sort.SWO (Go.Proofs.ltOf fun x y : BI => cf x.1 y.1) := by
  have hle : ∀ x y : BI, Go.Proofs.ltOf (fun x y : BI => cf x.1 y.1) x y = !leOf cf y.1 x.1 := fun x y => by unfold leOf Go.Proofs.ltOf; simp
  refine ⟨fun x => ?_, fun x y z h1 h2 => ?_, fun x y z h1 h2 => ?_⟩
  · rw [hle]
    have := htot x.1 x.1
    rw [Bool.or_self] at this
    rw [this]; rfl
  · rw [hle, Bool.not_eq_true'] at *
    cases h : leOf cf z.1 x.1 with
    | false => rfl
    | true =>
      have h3 : leOf cf x.1 y.1 = true := by have := htot x.1 y.1; rw [h1, Bool.or_false] at this; exact this
      have := htr _ _ _ h h3
      rw [h2] at this; cases this
  · rw [hle, Bool.not_eq_false'] at *
    exact htr _ _ _ h2 h1
section
variable {w0 w : World} {T : Nat → Prop} {cs : List HP} {g n cap i : Nat} {xs : List Int}
/-- slices.SortFunc over an owned row: the comparison is asked in each world in which that row holds something else. -/
theorem SortFunc_own {gf : Nat} {cb : Array Value} (eg : ∀ args w, (callFunc gf args).run Try.prog w = .ok (.enter gf args) w) (cf : Int → Int → Int) (htot : ∀ a b, (leOf cf a b || leOf cf b a) = true) (htr : ∀ a b c, leOf cf a b = true → leOf cf b c = true → leOf cf a c = true)
    (hanti : ∀ a ∈ xs, ∀ b ∈ xs, leOf cf a b = true → leOf cf b a = true → a = b) (hb : ∀ x ∈ xs, bd x) (h : Inv w0 T w cs) (hi : cs[i]? = some (rowP Kind.int 3 (.slice (some ⟨g, 0, none⟩) n cap) xs)) (hl : xs.length ≤ 2 * LIM)
    (hcmp : ∀ ys W, Inv w0 T W (cs.set i (rowP Kind.int 3 (.slice (some ⟨g, 0, none⟩) n cap) ys)) → ∀ x y, bd x → bd y → Calls Try.prog gf (#[.int .i64 x, .int .i64 y] ++ cb) W fun e W' => e = .returned (.int .i64 (cf x y)) ∧ Gro W W') :
    Calls Try.prog 48 #[.slice (some ⟨g, 0, none⟩) n cap, .func (.func gf) #[] cb] w fun e w' => e = .returned (.tuple #[]) ∧ Inv w0 T w' (cs.set i (rowP Kind.int 3 (.slice (some ⟨g, 0, none⟩) n cap) (xs.mergeSort (leOf cf)))) := by
  obtain ⟨rfl, _, _⟩ := own_len h hi
  obtain ⟨hH, hg⟩ := h.holds hi
  obtain ⟨d, hd⟩ := bd_lift hb
  have hdl : d.length = xs.length := by rw [← hd, List.length_map]
  have hput : ∀ (W : World) (dk : Array BI), Go.Sort.putRow (fun x : BI => Value.int .i64 x.1) W g 0 dk = Go.Sort.putRow (Value.int .i64) W g 0 (dk.toList.map Subtype.val).toArray := by
    intro W dk
    unfold Go.Sort.putRow
    congr 1
    funext c
    unfold Go.Sort.putCells
    apply Array.ext_getElem?
    intro k
    rw [Array.getElem?_mapIdx, Array.getElem?_mapIdx]
    cases c[k]? with
    | none => rfl
    | some u =>
      simp only [Option.map_some, Option.some.injEq, List.size_toArray, List.length_map, Array.length_toList]
      by_cases hk : 0 ≤ k ∧ k < 0 + dk.size
      · rw [if_pos hk, if_pos hk, getElem!_pos dk (k - 0) (by omega), getElem!_pos _ (k - 0) (by simp; omega)]
        simp
      · rw [if_neg hk, if_neg hk]
  have hHd : Go.Sort.Holds (fun x : BI => Value.int .i64 x.1) w g 0 d.toArray := by
    intro j hj
    have hj2 : j < xs.toArray.size := by simp at hj ⊢; omega
    obtain ⟨h1, h2⟩ := hH j hj2
    refine ⟨?_, h2⟩
    rw [h1, getElem!_pos _ j hj2, getElem!_pos _ j hj]
    subst hd
    simp
  have hcl : CmpLays1 Try.prog gf cb (fun x : BI => Value.int .i64 x.1) (fun x y => cf x.1 y.1) g 0 d.toArray.size w := by
    intro m os dk hdk x y
    have hI : YLib.Inv w0 T (sortWorld (fun x : BI => Value.int .i64 x.1) w g 0 m dk os) (cs.set i (rowP Kind.int 3 (.slice (some ⟨g, 0, none⟩) xs.length cap) (dk.toList.map Subtype.val))) := by
      unfold sortWorld
      rw [ahead_drewN, hput]
      exact ((h.drewN m).putRow hi _ (by have hdk : dk.size = d.toArray.size := hdk; simp at hdk ⊢; omega)).grow os
    refine (hcmp _ _ hI x.1 y.1 x.2 y.2).mono ?_
    rintro e W' ⟨rfl, hG⟩
    exact ⟨rfl, hG.ex⟩
  have hsz : d.toArray.size = xs.length := by simp [hdl]
  have := Try.slices_SortFunc (fun x : BI => Value.int .i64 x.1) (fun _ => rfl) (fun x y => cf x.1 y.1) (swo_of htot htr) gf cb g 0 cap d.toArray w eg hcl hHd hg (by rw [hsz]; unfold LIM at hl; omega)
  rw [hsz] at this
  refine this.mono ?_
  rintro e w' ⟨rfl, d', q, os, hp, hs, rfl⟩
  refine ⟨rfl, ?_⟩
  have heq := sorted_eq (cf := cf) (by rw [hsz]; exact hp) (by rw [hsz]; exact hs) htot htr (by rw [hd]; exact hanti)
  rw [hd] at heq
  unfold sortWorld
  rw [ahead_drewN, hput, heq]
  exact ((h.drewN q).putRow hi _ (List.length_mergeSort _)).grow os
end
end Go.Proofs.Ytcglokippflioaa

/-! Grow of nil, Concat of two, DeleteFunc over an owned row. -/
namespace Go.Proofs.Ytcglokippflioaa
open Go Go.RowKit YLib
theorem GrowNil_calls {w : World} {n : Nat} (hn : 0 < n) (hl : n ≤ 2 * LIM) : Calls Try.prog 82 #[.slice none 0 0, .int .i64 n] w fun e w' => ∃ cap, e = .returned (.slice (some ⟨w.heap.size, 0, none⟩) 0 cap) ∧ Inv w NoM w' [rowP Kind.int 3 (.slice (some ⟨w.heap.size, 0, none⟩) 0 cap) []] := by
  unfold LIM at hl
  obtain ⟨i0, hi, hzz⟩ := Option.map_eq_some_iff.1 infoInt
  simp only [Prod.mk.injEq] at hzz
  obtain ⟨hz0, hz1, hz2⟩ := hzz
  have hcon := Any8.slices_Grow_grow Try.growI i0 (.int .i64 0) hi hz0 (by rw [hz1]; decide) none 0 0 n [] w (Nat.le_refl _) (by omega) (by rw [hz2]; omega) (by omega) (by simp) (fun _ => rfl) (by intro a h; cases h)
  change Calls Try.prog 82 _ _ _ at hcon
  refine hcon.mono ?_
  rintro e w' ⟨rfl, rfl⟩
  obtain ⟨cap, hcap⟩ : ∃ cap, grownCap w (0 + n) 0 3 = cap := ⟨_, rfl⟩
  have hcap1 : grownCap w (0 + n) 0 (Try.growI_ren.t 25) = cap := hcap
  have hge : n ≤ cap := by have := grownCap_ge w (0 + n) 0 3; omega
  have hle : cap ≤ maxLen := by rw [← hcap]; exact grownCap_le_maxLen w (0 + n) 0 3 (by unfold maxLen; omega)
  unfold maxLen at hle
  rw [hcap1]
  refine ⟨cap, rfl, ?_⟩
  have hcells : (([] : List Value).toArray ++ Builtin.zeroCells (Value.int .i64 0).cells (0 + n - 0) ++ Builtin.zeroCells (Value.int .i64 0).cells (cap - (0 + n))) = madeCells #[Value.int .i64 0] cap := by
    have hc1 : (Value.int .i64 0).cells = #[Value.int .i64 0] := rfl
    rw [hc1]
    apply Array.ext
    · simp [Builtin.zeroCells, madeCells]; omega
    · intro j h1 h2
      simp only [Builtin.zeroCells, madeCells, Array.getElem_append, Array.getElem_map, Array.getElem_range]
      simp [Nat.mod_one]
  rw [hcells]
  have hm := ((Inv.start0 w).drew).made (enc := Value.int .i64) (h1 := fun _ => rfl) 3 0 cap (by omega)
  have ht := hm.rowTake (i := 0) rfl 0 (Nat.zero_le _)
  exact ht
section
variable {w0 w : World} {T : Nat → Prop} {cs : List HP} {g n cap i : Nat} {xs : List Int}
theorem DeleteFunc_own {gf : Nat} {lb : Array Value} (eg : ∀ args w, (callFunc gf args).run Try.prog w = .ok (.enter gf args) w) (p : Int → Bool) (h : Inv w0 T w cs) (hi : cs[i]? = some (rowP Kind.int 3 (.slice (some ⟨g, 0, none⟩) n cap) xs))
    (hp : ∀ ys W, Inv w0 T W (cs.set i (rowP Kind.int 3 (.slice (some ⟨g, 0, none⟩) n cap) ys)) → ∀ x, Calls Try.prog gf (#[.int .i64 x] ++ lb) W fun e W' => e = .returned (.bool (p x)) ∧ ∃ q, W' = W.drewN q) :
    Calls Try.prog 61 #[.slice (some ⟨g, 0, none⟩) n cap, .func (.func gf) #[] lb] w fun e w' => e = .returned (.slice (some ⟨g, 0, none⟩) (xs.filter fun x => !p x).length cap) ∧
      Inv w0 T w' (cs.set i (rowP Kind.int 3 (.slice (some ⟨g, 0, none⟩) (xs.filter fun x => !p x).length cap) (xs.filter fun x => !p x))) := by
  obtain ⟨rfl, hc, h63⟩ := own_len h hi
  obtain ⟨hH, hg⟩ := h.holds hi
  have hlt : i < cs.length := (List.getElem?_eq_some_iff.1 hi).1
  have hset : cs.set i (rowP Kind.int 3 (.slice (some ⟨g, 0, none⟩) xs.length cap) xs) = cs := by
    apply List.ext_getElem?
    intro k
    rw [List.getElem?_set]
    by_cases hk : i = k
    · subst hk; rw [if_pos rfl, if_pos hlt, hi]
    · rw [if_neg hk]
  have hcon := AnyE.slices_DeleteFunc Try.delI (Value.int .i64) (fun _ => rfl) p gf lb eg 0 (fun w => by kernel_rfl) g 0 cap xs.toArray w
    (fun W x hb => hp xs W (by rw [hset]; exact h.below hb) x)
    (fun m os dk x hdk => hp dk.toList _ (by
      unfold sortWorld
      rw [ahead_drewN]
      have := ((h.drewN m).putRow hi dk.toList (by have hdk : dk.size = xs.toArray.size := hdk; simpa using hdk)).grow os
      simpa using this) x) hH (by simpa using h63) (by simpa using hc)
  change Calls Try.prog 61 _ _ _ at hcon
  have hsz : xs.toArray.size = xs.length := by simp
  rw [hsz] at hcon
  refine hcon.mono ?_
  rintro e w' ⟨rfl, q, rfl⟩
  have hfl := List.length_filter_le (fun x => !p x) xs
  have h2 := (h.drewN q).putRow hi ((xs.filter fun x => !p x) ++ List.replicate (xs.length - (xs.filter fun x => !p x).length) 0) (by simp only [List.length_append, List.length_replicate]; omega)
  have h3 := h2.rowTake (i := i) (by rw [List.getElem?_set_self hlt]) (xs.filter fun x => !p x).length (by simp)
  rw [List.set_set, List.take_append_of_le_length (Nat.le_refl _), List.take_length] at h3
  exact ⟨rfl, h3⟩
end
end Go.Proofs.Ytcglokippflioaa

/-! Concat of two, Resolve. -/
namespace Go.Proofs.Ytcglokippflioaa
open Go Go.RowKit YLib
set_option maxRecDepth 100000 in
set_option maxHeartbeats 2000000 in
theorem Concat_calls {w : World} {S1 S2 : Nat → Prop} {B : Nat} {A1 A2 : Option Addr} {c1 c2 : Nat} {a b : List Int} (hB0 : w.cell? ⟨B, 0, none⟩ = some (.slice A1 a.length c1)) (hB1 : w.cell? ⟨B, 1, none⟩ = some (.slice A2 b.length c2))
    (h1 : RowAt Kind.int w S1 A1 a) (h2 : RowAt Kind.int w S2 A2 b) (hp : 0 < a.length) (hq : 0 < b.length) (hal : a.length ≤ LIM) (hbl : b.length ≤ LIM) :
    Calls Try.prog 62 #[.slice (some ⟨B, 0, none⟩) 2 2] w fun e w' => ∃ g cap, e = .returned (.slice (some ⟨g, 0, none⟩) (a.length + b.length) cap) ∧ Inv w NoM w' [rowP Kind.int 3 (.slice (some ⟨g, 0, none⟩) (a.length + b.length) cap) (a ++ b)] := by
  have HG := hid (GrowNil_calls (w := w) (n := a.length + b.length) (by omega) (by unfold LIM at *; omega))
  unfold LIM at hal hbl
  obtain ⟨b1, o1, hA1⟩ := RowAt.addr h1 hp
  obtain ⟨b2, o2, hA2⟩ := RowAt.addr h2 hq
  subst hA1 hA2
  have H1 := hid h1
  have H2 := hid h2
  clear h1 h2
  have HN1 : Hid (∀ W, Below w.heap.size w W → ∀ (j : Nat) u, (a.map (Value.int .i64))[j]? = some u → W.cell? ((⟨b1, o1, none⟩ : Addr).add j) = some u) := by
    intro W hW j u hu
    rw [List.getElem?_map] at hu
    obtain ⟨x, hx, rfl⟩ := Option.map_eq_some_iff.1 hu
    obtain ⟨_, _, hA, hc⟩ := intAt (H1.out.chg (Chg.of_below hW NoM) (fun _ _ => id)) hx
    injection hA with hA
    injection hA with hA1 hA2
    subst hA1 hA2
    rw [add_addr']; exact hc
  have HN2 : Hid (∀ W, Below w.heap.size w W → ∀ (j : Nat) u, (b.map (Value.int .i64))[j]? = some u → W.cell? ((⟨b2, o2, none⟩ : Addr).add j) = some u) := by
    intro W hW j u hu
    rw [List.getElem?_map] at hu
    obtain ⟨x, hx, rfl⟩ := Option.map_eq_some_iff.1 hu
    obtain ⟨_, _, hA, hc⟩ := intAt (H2.out.chg (Chg.of_below hW NoM) (fun _ _ => id)) hx
    injection hA with hA
    injection hA with hA1 hA2
    subst hA1 hA2
    rw [add_addr']; exact hc
  obtain ⟨na, hna⟩ : ∃ n, a.length = n := ⟨_, rfl⟩
  obtain ⟨nb, hnb⟩ : ∃ n, b.length = n := ⟨_, rfl⟩
  have HNA := hid hna
  have HNB := hid hnb
  rw [hna, hnb] at HG
  rw [hna] at hp hal hB0 ⊢
  rw [hnb] at hq hbl hB1 ⊢
  clear hna hnb
  have hltB : B < w.heap.size := World.block_lt_of_cell? w _ hB0
  go_enter Try.func62, Try.ntmps62
  go_wp2
  go_loopg [3, 11] 2 (fun kq v3 v11 wr => ∃ k : Nat, v11 = .int .i64 k ∧ k ≤ 2 ∧ v3 = .int .i64 ((if k = 0 then 0 else if k = 1 then na else na + nb : Nat) : Int) ∧ Hid (kq + k = 2) ∧ wr = w)
  case atStart => exact ⟨0, rfl, by omega, rfl, hid rfl, rfl⟩
  case round =>
    obtain ⟨k, rfl, hk, hv3, HK, hww⟩ := hrel
    subst hww
    have hkc : k = 0 ∨ k = 1 ∨ k = 2 := by omega
    rcases hkc with rfl | rfl | rfl
    · rw [if_pos rfl] at hv3
      subst hv3
      go_wp2
      go_roundg 1
      case measure => have := HK.out; omega
      case rel => exact ⟨1, by go_num, by omega, by simp, hid rfl, rfl⟩
    · rw [if_neg (by decide), if_pos rfl] at hv3
      subst hv3
      go_wp2
      go_roundg 0
      case measure => have := HK.out; omega
      case rel => exact ⟨2, by go_num, by omega, by simp, hid rfl, rfl⟩
    · rw [if_neg (by decide), if_neg (by decide)] at hv3
      subst hv3
      obtain ⟨wo, hwo⟩ : ∃ wo : World, wo = wr := ⟨_, rfl⟩
      subst hwo
      go_wp2_with (first | (go_at_call 82; refine HG.out.mono ?_; rintro e w1 ⟨cap, rfl, h1⟩; have HI := hid h1; have hB0' := (h1.belowOf.cell (p := ⟨B, 0, none⟩) hltB).trans hB0; have hB1' := (h1.belowOf.cell (p := ⟨B, 1, none⟩) hltB).trans hB1; clear h1))
      go_loopg [6, 27] 2 (fun kq v6 v27 wr => ∃ (k g cap L : Nat) (xs : List Int), v27 = .int .i64 k ∧ k ≤ 2 ∧ v6 = .slice (some ⟨g, 0, none⟩) L cap ∧ Hid (xs = if k = 0 then [] else if k = 1 then a else a ++ b) ∧ Hid (L = xs.length) ∧ Hid (kq + k = 2) ∧ Hid (YLib.Inv wo NoM wr [rowP Kind.int 3 (.slice (some ⟨g, 0, none⟩) L cap) xs]))
      case atStart => exact ⟨0, _, cap, 0, [], rfl, by omega, rfl, hid rfl, hid rfl, hid rfl, HI⟩
      case round =>
        clear HI hB0' hB1'
        obtain ⟨k, g, cap, L, xs, rfl, hk, rfl, HX, HL, HK, HI⟩ := hrel
        have hB0' := (HI.out.belowOf.cell (p := ⟨B, 0, none⟩) hltB).trans hB0
        have hB1' := (HI.out.belowOf.cell (p := ⟨B, 1, none⟩) hltB).trans hB1
        have hkc : k = 0 ∨ k = 1 ∨ k = 2 := by omega
        rcases hkc with rfl | rfl | rfl
        · have hx := HX.out
          rw [if_pos rfl] at hx
          subst hx
          have hl := HL.out
          subst hl
          go_wp2_with (at_builtin; refine wpList_of_wp rfl fun K hK => ?_; go_loud (refine wp_append_inv (d := Kind.int) _ _ 26 rfl Try.underlying26 infoInt rfl (by decide) 0 _ [] a HI.out rfl rfl ⟨b1, o1, none⟩ na c1 rfl (a.map (Value.int .i64)) HNA.out (HN1.out _ HI.out.belowOf) (reps_enc _) hp (by simp; omega) (by simp; omega) ?_); intro g1 cap1 w2 h2; have HI2 := hid h2; clear h2; refine hK _ _ ?_; clear hK K)
          go_roundg 1
          case measure => have := HK.out; omega
          case rel => exact ⟨1, g1, cap1, na, a, by go_num, by omega, by simp, hid rfl, hid HNA.out.symm, hid rfl, hid (by simpa using HI2.out)⟩
        · have hx := HX.out
          rw [if_neg (by decide), if_pos rfl] at hx
          subst hx
          have hl : L = na := HL.out.trans HNA.out
          subst hl
          go_wp2_with (at_builtin; refine wpList_of_wp rfl fun K hK => ?_; go_loud (refine wp_append_inv (d := Kind.int) _ _ 26 rfl Try.underlying26 infoInt rfl (by decide) 0 _ xs b HI.out rfl rfl ⟨b2, o2, none⟩ nb c2 rfl (b.map (Value.int .i64)) HNB.out (HN2.out _ HI.out.belowOf) (reps_enc _) hq (by rw [HNA.out]; omega) (by rw [HNA.out]; omega) ?_); intro g1 cap1 w2 h2; rw [HNA.out] at h2 ⊢; have HI2 := hid h2; clear h2; refine hK _ _ ?_; clear hK K)
          go_roundg 0
          case measure => have := HK.out; omega
          case rel => exact ⟨2, g1, cap1, L + nb, xs ++ b, by go_num, by omega, rfl, hid rfl, hid (by rw [List.length_append, HNA.out, HNB.out]), hid rfl, HI2⟩
        · have hx := HX.out
          rw [if_neg (by decide), if_neg (by decide)] at hx
          subst hx
          have hl : L = na + nb := by rw [HL.out, List.length_append, HNA.out, HNB.out]
          subst hl
          go_wp2
          go_ret
          exact ⟨g, cap, rfl, HI.out⟩
end Go.Proofs.Ytcglokippflioaa

/-! Resolve. -/
namespace Go.Proofs.Ytcglokippflioaa
open Go Go.RowKit YLib
theorem contains_calls {w : World} {S : Nat → Prop} {A : Option Addr} {c : Nat} {xs : List Int} (h : RowAt Kind.int w S A xs) (hl : xs.length ≤ LIM) (x : Int) : Calls Try.prog 45 #[.slice A xs.length c, .int .i64 x] w fun e w' => e = .returned (.bool (xs.contains x)) ∧ w = w' := by
  unfold LIM at hl
  rcases Nat.eq_zero_or_pos xs.length with h0 | h0
  · obtain rfl := List.eq_nil_of_length_eq_zero h0
    exact (Try.slices_Contains_int_empty A c x w).mono fun e w' ⟨h1, h2⟩ => ⟨h1, h2.symm⟩
  · obtain ⟨b, o, rfl⟩ := RowAt.addr h h0
    refine (Try.slices_Contains_int b o xs.length c xs x w (Nat.le_refl _) (by omega) (intCells h)).mono fun e w' ⟨h1, h2⟩ => ⟨?_, h2.symm⟩
    rw [List.take_length] at h1
    exact h1
theorem totR : ∀ a b, (leOf cmpR a b || leOf cmpR b a) = true := by
  intro a b
  rw [Bool.or_eq_true, leR_iff, leR_iff]
  omega
theorem trR : ∀ a b c, leOf cmpR a b = true → leOf cmpR b c = true → leOf cmpR a c = true := by
  intro a b c h1 h2
  rw [leR_iff] at *
  omega
section
variable {w : World}
set_option maxRecDepth 100000 in
set_option maxHeartbeats 4000000 in
theorem Resolve_calls {S1 S2 : Nat → Prop} {A1 A2 : Option Addr} {c1 c2 : Nat} {a b : List Int} {v : Int} {r : List Int} (hr : resolveL a b v = some r) (h1 : RowAt Kind.int w S1 A1 a) (h2 : RowAt Kind.int w S2 A2 b) :
    Calls Try.prog 46 #[.slice A1 a.length c1, .slice A2 b.length c2, .int .i64 v] w fun e w' => ∃ g cap, e = .returned (.tuple #[.slice (some ⟨g, 0, none⟩) r.length cap, .bool true]) ∧ Inv w NoM w' [rowP Kind.int 3 (.slice (some ⟨g, 0, none⟩) r.length cap) r] := by
  unfold resolveL at hr
  split at hr
  case isFalse => cases hr
  rename_i hok
  injection hr with hr
  obtain ⟨hv1, hv2, hga, hgb, hhas, hal, hbl⟩ := hok
  have hap : 0 < a.length := by rcases hhas with h | h <;> exact List.length_pos_of_mem h.1
  have hbp : 0 < b.length := by rcases hhas with h | h <;> exact List.length_pos_of_mem h.2
  have hal' := hal
  have hbl' := hbl
  unfold LIM at hal hbl
  have hbv : bd v := ⟨by omega, by omega⟩
  have egB : ∀ args w, (callFunc 59 args).run Try.prog w = .ok (.enter 59 args) w := enters_of Try.func59 (by kernel_rfl) rfl
  have egD : ∀ args w, (callFunc 63 args).run Try.prog w = .ok (.enter 63 args) w := enters_of Try.func63 (by kernel_rfl) rfl
  have egS : ∀ args w, (callFunc 64 args).run Try.prog w = .ok (.enter 64 args) w := enters_of Try.func64 (by kernel_rfl) rfl
  have hBA : (a.any fun x => !decide (goodI x)) = false := by
    rw [List.any_eq_false]; intro x hx; simp [hga x hx]
  have hBB : (b.any fun x => !decide (goodI x)) = false := by
    rw [List.any_eq_false]; intro x hx; simp [hgb x hx]
  have HCA := hid (fun W (hW : Gro w W) => ContainsFuncI_calls (c := c1) (lb := #[]) egB (hW.row h1) (by omega) (p := fun x => !decide (goodI x)) (fun x _ W' _ => res1_calls x W'))
  have HCB := hid (fun W (hW : Gro w W) => ContainsFuncI_calls (c := c2) (lb := #[]) egB (hW.row h2) (by omega) (p := fun x => !decide (goodI x)) (fun x _ W' _ => res1_calls x W'))
  rw [hBA] at HCA
  rw [hBB] at HCB
  have HHA := hid (fun W (hW : Gro w W) x => contains_calls (c := c1) (hW.row h1) hal' x)
  have HHB := hid (fun W (hW : Gro w W) x => contains_calls (c := c2) (hW.row h2) hbl' x)
  have HG0 := hid ((Gro.refl w).alloc (.cells #[.int .i64 v] 3))
  have hB0 : (w.alloc (.cells #[.int .i64 v] 3)).cell? ⟨w.heap.size, 0, none⟩ = some (.int .i64 v) := by simp [go_sem]
  have hBs : w.heap.size < (w.alloc (.cells #[.int .i64 v] 3)).heap.size := by simp
  have HB0 := hid hB0
  clear hBA hBB
  have hga' : ∀ x ∈ a ++ b, bd x := fun x hx => by rcases List.mem_append.1 hx with h | h; exact good_bd (hga x h); exact good_bd (hgb x h)
  obtain ⟨na, hna⟩ : ∃ n, a.length = n := ⟨_, rfl⟩
  obtain ⟨nb, hnb⟩ : ∃ n, b.length = n := ⟨_, rfl⟩
  have HNA := hid hna
  have HNB := hid hnb
  have HR := hid hr
  have HH := hid hhas
  have HGB := hid hga'
  have H1 := hid h1
  have H2 := hid h2
  rw [hna] at HCA HHA hap hal
  rw [hnb] at HCB HHB hbp hbl
  rw [hna, hnb]
  clear hna hnb hr hhas hga hgb hga' h1 h2 hB0 hal' hbl'
  have hv0 : ¬ v < 1 := by omega
  have hvn : wrap64 (-v) = -v := IntWalk.wrap64_in _ (by omega)
  have hcase : (a.contains v = true ∧ b.contains (-v) = true) ∨ (a.contains v = false ∧ a.contains (-v) = true ∧ b.contains v = true) ∨ (a.contains v = true ∧ b.contains (-v) = false ∧ a.contains (-v) = true ∧ b.contains v = true) := by
    have h := HH.out
    simp only [List.contains_eq_mem, decide_eq_false_iff_not, decide_eq_true_eq]
    by_cases ha : v ∈ a
    · by_cases hb : -v ∈ b
      · exact .inl ⟨ha, hb⟩
      · rcases h with h | h
        · exact absurd h.2 hb
        · exact .inr (.inr ⟨ha, hb, h.1, h.2⟩)
    · rcases h with h | h
      · exact absurd h.1 ha
      · exact .inr (.inl ⟨ha, h.1, h.2⟩)
  have HX1 := hid (fun W hW => HHA.out W hW v)
  have HX2 := hid (fun W hW => HHA.out W hW (-v))
  have HX3 := hid (fun W hW => HHB.out W hW v)
  have HX4 := hid (fun W hW => HHB.out W hW (-v))
  clear HH HHA HHB
  generalize a.contains v = p1 at *
  generalize a.contains (-v) = p2 at *
  generalize b.contains v = p3 at *
  generalize b.contains (-v) = p4 at *
  rcases hcase with ⟨rfl, rfl⟩ | ⟨rfl, rfl, rfl⟩ | ⟨rfl, rfl, rfl, rfl⟩
  all_goals
    go_enter Try.func46, Try.ntmps46
    go_upto_region 5 with (first
      | (go_at_call 52; first | ((with_reducible refine (HCA.out _ HG0.out).mono ?_); rintro e w2 ⟨rfl, h1⟩; have HG1 := hid (HG0.out.trans h1); have HB1 := hid (h1.cell HB0.out); have hB1' := HB1.out; clear h1) | ((with_reducible refine (HCB.out _ HG1.out).mono ?_); rintro e w3 ⟨rfl, h1⟩; have HG2 := hid (HG1.out.trans h1); have HB2 := hid (h1.cell HB1.out); have hB2' := HB2.out; clear h1))
      | (go_at_call 45; first | ((with_reducible refine (HX1.out _ HG2.out).mono ?_); rintro e w' ⟨rfl, rfl⟩) | ((with_reducible refine (HX2.out _ HG2.out).mono ?_); rintro e w' ⟨rfl, rfl⟩) | ((with_reducible refine (HX3.out _ HG2.out).mono ?_); rintro e w' ⟨rfl, rfl⟩) | ((with_reducible refine (HX4.out _ HG2.out).mono ?_); rintro e w' ⟨rfl, rfl⟩)))
    clear HX1 HX2 HX3 HX4 HCA HCB hB1' hB2' HB0 HB1 HG0 HG1
    have HG3 := hid (HG2.out.alloc (.cells #[.slice A1 na c1, .slice A2 nb c2] 26))
    have HC := hid (Concat_calls (w := w3.alloc (.cells #[.slice A1 na c1, .slice A2 nb c2] 26)) (B := w3.heap.size) (A1 := A1) (A2 := A2) (c1 := c1) (c2 := c2) (a := a) (b := b) (by rw [HNA.out]; simp [go_sem]) (by rw [HNB.out]; simp [go_sem]) (HG3.out.row H1.out) (HG3.out.row H2.out) (by rw [HNA.out]; exact hap) (by rw [HNB.out]; exact hbp) (by rw [HNA.out]; unfold LIM; exact hal) (by rw [HNB.out]; unfold LIM; exact hbl))
    have HB3 := hid (((Gro.refl w3).alloc (.cells #[.slice A1 na c1, .slice A2 nb c2] 26)).cell HB2.out)
    go_wp2_with fail
    refine HC.out.mono ?_
    rintro e w5 ⟨g, cap, rfl, h5⟩
    have HD := hid (DeleteFunc_own (gf := 63) (lb := #[.pointer (some ⟨w.heap.size, 0, none⟩)]) egD (fun x => x == v || x == -v) h5 (i := 0) rfl (fun ys W hW x => res2_calls hbv x ((hW.belowOf.cell (p := ⟨w.heap.size, 0, none⟩) (World.block_lt_of_cell? _ _ HB3.out)).trans HB3.out)))
    go_wp2_with fail
    refine HD.out.mono ?_
    rintro e w6 ⟨rfl, h6⟩
    clear h5 HD
    have hfl : ((a ++ b).filter fun x => !(x == v || x == -v)).length ≤ 2 * LIM := by
      have h1 := List.length_filter_le (fun x => !(x == v || x == -v)) (a ++ b)
      rw [List.length_append, HNA.out, HNB.out] at h1
      unfold LIM
      omega
    have hfb : ∀ x ∈ ((a ++ b).filter fun x => !(x == v || x == -v)), bd x := fun x hx => HGB.out x (List.mem_filter.1 hx).1
    have HS := hid (SortFunc_own (gf := 64) (cb := #[]) egS cmpR totR trR (fun x _ y _ h1 h2 => anti_R x y h1 h2) hfb h6 (i := 0) rfl hfl (fun ys W hW x y hx hy => res3_calls hx hy W))
    clear hfl hfb h6
    have HRR := hid HR.out
    generalize ((a ++ b).filter fun x => !(x == v || x == -v)) = xs at *
    go_wp2_with fail
    refine HS.out.mono ?_
    rintro e w7 ⟨rfl, h7⟩
    clear HS
    have HP := hid (Compact_own h7 (i := 0) rfl)
    clear h7
    have hr := HRR.out
    generalize xs.mergeSort (leOf cmpR) = ys at *
    go_wp2_with fail
    refine HP.out.mono ?_
    rintro e w8 ⟨rfl, h8⟩
    clear HP
    rw [hr] at h8 ⊢
    have H8 := hid h8
    clear h8 hr
    go_wp2
    go_ret2
    refine ⟨g, cap, rfl, ?_⟩
    have h9 := (HG3.out.inv (Inv.start0 w)).join H8.out
    exact h9
end
end Go.Proofs.Ytcglokippflioaa

/-! conflict. -/
namespace Go.Proofs.Ytcglokippflioaa
open Go Go.RowKit YLib
/-- What is asked of learn.Learn. -/
def LearnOK (LF : List (List Int) → List Tr → Int → Option (List Int × Int × Bool)) : Prop :=
  ∀ {w : World} {A1 A2 : Option Addr} {c1 c2 : Nat} {cls : List (List Int)} {tr : List Tr} {k : Int} {c : List Int} {lv : Int} {ok : Bool},
    RowAt clK w (fun _ => True) A1 cls → RowAt trK w (fun _ => True) A2 tr → cls.length ≤ c1 → tr.length ≤ c2 → cls.length ≤ LIM → tr.length ≤ LIM → (∀ c ∈ cls, c.length ≤ LIM) → LF cls tr k = some (c, lv, ok) →
    Calls Try.prog 35 #[.slice A1 cls.length c1, .slice A2 tr.length c2, .int .i64 k] w fun e w' => ∃ A cap, e = .returned (.tuple #[.slice A c.length cap, .int .i64 lv, .bool ok]) ∧ Inv w NoM w' [rdP clK [.slice A c.length cap] c]
theorem intAt2 {w : World} {S : Nat → Prop} {A : Option Addr} {x : Int} {c : List Int} {cap : Nat} (h : clK.rd w S [.slice A (x :: c).length cap] (x :: c)) : RowAt Kind.int w (fun _ => True) A (x :: c) := by
  obtain ⟨A', c', e, _, hr⟩ := h
  injection e with e _
  injection e with e1 e2 e3
  subst e1
  exact hr.mono (fun _ _ => trivial)
section
variable {w0 w : World} {T : Nat → Prop} {b m : Nat} {fc fo vc vv vt vl : Value} {s : St} {rest : List HP}
theorem _root_.Go.Proofs.Ytcglokippflioaa.YLib.Inv.joinBehind {T : Nat → Prop} {w0 w w' : World} {xs ys : List HP} {c : HP} (h : Inv w0 T w (xs ++ ys)) (hn : Inv w NoM w' [c]) : Inv w0 T w' (xs ++ c :: ys) :=
  (h.join hn).perm (List.perm_middle (l₁ := xs)).symm
theorem _root_.Go.Proofs.Ytcglokippflioaa.YLib.Inv.dropBehind {T : Nat → Prop} {w0 w : World} {xs ys : List HP} {c : HP} (h : Inv w0 T w (xs ++ c :: ys)) : Inv w0 T w (xs ++ ys) :=
  (h.perm (List.perm_middle (l₁ := xs))).tail
theorem _root_.Go.Proofs.Ytcglokippflioaa.YLib.Inv.rdRow {T : Nat → Prop} {w0 w : World} {cs : List HP} {i : Nat} {A : Option Addr} {cap : Nat} {c : List Int} (h : Inv w0 T w cs) (hi : cs[i]? = some (rdP clK [.slice A c.length cap] c)) : RowAt Kind.int w (fun _ => True) A c := by
  obtain ⟨S, hS, _⟩ := h.get hi
  obtain ⟨A', c', e, _, hr⟩ := hS
  injection e with e _
  injection e with e1 e2 e3
  subst e1
  exact hr.mono (fun _ _ => trivial)
set_option maxRecDepth 100000 in
set_option maxHeartbeats 4000000 in
theorem conflict_calls {LF : List (List Int) → List Tr → Int → Option (List Int × Int × Bool)} (hLF : LearnOK LF) (h : Inv w0 T w (sP b fc fo vc vv vt vl m s ++ rest)) (k : Int) (hv0 : 0 < s.val.length) {s' : St} {r : Bool} (hr : conflL LF s k = some (s', r)) :
    Calls Try.prog 25 #[.pointer (some ⟨b, 0, none⟩), .int .i64 k] w fun e w' => e = .returned (.bool r) ∧ ∃ vc' vt' vl', Inv w0 T w' (sP b fc fo vc' vv vt' vl' m s' ++ rest) := by
  unfold conflL at hr
  by_cases hlog : s.log.length < LIM
  case neg => rw [if_neg hlog] at hr; cases hr
  rw [if_pos hlog] at hr
  have hlog' := hlog
  unfold LIM at hlog'
  by_cases hlv : lastLevel s.tr = 0
  · rw [if_pos hlv] at hr
    cases hr
    have HL := hid (level_calls h)
    rw [hlv] at HL
    have hc7 := ((h.drewN 0).cell (i := 0) rfl 7 rfl).1
    have H := hid h; clear h
    go_enter Try.func25, Try.ntmps25
    clear hc7
    go_wp2_with (first
      | (go_at_call 26; refine HL.out.mono ?_; rintro e w' ⟨rfl, q, rfl⟩; have hc7 := ((H.out.drewN q).cell (i := 0) rfl 7 rfl).1; have H1 := hid (H.out.drewN q); generalize w.drewN q = w1 at *)
      | (at_builtin; refine wpList_of_wp rfl fun K hK => ?_; refine wp_append_inv (d := clK) _ _ 33 rfl Try.underlying33 infoInts rfl (by decide) 4 vl s.log [[]] (H1.out.alloc _) rfl rfl ⟨w1.heap.size, 0, none⟩ 1 1 rfl [.slice none 0 0] rfl (World.news_of_block (heap_alloc_new w1 _)) ⟨_, _, rfl, ⟨none, 0, rfl, Nat.le_refl _, RowAt.nil _ _ _ _⟩, rfl⟩ (by omega) (by omega) (by omega) ?_; intro g1 cap1 w2 h4; obtain ⟨hc1, hc2⟩ := h4.cell (i := 0) rfl 7 rfl; have H4 := hid h4; clear h4; refine hK _ _ ?_; clear hK K))
    go_ret
    exact ⟨rfl, vc, vt, _, H4.out.set (i := 0) rfl 7 _⟩
  · rw [if_neg hlv] at hr
    by_cases hg : s.cls.length < LIM ∧ s.tr.length < LIM ∧ (∀ c ∈ s.cls, c.length ≤ LIM) ∧ okLits s.val s.tr ∧ 0 ≤ s.act s.cls.length ∧ s.act s.cls.length ≤ 1 ∧ -LIM ≤ lastLevel s.tr ∧ lastLevel s.tr ≤ LIM
    case neg => rw [if_neg hg] at hr; cases hr
    rw [if_pos hg] at hr
    obtain ⟨hg1, hg2, hg3, hg4, hg5, hg6, hg7, hg8⟩ := hg
    have HOK := hid hg4
    have HR := hid hr
    have HLV := hid (level_calls h)
    obtain ⟨A1, c1, e1, hle1, _, hr1⟩ := h.rowShape (i := 3) rfl
    obtain ⟨A2, c2, e2, hle2, _, hr2⟩ := h.rowShape (i := 2) rfl
    subst e1 e2
    clear hr hg4
    obtain ⟨⟨c, lv, ok⟩, hF⟩ : ∃ x, LF s.cls s.tr k = some x := by
      have := HR.out
      cases hx : LF s.cls s.tr k with
      | none => rw [hx] at this; cases this
      | some x => exact ⟨x, rfl⟩
    have HLC := hid (fun (W : World) (hW : W.heap = w.heap) => hLF (w := W.drew) (hr1.move (fun k _ _ => by show W.heap[k]? = _; rw [hW]) |>.mono (fun _ _ => trivial)) (hr2.move (fun k _ _ => by show W.heap[k]? = _; rw [hW]) |>.mono (fun _ _ => trivial)) hle1 hle2 (by omega) (by omega) hg3 hF)
    have H := hid h
    clear h hr1 hr2 hg3
    have hneq : (lastLevel s.tr == 0) = false := by simpa using hlv
    have HLL : Hid (∃ l, lastLevel s.tr = l) := hid ⟨_, rfl⟩
    obtain ⟨l, hl⟩ := HLL.out
    have HLE := hid hl
    rw [hl] at HLV hneq hlv hg7 hg8
    clear hl HLL
    go_enter Try.func25, Try.ntmps25
    go_upto_region 4 with (first | (go_at_call 26; refine HLV.out.mono ?_; rintro e w' ⟨rfl, q, rfl⟩; have hc3 := ((H.out.drewN q).cell (i := 0) rfl 3 rfl).1; have hc6 := ((H.out.drewN q).cell (i := 0) rfl 6 rfl).1; have H1 := hid (H.out.drewN q); have hW : (w.drewN q).heap = w.heap := rfl; generalize w.drewN q = w1 at *))
    go_cut [5, 6, 7] (fun v5 v6 v7 wx => ∃ A cap, v5 = .slice A c.length cap ∧ v6 = .int .i64 lv ∧ v7 = .bool ok ∧ Hid (YLib.Inv w0 T wx (sP b fc fo (.slice A1 s.cls.length c1) vv (.slice A2 s.tr.length c2) vl m s ++ rdP clK [.slice A c.length cap] c :: rest)))
    case first =>
      go_region_law (first
        | (go_simp; go_at_call 35; refine (HLC.out _ hW).mono ?_; rintro e w2 ⟨A, cap, rfl, hn⟩; have H2 := hid (H1.out.drew.joinBehind hn); clear hn))
      all_goals
        go_wp2_with (fail)
        go_meet
        case rel => exact ⟨_, _, rfl, rfl, rfl, H2⟩
    case rest =>
     obtain ⟨A, cap, rfl, rfl, rfl, H2⟩ := hcut
     have hr := HR.out
     rw [hF] at hr
     clear hc3 hc6 hW HR HLV HLC H1
     cases ok with
     | false =>
       cases hr
       have HB := hid (back_calls H2.out (l - 1) hv0 HOK.out)
       have hsub : IntKind.i64.wrap (l - 1) = l - 1 := IntWalk.i64_in _ (by unfold LIM at *; omega)
       have HL2 := hid (level_calls H2.out)
       rw [HLE.out] at HL2
       clear HB
       go_wp2_with (first
         | (go_at_call 26; refine HL2.out.mono ?_; rintro e w' ⟨rfl, q, rfl⟩; have HB := hid (back_calls (H2.out.drewN q) (l - 1) hv0 HOK.out))
         | (go_at_call 27; refine HB.out.mono ?_; rintro e w' ⟨rfl, vt3, h3⟩; have H3 := hid h3; clear h3))
       go_ret
       refine ⟨rfl, .slice A1 s.cls.length c1, vt3, vl, ?_⟩
       have h3 := H3.out.dropBehind
       rw [← HLE.out] at h3
       exact h3
     | true =>
       cases c with
       | nil => cases hr
       | cons x c =>
         by_cases hx : 0 ≤ size x ∧ size x < (backL lv s.val s.tr).1.length ∧ (backL lv s.val s.tr).2.length < LIM ∧ (x :: c).length ≤ LIM
         case neg => simp only [if_neg hx] at hr; cases hr
         simp only [if_pos hx] at hr
         cases hr
         obtain ⟨hx1, hx2, hx3, hx4⟩ := hx
         have HB := hid (back_calls H2.out lv hv0 HOK.out)
         obtain ⟨v3, hv3⟩ : ∃ v3, (backL lv s.val s.tr).1 = v3 := ⟨_, rfl⟩
         obtain ⟨t3, ht3⟩ : ∃ t3, (backL lv s.val s.tr).2 = t3 := ⟨_, rfl⟩
         rw [hv3, ht3] at HB
         rw [hv3] at hx2
         rw [ht3] at hx3
         have HV3 := hid hv3
         have HT3 := hid ht3
         clear hv3 ht3
         have hx4' := hx4
         unfold LIM at hx4'
         go_upto_region 9 with (first
           | (go_at_call 27; refine HB.out.mono ?_; rintro e w3 ⟨rfl, vt3, h3⟩; have hc7 := (h3.drew.cell (i := 0) rfl 7 rfl).1; have hlt : b < w3.heap.size := (by obtain ⟨S, hS, _⟩ := h3.get (i := 0) rfl; exact heap_lt hS.1); have H3 := hid h3; clear h3))
         have HC := hid (fun W hr => Clone_calls (w := W) (S := fun _ => True) (A := A) (cc := cap) (c := x :: c) hr hx4)
         clear HB HOK H
         go_cut [] (fun wx => ∃ g1 cap1, Hid (YLib.Inv w0 T wx (sP b fc fo (.slice A1 s.cls.length c1) vv vt3 (.slice (some ⟨g1, 0, none⟩) (s.log.length + 1) cap1) m { s with val := v3, tr := t3, log := s.log ++ [x :: c] } ++ rdP clK [.slice A (x :: c).length cap] (x :: c) :: rest)))
         case first =>
           have hrr := (H3.out.drew).rdRow (i := 6) rfl
           go_region_law (first
             | (go_simp; go_at_call 33; refine (HC.out _ hrr).mono ?_; rintro e w4 ⟨A', c', rfl, hbl, hn⟩; have hc7' := (hbl.cell (p := ⟨b, 7, none⟩) hlt).trans hc7; have hlt1 : b < w4.heap.size := Nat.lt_of_lt_of_le hlt hbl.size; have H4 := hid ((H3.out.drew).cons hbl hn); clear hbl hn)
             | (refine step_of_wp rfl ?_; refine wp_append_inv2 _ _ 33 rfl Try.underlying33 infoInts rfl (by decide) 5 0 (by decide) vl s.log [x :: c] _ (H4.out.alloc _) rfl rfl rfl ⟨w4.heap.size, 0, none⟩ 1 1 rfl [.slice A' (x :: c).length c'] rfl (World.news_of_block (heap_alloc_new w4 _)) (fun S2 h => ⟨[.slice A' (x :: c).length c'], [], rfl, Owned.rd (d := Kind.int) h, rfl⟩) (by omega) (by omega) (by omega) ?_; intro g1 cap1 w5 h5; obtain ⟨hc1, hc2⟩ := h5.cell (i := 1) rfl 7 rfl; have H5 := hid h5; clear h5))
           all_goals
             go_wp2_with (fail)
             go_meet
             case rel => exact ⟨_, _, hid ((H5.out.set (i := 1) rfl 7 _).tail)⟩
         case rest =>
          obtain ⟨g1, cap1, H5⟩ := hcut
          have hrr := (H5.out.drew).rdRow (i := 6) rfl
          obtain ⟨bA, oA, rfl, hxc⟩ := intAt hrr (i := 0) (x := x) rfl
          rw [Nat.add_zero] at hxc
          have HA := hid (add_calls H5.out.drew hrr hx4 hg1 ⟨hg5, hg6⟩ (cc := cap))
          clear hrr HC hc7 hlt H3
          go_upto_region 10 with (fail)
          go_cut [] (fun wx => ∃ vc6 vt6, Hid (YLib.Inv w0 T wx (sP b fc fo vc6 vv vt6 (.slice (some ⟨g1, 0, none⟩) (s.log.length + 1) cap1) m { s with val := v3.set (size x).toNat x, tr := t3 ++ [⟨x, s.cls.length, lv⟩], log := s.log ++ [x :: c], cls := s.cls ++ [x :: c], act := fun j => if j = s.cls.length then s.act j + 1 else s.act j } ++ rdP clK [.slice (some ⟨bA, oA, none⟩) (x :: c).length cap] (x :: c) :: rest)))
          case first =>
            go_region_law (first
              | (go_simp; go_at_call 23; refine HA.out.mono ?_; rintro e w6 ⟨rfl, vc6, h6⟩; have hrr := h6.rdRow (i := 6) rfl; obtain ⟨bA2, oA2, hAA, hxc2⟩ := intAt hrr (i := 0) (x := x) rfl; injection hAA with hAA; injection hAA with hA1 hA2; subst hA1 hA2; rw [Nat.add_zero] at hxc2; have HS := hid (set_calls h6 x s.cls.length lv hx1 hx2 hx3); clear h6 hrr)
              | (go_simp; go_at_call 30; refine HS.out.mono ?_; rintro e w7 ⟨rfl, vt7, h7⟩; have H7 := hid h7; clear h7))
            all_goals
              go_wp2_with (fail)
              go_meet
              case rel => exact ⟨_, _, H7⟩
          case rest =>
            obtain ⟨vc7, vt7, H7⟩ := hcut
            go_wp2
            go_ret
            refine ⟨rfl, vc7, vt7, .slice (some ⟨g1, 0, none⟩) (s.log.length + 1) cap1, ?_⟩
            unfold learnt
            rw [HV3.out, HT3.out]
            exact H7.out.dropBehind
end
end Go.Proofs.Ytcglokippflioaa
