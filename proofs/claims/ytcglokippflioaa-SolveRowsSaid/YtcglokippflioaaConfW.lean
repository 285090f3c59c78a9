import Derived.Test.YtcglokippflioaaPropW
/-! conflict. -/
namespace Go.Proofs.Ytcglokippflioaa
open Go Go.RowKit YLib
/-- What is asked of learn.Learn. -/
def LearnOK (LF : List (List Int) → List Tr → Int → Option (List Int × Int × Bool)) : Prop :=
  ∀ {w : World} {A1 A2 : Option Addr} {c1 c2 : Nat} {cls : List (List Int)} {tr : List Tr} {k : Int} {c : List Int} {lv : Int} {ok : Bool},
    RowAt clK w (fun _ => True) A1 cls → RowAt trK w (fun _ => True) A2 tr → cls.length ≤ c1 → tr.length ≤ c2 → cls.length ≤ LIM → tr.length ≤ LIM → (∀ c ∈ cls, c.length ≤ LIM) → LF cls tr k = some (c, lv, ok) →
    Calls Try.prog 35 #[.slice A1 cls.length c1, .slice A2 tr.length c2, .int .i64 k] w fun e w' => ∃ A cap, e = .returned (.tuple #[.slice A c.length cap, .int .i64 lv, .bool ok]) ∧ Inv w NoM w' [rdP clK [.slice A c.length cap] c]
theorem intAt2 {w : World} {S : Nat → Prop} {A : Option Addr} {x : Int} {c : List Int} {cap : Nat} (h : clK.rd w S [.slice A (x :: c).length cap] (x :: c)) : RowAt Kind.int w (fun _ => True) A (x :: c) := by
  obtain ⟨A', c', e, _, hr⟩ := h
  injection e with e _
  injection e with e1 e2 e3
  subst e1
  exact hr.mono (fun _ _ => trivial)
section
variable {w0 w : World} {T : Nat → Prop} {b m : Nat} {fc fo vc vv vt vl : Value} {s : St} {rest : List HP}
theorem _root_.Go.Proofs.Ytcglokippflioaa.YLib.Inv.joinBehind {T : Nat → Prop} {w0 w w' : World} {xs ys : List HP} {c : HP} (h : Inv w0 T w (xs ++ ys)) (hn : Inv w NoM w' [c]) : Inv w0 T w' (xs ++ c :: ys) :=
  (h.join hn).perm (List.perm_middle (l₁ := xs)).symm
theorem _root_.Go.Proofs.Ytcglokippflioaa.YLib.Inv.dropBehind {T : Nat → Prop} {w0 w : World} {xs ys : List HP} {c : HP} (h : Inv w0 T w (xs ++ c :: ys)) : Inv w0 T w (xs ++ ys) :=
  (h.perm (List.perm_middle (l₁ := xs))).tail
theorem _root_.Go.Proofs.Ytcglokippflioaa.YLib.Inv.rdRow {T : Nat → Prop} {w0 w : World} {cs : List HP} {i : Nat} {A : Option Addr} {cap : Nat} {c : List Int} (h : Inv w0 T w cs) (hi : cs[i]? = some (rdP clK [.slice A c.length cap] c)) : RowAt Kind.int w (fun _ => True) A c := by
  obtain ⟨S, hS, _⟩ := h.get hi
  obtain ⟨A', c', e, _, hr⟩ := hS
  injection e with e _
  injection e with e1 e2 e3
  subst e1
  exact hr.mono (fun _ _ => trivial)
set_option maxRecDepth 100000 in
set_option maxHeartbeats 4000000 in
theorem conflict_calls {LF : List (List Int) → List Tr → Int → Option (List Int × Int × Bool)} (hLF : LearnOK LF) (h : Inv w0 T w (sP b fc fo vc vv vt vl m s ++ rest)) (k : Int) (hv0 : 0 < s.val.length) {s' : St} {r : Bool} (hr : conflL LF s k = some (s', r)) :
    Calls Try.prog 25 #[.pointer (some ⟨b, 0, none⟩), .int .i64 k] w fun e w' => e = .returned (.bool r) ∧ ∃ vc' vt' vl', Inv w0 T w' (sP b fc fo vc' vv vt' vl' m s' ++ rest) := by
  unfold conflL at hr
  by_cases hlog : s.log.length < LIM
  case neg => rw [if_neg hlog] at hr; cases hr
  rw [if_pos hlog] at hr
  have hlog' := hlog
  unfold LIM at hlog'
  by_cases hlv : lastLevel s.tr = 0
  · rw [if_pos hlv] at hr
    cases hr
    have HL := hid (level_calls h)
    rw [hlv] at HL
    have hc7 := ((h.drewN 0).cell (i := 0) rfl 7 rfl).1
    have H := hid h; clear h
    go_enter Try.func25, Try.ntmps25
    clear hc7
    go_wp2_with (first
      | (go_at_call 26; refine HL.out.mono ?_; rintro e w' ⟨rfl, q, rfl⟩; have hc7 := ((H.out.drewN q).cell (i := 0) rfl 7 rfl).1; have H1 := hid (H.out.drewN q); generalize w.drewN q = w1 at *)
      | (at_builtin; refine wpList_of_wp rfl fun K hK => ?_; refine wp_append_inv (d := clK) _ _ 33 rfl Try.underlying33 infoInts rfl (by decide) 4 vl s.log [[]] (H1.out.alloc _) rfl rfl ⟨w1.heap.size, 0, none⟩ 1 1 rfl [.slice none 0 0] rfl (World.news_of_block (heap_alloc_new w1 _)) ⟨_, _, rfl, ⟨none, 0, rfl, Nat.le_refl _, RowAt.nil _ _ _ _⟩, rfl⟩ (by omega) (by omega) (by omega) ?_; intro g1 cap1 w2 h4; obtain ⟨hc1, hc2⟩ := h4.cell (i := 0) rfl 7 rfl; have H4 := hid h4; clear h4; refine hK _ _ ?_; clear hK K))
    go_ret
    exact ⟨rfl, vc, vt, _, H4.out.set (i := 0) rfl 7 _⟩
  · rw [if_neg hlv] at hr
    by_cases hg : s.cls.length < LIM ∧ s.tr.length < LIM ∧ (∀ c ∈ s.cls, c.length ≤ LIM) ∧ okLits s.val s.tr ∧ 0 ≤ s.act s.cls.length ∧ s.act s.cls.length ≤ 1 ∧ -LIM ≤ lastLevel s.tr ∧ lastLevel s.tr ≤ LIM
    case neg => rw [if_neg hg] at hr; cases hr
    rw [if_pos hg] at hr
    obtain ⟨hg1, hg2, hg3, hg4, hg5, hg6, hg7, hg8⟩ := hg
    have HOK := hid hg4
    have HR := hid hr
    have HLV := hid (level_calls h)
    obtain ⟨A1, c1, e1, hle1, _, hr1⟩ := h.rowShape (i := 3) rfl
    obtain ⟨A2, c2, e2, hle2, _, hr2⟩ := h.rowShape (i := 2) rfl
    subst e1 e2
    clear hr hg4
    obtain ⟨⟨c, lv, ok⟩, hF⟩ : ∃ x, LF s.cls s.tr k = some x := by
      have := HR.out
      cases hx : LF s.cls s.tr k with
      | none => rw [hx] at this; cases this
      | some x => exact ⟨x, rfl⟩
    have HLC := hid (fun (W : World) (hW : W.heap = w.heap) => hLF (w := W.drew) (hr1.move (fun k _ _ => by show W.heap[k]? = _; rw [hW]) |>.mono (fun _ _ => trivial)) (hr2.move (fun k _ _ => by show W.heap[k]? = _; rw [hW]) |>.mono (fun _ _ => trivial)) hle1 hle2 (by omega) (by omega) hg3 hF)
    have H := hid h
    clear h hr1 hr2 hg3
    have hneq : (lastLevel s.tr == 0) = false := by simpa using hlv
    have HLL : Hid (∃ l, lastLevel s.tr = l) := hid ⟨_, rfl⟩
    obtain ⟨l, hl⟩ := HLL.out
    have HLE := hid hl
    rw [hl] at HLV hneq hlv hg7 hg8
    clear hl HLL
    go_enter Try.func25, Try.ntmps25
    go_upto_region 4 with (first | (go_at_call 26; refine HLV.out.mono ?_; rintro e w' ⟨rfl, q, rfl⟩; have hc3 := ((H.out.drewN q).cell (i := 0) rfl 3 rfl).1; have hc6 := ((H.out.drewN q).cell (i := 0) rfl 6 rfl).1; have H1 := hid (H.out.drewN q); have hW : (w.drewN q).heap = w.heap := rfl; generalize w.drewN q = w1 at *))
    go_cut [5, 6, 7] (fun v5 v6 v7 wx => ∃ A cap, v5 = .slice A c.length cap ∧ v6 = .int .i64 lv ∧ v7 = .bool ok ∧ Hid (YLib.Inv w0 T wx (sP b fc fo (.slice A1 s.cls.length c1) vv (.slice A2 s.tr.length c2) vl m s ++ rdP clK [.slice A c.length cap] c :: rest)))
    case first =>
      go_region_law (first
        | (go_simp; go_at_call 35; refine (HLC.out _ hW).mono ?_; rintro e w2 ⟨A, cap, rfl, hn⟩; have H2 := hid (H1.out.drew.joinBehind hn); clear hn))
      all_goals
        go_wp2_with (fail)
        go_meet
        case rel => exact ⟨_, _, rfl, rfl, rfl, H2⟩
    case rest =>
     obtain ⟨A, cap, rfl, rfl, rfl, H2⟩ := hcut
     have hr := HR.out
     rw [hF] at hr
     clear hc3 hc6 hW HR HLV HLC H1
     cases ok with
     | false =>
       cases hr
       have HB := hid (back_calls H2.out (l - 1) hv0 HOK.out)
       have hsub : IntKind.i64.wrap (l - 1) = l - 1 := IntWalk.i64_in _ (by unfold LIM at *; omega)
       have HL2 := hid (level_calls H2.out)
       rw [HLE.out] at HL2
       clear HB
       go_wp2_with (first
         | (go_at_call 26; refine HL2.out.mono ?_; rintro e w' ⟨rfl, q, rfl⟩; have HB := hid (back_calls (H2.out.drewN q) (l - 1) hv0 HOK.out))
         | (go_at_call 27; refine HB.out.mono ?_; rintro e w' ⟨rfl, vt3, h3⟩; have H3 := hid h3; clear h3))
       go_ret
       refine ⟨rfl, .slice A1 s.cls.length c1, vt3, vl, ?_⟩
       have h3 := H3.out.dropBehind
       rw [← HLE.out] at h3
       exact h3
     | true =>
       cases c with
       | nil => cases hr
       | cons x c =>
         by_cases hx : 0 ≤ size x ∧ size x < (backL lv s.val s.tr).1.length ∧ (backL lv s.val s.tr).2.length < LIM ∧ (x :: c).length ≤ LIM
         case neg => simp only [if_neg hx] at hr; cases hr
         simp only [if_pos hx] at hr
         cases hr
         obtain ⟨hx1, hx2, hx3, hx4⟩ := hx
         have HB := hid (back_calls H2.out lv hv0 HOK.out)
         obtain ⟨v3, hv3⟩ : ∃ v3, (backL lv s.val s.tr).1 = v3 := ⟨_, rfl⟩
         obtain ⟨t3, ht3⟩ : ∃ t3, (backL lv s.val s.tr).2 = t3 := ⟨_, rfl⟩
         rw [hv3, ht3] at HB
         rw [hv3] at hx2
         rw [ht3] at hx3
         have HV3 := hid hv3
         have HT3 := hid ht3
         clear hv3 ht3
         have hx4' := hx4
         unfold LIM at hx4'
         go_upto_region 9 with (first
           | (go_at_call 27; refine HB.out.mono ?_; rintro e w3 ⟨rfl, vt3, h3⟩; have hc7 := (h3.drew.cell (i := 0) rfl 7 rfl).1; have hlt : b < w3.heap.size := (by obtain ⟨S, hS, _⟩ := h3.get (i := 0) rfl; exact heap_lt hS.1); have H3 := hid h3; clear h3))
         have HC := hid (fun W hr => Clone_calls (w := W) (S := fun _ => True) (A := A) (cc := cap) (c := x :: c) hr hx4)
         clear HB HOK H
         go_cut [] (fun wx => ∃ g1 cap1, Hid (YLib.Inv w0 T wx (sP b fc fo (.slice A1 s.cls.length c1) vv vt3 (.slice (some ⟨g1, 0, none⟩) (s.log.length + 1) cap1) m { s with val := v3, tr := t3, log := s.log ++ [x :: c] } ++ rdP clK [.slice A (x :: c).length cap] (x :: c) :: rest)))
         case first =>
           have hrr := (H3.out.drew).rdRow (i := 6) rfl
           go_region_law (first
             | (go_simp; go_at_call 33; refine (HC.out _ hrr).mono ?_; rintro e w4 ⟨A', c', rfl, hbl, hn⟩; have hc7' := (hbl.cell (p := ⟨b, 7, none⟩) hlt).trans hc7; have hlt1 : b < w4.heap.size := Nat.lt_of_lt_of_le hlt hbl.size; have H4 := hid ((H3.out.drew).cons hbl hn); clear hbl hn)
             | (refine step_of_wp rfl ?_; refine wp_append_inv2 _ _ 33 rfl Try.underlying33 infoInts rfl (by decide) 5 0 (by decide) vl s.log [x :: c] _ (H4.out.alloc _) rfl rfl rfl ⟨w4.heap.size, 0, none⟩ 1 1 rfl [.slice A' (x :: c).length c'] rfl (World.news_of_block (heap_alloc_new w4 _)) (fun S2 h => ⟨[.slice A' (x :: c).length c'], [], rfl, Owned.rd (d := Kind.int) h, rfl⟩) (by omega) (by omega) (by omega) ?_; intro g1 cap1 w5 h5; obtain ⟨hc1, hc2⟩ := h5.cell (i := 1) rfl 7 rfl; have H5 := hid h5; clear h5))
           all_goals
             go_wp2_with (fail)
             go_meet
             case rel => exact ⟨_, _, hid ((H5.out.set (i := 1) rfl 7 _).tail)⟩
         case rest =>
          obtain ⟨g1, cap1, H5⟩ := hcut
          have hrr := (H5.out.drew).rdRow (i := 6) rfl
          obtain ⟨bA, oA, rfl, hxc⟩ := intAt hrr (i := 0) (x := x) rfl
          rw [Nat.add_zero] at hxc
          have HA := hid (add_calls H5.out.drew hrr hx4 hg1 ⟨hg5, hg6⟩ (cc := cap))
          clear hrr HC hc7 hlt H3
          go_upto_region 10 with (fail)
          go_cut [] (fun wx => ∃ vc6 vt6, Hid (YLib.Inv w0 T wx (sP b fc fo vc6 vv vt6 (.slice (some ⟨g1, 0, none⟩) (s.log.length + 1) cap1) m { s with val := v3.set (size x).toNat x, tr := t3 ++ [⟨x, s.cls.length, lv⟩], log := s.log ++ [x :: c], cls := s.cls ++ [x :: c], act := fun j => if j = s.cls.length then s.act j + 1 else s.act j } ++ rdP clK [.slice (some ⟨bA, oA, none⟩) (x :: c).length cap] (x :: c) :: rest)))
          case first =>
            go_region_law (first
              | (go_simp; go_at_call 23; refine HA.out.mono ?_; rintro e w6 ⟨rfl, vc6, h6⟩; have hrr := h6.rdRow (i := 6) rfl; obtain ⟨bA2, oA2, hAA, hxc2⟩ := intAt hrr (i := 0) (x := x) rfl; injection hAA with hAA; injection hAA with hA1 hA2; subst hA1 hA2; rw [Nat.add_zero] at hxc2; have HS := hid (set_calls h6 x s.cls.length lv hx1 hx2 hx3); clear h6 hrr)
              | (go_simp; go_at_call 30; refine HS.out.mono ?_; rintro e w7 ⟨rfl, vt7, h7⟩; have H7 := hid h7; clear h7))
            all_goals
              go_wp2_with (fail)
              go_meet
              case rel => exact ⟨_, _, H7⟩
          case rest =>
            obtain ⟨vc7, vt7, H7⟩ := hcut
            go_wp2
            go_ret
            refine ⟨rfl, vc7, vt7, .slice (some ⟨g1, 0, none⟩) (s.log.length + 1) cap1, ?_⟩
            unfold learnt
            rw [HV3.out, HT3.out]
            exact H7.out.dropBehind
end
end Go.Proofs.Ytcglokippflioaa
