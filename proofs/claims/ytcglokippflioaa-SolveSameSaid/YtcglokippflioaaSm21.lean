/- Texts of the claim, in one: ChoW, LearnC, RunI, RunW, LearnV, LearnW, SolveW, RefS, RefK, SameK, AwakeW, SameX. -/
import Derived.Laws.ResultCell
import Derived.Laws.NewBlocks
import Derived.Test.YtcglokippflioaaSm1
import Derived.Test.YtcglokippflioaaSm4
import Derived.Test.YtcglokippflioaaSm7
import Derived.Test.YtcglokippflioaaSm8
import Derived.Test.YtcglokippflioaaSm11
import Derived.Test.YtcglokippflioaaSm12
import Derived.Test.YtcglokippflioaaSm17
import Derived.Test.YtcglokippflioaaSm18
import Derived.Test.YtcglokippflioaaSm19
import Derived.Test.YtcglokippflioaaSm20

/-! choices. -/
namespace Go.Proofs.Ytcglokippflioaa
open Go Go.RowKit Go.Shelf YLib
attribute [local go_sem] Oper.semAt_some
theorem skip_fn {F : Fence} {q : Prop} : ((∀ f : FuncId, (none : Option FuncId) = some f → F.fn f) ∧ q) ↔ q := ⟨fun h => h.2, fun h => ⟨fun f h => (by cases h), h⟩⟩
/-- What choices reads. -/
def ChoRO (B b : Nat) (vars : Nat) (Ao : Option Addr) (co gv cv : Nat) (order val : List Int) (W : World) : Prop :=
  W.cell? ⟨B, 0, none⟩ = some (.pointer (some ⟨b, 0, none⟩)) ∧ W.cell? ⟨b, 0, none⟩ = some (.int .i64 vars) ∧ W.cell? ⟨b, 2, none⟩ = some (.slice Ao order.length co) ∧
  W.cell? ⟨b, 5, none⟩ = some (.slice (some ⟨gv, 0, none⟩) val.length cv) ∧ RowAt Kind.int W (fun _ => True) Ao order ∧ RowAt Kind.int W (fun _ => True) (some ⟨gv, 0, none⟩) val
theorem negsSucc (k : Nat) : negs (k + 1) = negs k ++ [-((k : Int) + 1)] := by unfold negs; rw [List.range_succ]; simp
theorem rowL_split2 {val : List Int} (order : List Int) {vars k : Nat} (hk : k < vars) (hp : opn val (-((k : Int) + 1)) = true) :
    ∃ post, rowL order vars val = (order.filter (opn val) ++ (negs k).filter (opn val)) ++ (-((k : Int) + 1)) :: post := by
  have h : ∀ n, k < n → ∃ post, (negs n).filter (opn val) = (negs k).filter (opn val) ++ (-((k : Int) + 1)) :: post := by
    intro n
    induction n with
    | zero => intro h; omega
    | succ n ih =>
      intro h
      rw [negsSucc, List.filter_append]
      by_cases hn : k = n
      · subst hn; exact ⟨[], by rw [List.filter_cons, if_pos hp]; rfl⟩
      · obtain ⟨post, e⟩ := ih (by omega)
        exact ⟨post ++ [-((n : Int) + 1)].filter (opn val), by rw [e]; simp⟩
  obtain ⟨post, e⟩ := h vars hk
  exact ⟨post, by unfold rowL; rw [e]; simp⟩
theorem gi_of {xs : List Int} {i : Int} {x : Int} (h : xs[i.toNat]? = some x) : gi xs i = x := by unfold gi; rw [List.getD_eq_getElem?_getD, h]; rfl
theorem filter_split {p : Int → Bool} {xs : List Int} {k : Nat} {x : Int} (hx : xs[k]? = some x) (hp : p x = true) : xs.filter p = (xs.take k).filter p ++ x :: (xs.drop (k + 1)).filter p := by
  obtain ⟨hk, hxx⟩ := List.getElem?_eq_some_iff.1 hx
  conv => lhs; rw [← List.take_append_drop k xs]
  rw [List.filter_append, List.drop_eq_getElem_cons hk, List.filter_cons, hxx, if_pos hp]
theorem rowL_split {order val : List Int} (vars : Nat) {k : Nat} {x : Int} (hx : order[k]? = some x) (hp : opn val x = true) :
    rowL order vars val = (order.take k).filter (opn val) ++ x :: ((order.drop (k + 1)).filter (opn val) ++ (negs vars).filter (opn val)) := by
  unfold rowL; rw [filter_split hx hp]; simp
set_option maxRecDepth 100000 in
set_option maxHeartbeats 4000000 in
theorem choices_iter (B b : Nat) (vars : Nat) (Ao : Option Addr) (co gv cv : Nat) (order val : List Int) (hvl : val.length = vars + 1) (hv1 : vars < LIM) (ho : order.length ≤ LIM) (hok : ∀ x ∈ order, 0 ≤ size x ∧ size x < val.length) :
    Iter Try.prog 38 #[.pointer (some ⟨B, 0, none⟩)] (fun x => #[.int .i64 x]) (rowL order vars val) (ChoRO B b vars Ao co gv cv order val) := by
  intro l J Jx W hJ hJx hJR hY h0
  unfold LIM at hv1 ho
  have HJ := hid hJ; clear hJ
  have HJx := hid hJx; clear hJx
  have HRO := hid hJR; clear hJR
  have HY := hid hY; clear hY
  have HOK := hid hok; clear hok
  have H0 := hid h0
  obtain ⟨hB, hb0, hb2, hb5, hro, hrv⟩ := HRO.out _ _ h0
  clear hro hrv h0 hb5
  have HVL := hid hvl; clear hvl
  refine (callsIn_wide (n := 0)).1 ?_
  refine callsIn_of_wp Try.func38 rfl trivial ?_ rfl
  simp only [Try.ntmps38, List.size_toArray, List.length_cons, List.length_nil, Nat.reduceAdd, Nat.reduceSub, Array.replicate_succ, Array.replicate_zero, List.push_toArray, List.append_toArray, List.nil_append, List.cons_append]
  gi_wp2
  clear hB hb0 hb2
  gi_loopw [12] (fun v12 wr => ∃ (k : Nat), v12 = .int .i64 k ∧ k ≤ order.length ∧ Hid (J ((order.take k).filter (opn val)) wr)) (fun v12 _ => order.length - (intOf v12).toNat)
  case atStart => exact ⟨0, rfl, by omega, H0⟩
  case round =>
    clear H0
    obtain ⟨k, rfl, hk, HJk⟩ := hrel
    obtain ⟨hB, hb0, hb2, hb5, hro, hrv⟩ := HRO.out _ _ HJk.out
    by_cases hlt : k < order.length
    · obtain ⟨x, hx⟩ : ∃ x, order[k]? = some x := ⟨_, List.getElem?_eq_getElem hlt⟩
      obtain ⟨ho1, ho2⟩ := HOK.out x (List.mem_of_getElem? hx)
      obtain ⟨ob, oo, rfl, hxc⟩ := intAt hro hx
      obtain ⟨v, hv⟩ : ∃ v, val[(size x).toNat]? = some v := ⟨_, List.getElem?_eq_getElem (by omega)⟩
      obtain ⟨_, _, hA, hvc⟩ := intAt hrv hv
      injection hA with hA
      injection hA with hA hA2
      subst hA hA2
      rw [Nat.zero_add] at hvc
      have hgi : gi val (size x) = v := gi_of hv
      have HQ := hid (fun W => (callsIn_wide (n := 0)).2 (size_any x W (size_bd ho1 ho2 (by have := HVL.out; omega))))
      have hop : opn val x = (v == 0) := by unfold opn; rw [hgi]
      have htk : (order.take (k + 1)).filter (opn val) = (order.take k).filter (opn val) ++ (if v == 0 then [x] else []) := by
        rw [List.take_add_one, hx, List.filter_append]; simp [List.filter_cons, hop]
      clear hv hrv hro hgi
      have HTK := hid htk; clear htk
      have hmo : Try.prog.follows .mixedOrders = true := by kernel_rfl
      have hdr : Below wr.heap.size wr wr.drew := (Below.refl _ _).drew
      by_cases hv0 : v = 0
      · subst hv0
        obtain ⟨f1, t1, a1, b1, hy1, hR1⟩ := HY.out ((order.take k).filter (opn val)) x ((order.drop (k+1)).filter (opn val) ++ (negs vars).filter (opn val)) wr.drew (rowL_split vars hx (by simp [hop])) (HJ.out _ _ _ HJk.out hdr)
        have hR2 := hR1.mono (R' := fun e W' => ∃ r : Bool, e = .returned (.bool r) ∧ (if r then J ((order.take (k+1)).filter (opn val)) W' else Jx W')) (by
          rintro e W' (⟨rfl, h⟩ | ⟨rfl, h⟩)
          · exact ⟨true, rfl, by rw [HTK.out]; simpa using h⟩
          · exact ⟨false, rfl, by simpa using h⟩)
        have HR := hid hR2; clear hR1 hR2
        generalize size x = sz at *
        have hs3 : sz < (val.length : Int) := ho2
        gi_wp2
        first | (gi_region_with_o (first | (refine skip_fn.2 ?_) | (refine ⟨trivial, rfl, ?_⟩; refine (HQ.out _).mono ?_; rintro e w' ⟨rfl, rfl⟩) | (refine ⟨rfl, ?_⟩; refine HR.out.mono ?_; rintro e W1 ⟨r, rfl, hr⟩))) | fail
        all_goals gi_wp2
        all_goals first
          | (cases r
             · refine bodyPost_ret (results_none rfl _ _ _) rfl ?_
               exact ⟨⟨_, rfl⟩, .inr (by simpa using hr)⟩
             · contradiction)
          | (cases r
             · contradiction
             · exact ⟨⟨k + 1, by simp, by omega, hid (by simpa using hr)⟩, by simp [intOf]; omega⟩)
      · have hd : (v == 0) = false := by simpa using hv0
        generalize size x = sz at *
        have hs3 : sz < (val.length : Int) := ho2
        gi_wp2
        first | (gi_region_with_o (first | (refine skip_fn.2 ?_) | (refine ⟨trivial, rfl, ?_⟩; refine (HQ.out _).mono ?_; rintro e w' ⟨rfl, rfl⟩))) | fail
        all_goals gi_wp2
        all_goals exact ⟨⟨k + 1, by simp, by omega, hid (by rw [HTK.out, if_neg (by simpa using hd)]; simpa using HJ.out _ _ _ HJk.out hdr)⟩, by simp [intOf]; omega⟩
    · have hkk : k = order.length := by omega
      subst hkk
      rw [List.take_length] at HJk
      have hmo : Try.prog.follows .mixedOrders = true := by kernel_rfl
      clear hB hb0 hb2 hb5 hro hrv
      gi_wp2
      gi_loopw [5] (fun v5 wr => ∃ (k : Nat) (m : Int), v5 = .int .i64 m ∧ m = (k : Int) + 1 ∧ k ≤ vars ∧ Hid (J (order.filter (opn val) ++ (negs k).filter (opn val)) wr)) (fun v5 _ => vars + 1 - (intOf v5).toNat)
      case atStart => exact ⟨0, 1, rfl, by omega, by omega, hid (by simpa [negs] using HJk.out)⟩
      case round =>
        clear HJk
        obtain ⟨k, m, rfl, hm, hk2, HJk⟩ := hrel
        obtain ⟨hB, hb0, hb2, hb5, hro, hrv⟩ := HRO.out _ _ HJk.out
        clear hro hb2
        by_cases hlt : m ≤ vars
        · obtain ⟨v, hv⟩ : ∃ v, val[m.toNat]? = some v := ⟨_, List.getElem?_eq_getElem (by have := HVL.out; omega)⟩
          obtain ⟨_, _, hA, hvc⟩ := intAt hrv hv
          injection hA with hA
          injection hA with hA hA2
          subst hA hA2
          rw [Nat.zero_add] at hvc
          have hsm : size (-m) = m := by unfold size; rw [Int.neg_neg]; omega
          have hop : opn val (-m) = (v == 0) := by unfold opn; rw [hsm, gi_of hv]
          have hng : (negs (k + 1)).filter (opn val) = (negs k).filter (opn val) ++ (if v == 0 then [-m] else []) := by
            rw [negsSucc, List.filter_append, ← hm]; simp [List.filter_cons, hop]
          have HNG := hid hng
          have HM := hid hm
          have hw1 : IntKind.i64.wrap (m + 1) = m + 1 := IntWalk.i64_in _ (by omega)
          have hw2 : IntKind.i64.wrap (-m) = -m := IntWalk.i64_in _ (by omega)
          have hm0 : 0 ≤ m := by omega
          have hs3 : m < (val.length : Int) := by have := HVL.out; omega
          have hdr : Below wr.heap.size wr wr.drew := (Below.refl _ _).drew
          clear hrv hsm hng hm hv
          by_cases hv0 : v = 0
          · subst hv0
            obtain ⟨post, hpost⟩ := rowL_split2 (val := val) order (k := k) (vars := vars) (by have := HM.out; omega) (by rw [← HM.out]; simp [hop])
            rw [← HM.out] at hpost
            obtain ⟨f1, t1, a1, b1, hy1, hR1⟩ := HY.out _ (-m) post wr hpost HJk.out
            have hR2 := hR1.mono (R' := fun e W' => ∃ r : Bool, e = .returned (.bool r) ∧ (if r then J (order.filter (opn val) ++ (negs (k + 1)).filter (opn val)) W' else Jx W')) (by
              rintro e W' (⟨rfl, h⟩ | ⟨rfl, h⟩)
              · exact ⟨true, rfl, by rw [HNG.out]; simpa using h⟩
              · exact ⟨false, rfl, by simpa using h⟩)
            have HR := hid hR2; clear hR1 hR2 hpost
            gi_wp2_with (refine ⟨rfl, ?_⟩; refine HR.out.mono ?_; rintro e W1 ⟨r, rfl, hr⟩)
            all_goals first
              | (cases r
                 · refine bodyPost_ret (results_none rfl _ _ _) rfl ?_
                   exact ⟨⟨_, rfl⟩, .inr (by simpa using hr)⟩
                 · contradiction)
              | (cases r
                 · contradiction
                 · exact ⟨⟨k + 1, m + 1, rfl, by have := HM.out; omega, by have := HM.out; omega, hid (by simpa using hr)⟩, by simp [intOf]; omega⟩)
          · have hd : (v == 0) = false := by simpa using hv0
            gi_wp2
            refine skip_fn.2 ?_
            gi_wp2
            exact ⟨⟨k + 1, m + 1, rfl, by have := HM.out; omega, by have := HM.out; omega, hid (by rw [HNG.out, if_neg (by simpa using hd)]; simpa using HJk.out)⟩, by simp [intOf]; omega⟩
        · gi_wp2
          have hkk : k = vars := by omega
          subst hkk
          go_end0
          exact ⟨⟨_, rfl⟩, .inl HJk.out⟩
end Go.Proofs.Ytcglokippflioaa

/-! learn.back's function: what it hands out. -/
namespace Go.Proofs.Ytcglokippflioaa
open Go Go.RowKit Go.Shelf YLib
attribute [local go_sem] Oper.semAt_some
theorem ex2 {w0 w : World} {T : Nat → Prop} {cs : List HP} {a b : HP} (h : Inv w0 T w (cs ++ [a, b])) : Inv w0 T w (a :: b :: cs) := h.perm List.perm_append_comm
theorem xe2 {w0 w : World} {T : Nat → Prop} {cs : List HP} {a b : HP} (h : Inv w0 T w (a :: b :: cs)) : Inv w0 T w (cs ++ [a, b]) := h.perm (List.perm_append_comm (l₁ := [a, b]))
theorem coneL_succ (cls : List (List Int)) (tr : List Tr) (k : Nat) (f : Int → Int) : coneL cls tr (k + 1) f = if f k = 0 then coneL cls tr k f else (k : Int) :: coneL cls tr k (match tr[k]? with
    | some t => if 0 ≤ t.reason then markL tr t.lit (cls.getD t.reason.toNat []) f else f
    | none => f) := rfl
/-- How many marks there are at most. -/
def mkBd (n kn tl : Nat) : Prop := n + kn * LIM ≤ (tl + 1) * LIM
theorem mkBd_start {n tl : Nat} (h : n ≤ LIM) : mkBd n tl tl := by unfold mkBd; rw [Nat.succ_mul]; omega
theorem mkBd_skip {n k tl : Nat} (h : mkBd n (k + 1) tl) : mkBd n k tl := by unfold mkBd at *; rw [Nat.succ_mul] at h; omega
theorem mkBd_step {n n' k tl l : Nat} (h : mkBd n (k + 1) tl) (h1 : n' ≤ n + l) (h2 : l ≤ LIM) : mkBd n' k tl := by unfold mkBd at *; rw [Nat.succ_mul] at h; omega
theorem mkBd_lt {n k tl l : Nat} (h : mkBd n (k + 1) tl) (h1 : tl ≤ LIM) (h2 : l ≤ LIM) : n + l < 9223372036854775807 := by
  unfold mkBd at h
  rw [Nat.succ_mul] at h
  have h3 : (tl + 1) * LIM ≤ (LIM + 1) * LIM := Nat.mul_le_mul_right _ (by omega)
  have h4 : (LIM + 1) * LIM < 9223372036854775807 := by decide
  omega
/-- What the places' giver reads. -/
def BackRO (B0 B4 B3 B5 : Nat) (A1 A2 : Option Addr) (c1 c2 : Nat) (cls : List (List Int)) (tr : List Tr) (kc : Nat) (W : World) : Prop :=
  B0 ≤ W.heap.size ∧ W.cell? ⟨B4, 0, none⟩ = some (.slice A2 tr.length c2) ∧ RowAt trK W (fun k => k < B0) A2 tr ∧ W.cell? ⟨B3, 0, none⟩ = some (.slice A1 cls.length c1) ∧ W.cell? ⟨B5, 0, none⟩ = some (.int .i64 kc) ∧ RowAt clK W (fun k => k < B0) A1 cls
set_option maxRecDepth 100000 in
set_option maxHeartbeats 4000000 in
theorem back_iter (B0 B4 B3 B5 : Nat) (A1 A2 : Option Addr) (c1 c2 : Nat) (cls : List (List Int)) (tr : List Tr) (kc : Nat) {c : List Int} (hk : cls[kc]? = some c) (_hcl : cls.length ≤ LIM) (htl : tr.length ≤ LIM) (hll : ∀ c ∈ cls, c.length ≤ LIM ∧ ∀ x ∈ c, bd x) (hre : ∀ t ∈ tr, t.reason < cls.length) :
    IterE Try.prog 56 #[.pointer (some ⟨B4, 0, none⟩), .pointer (some ⟨B3, 0, none⟩), .pointer (some ⟨B5, 0, none⟩)] (fun k => #[.int .i64 k]) (coneL cls tr tr.length (markL tr 0 c (fun _ => 0))) (BackRO B0 B4 B3 B5 A1 A2 c1 c2 cls tr kc) := by
  intro l w0 T Cs Cx W cs0 hRO hY h0 hI
  unfold LIM at htl
  have HLL := hid hll; clear hll
  have HRE := hid hre; clear hre
  have HRO := hid hRO; clear hRO
  have HY := hid hY; clear hY
  have HC0 := hid h0; clear h0
  have HKC := hid hk; clear hk
  have h1 := (hI.mapMade Try.prog 3 3).box 50 [.map (some W.heap.size)]
  rw [List.append_assoc] at h1
  have H1 := hid h1; clear h1
  have hG := (Gro.refl W).alloc (.map #[] 0) |>.alloc (.cells #[.map (some W.heap.size)] 50)
  obtain ⟨hsz, hB4, htr, hB3, hB5, hcls⟩ := HRO.out _ _ _ HC0.out hI
  obtain ⟨cb, co, A', c', rfl, hce, hle, hrow⟩ := clAt hcls HKC.out
  have hl3 : B3 < W.heap.size := World.block_lt_of_cell? W _ hB3
  have hl4 : B4 < W.heap.size := World.block_lt_of_cell? W _ hB4
  have hl5 : B5 < W.heap.size := World.block_lt_of_cell? W _ hB5
  have hlc : cb < W.heap.size := World.block_lt_of_cell? W _ hce
  have hkl : (kc : Int) < (cls.length : Int) := by have := (List.getElem?_eq_some_iff.1 HKC.out).1; omega
  have HM := hid ((callsIn_wide (n := 0)).2 (mark_calls (n := 0) (f := fun _ => 0) (m := W.heap.size) (gF := W.heap.size + 1) (B0 := B0) (cc := c') (but := 0) (A := A') (c := c) (tr := tr) (B4 := B4) (A2 := A2) (c2 := c2) (ex2 (by have h := H1.out; simp only [World.size_alloc] at h; exact h)) (hG.cell hB4) (by omega) hsz (hG.row htr) (hG.row hrow) (by have := (HLL.out c (List.mem_of_getElem? HKC.out)).1; unfold LIM at this; omega) (by omega) (HLL.out c (List.mem_of_getElem? HKC.out)).2))
  clear htr hcls hrow hG hI
  have hmm := @run_makeMap Try.prog
  refine (callsIn_wide (n := 0)).1 ?_
  refine callsIn_of_wp Try.func56 rfl trivial ?_ rfl
  simp only [Try.ntmps56, List.size_toArray, List.length_cons, List.length_nil, Nat.reduceAdd, Nat.reduceSub, Array.replicate_succ, Array.replicate_zero, List.push_toArray, List.append_toArray, List.nil_append, List.cons_append]
  gi_wp2
  refine ⟨trivial, rfl, ?_⟩
  refine HM.out.mono ?_
  rintro e w2 ⟨rfl, n2, hn2, h2⟩
  have HI2 := hid (xe2 h2)
  clear h2 HM H1
  obtain ⟨_, hB4', _, _, _, _⟩ := HRO.out _ _ w2 HC0.out HI2.out.init
  have hsw : IntKind.i64.wrap ((tr.length : Int) - 1) = (tr.length : Int) - 1 := IntWalk.i64_in _ (by omega)
  gi_wp2
  generalize W.heap.size = m at *
  generalize m + 1 = gF at *
  have hL := (HLL.out c (List.mem_of_getElem? HKC.out)).1
  unfold LIM at hL
  gi_loopw [7, 8] (fun v7 _ wr => ∃ (kn n1 : Nat) (f1 : Int → Int) (pre : List Int) (cs : List HP), v7 = .int .i64 ((kn : Int) - 1) ∧ kn ≤ tr.length ∧ mkBd n1 kn tr.length ∧ Hid (coneL cls tr tr.length (markL tr 0 c (fun _ => 0)) = pre ++ coneL cls tr kn f1) ∧ Hid (Cs pre cs) ∧ Hid (Inv w0 T wr (cs ++ [mapP Try.prog 3 3 m n1 f1, blkP gF 50 [.map (some m)]]))) (fun v7 _ _ => (intOf v7 + 1).toNat)
  case atStart => exact ⟨tr.length, n2, _, [], cs0, rfl, by omega, mkBd_start (by unfold LIM; omega), hid rfl, HC0, HI2⟩
  case round =>
    obtain ⟨kn, n1, f1, pre, cs, rfl, hkn, hn1, HX, HC, HI⟩ := hrel
    clear hmm hB3 hB5 hce hl3 hl5 hlc hkl hn2
    cases kn with
    | zero =>
      gi_wp2
      go_end0
      have hx := HX.out
      simp only [coneL, List.append_nil] at hx
      exact ⟨⟨_, rfl⟩, .inl ⟨cs, by rw [hx]; exact HC.out, HI.out.init⟩⟩
    | succ k =>
      obtain ⟨hsz1, hB4, htr, hB3, hB5, hcls⟩ := HRO.out _ _ wr HC.out HI.out.init
      obtain ⟨t, ht⟩ : ∃ t, tr[k]? = some t := ⟨_, List.getElem?_eq_getElem (by omega)⟩
      have hx := HX.out
      rw [coneL_succ cls tr k, ht] at hx
      simp only [] at hx
      have hi2 := ex2 HI.out
      have hgF := (hi2.cell (i := 1) rfl 0 rfl).1
      have hlk := (hi2.mapGet Try.underlying50 Try.underlying3 Try.underlying3 (fun w => by kernel_rfl) (i := 0) rfl (YLib.wf_i64 (x := (k : Int)) (by omega))).1
      have hks : ((k + 1 : Nat) : Int) - 1 = (k : Int) := by omega
      rw [hks]
      have hsw2 : IntKind.i64.wrap ((k : Int) - 1) = (k : Int) - 1 := IntWalk.i64_in _ (by omega)
      have hk0 : (0 : Int) ≤ (k : Int) := by omega
      have hkt : (k : Int) < (tr.length : Int) := by omega
      obtain ⟨fk, hfk⟩ : ∃ v, f1 k = v := ⟨_, rfl⟩
      rw [hfk] at hx hlk
      clear hfk hi2
      have hend : ∀ (n3 : Nat) (f3 : Int → Int) (pre3 : List Int) (cs3 : List HP) (W3 : World), mkBd n3 k tr.length → coneL cls tr tr.length (markL tr 0 c fun _ => 0) = pre3 ++ coneL cls tr k f3 → Cs pre3 cs3 → Inv w0 T W3 (cs3 ++ [mapP Try.prog 3 3 m n3 f3, blkP gF 50 [.map (some m)]]) →
          ∃ (kn n1 : Nat) (f1 : Int → Int) (pre : List Int) (cs : List HP), Value.int .i64 ((k : Int) - 1) = .int .i64 ((kn : Int) - 1) ∧ kn ≤ tr.length ∧ mkBd n1 kn tr.length ∧ Hid (coneL cls tr tr.length (markL tr 0 c (fun _ => 0)) = pre ++ coneL cls tr kn f1) ∧ Hid (Cs pre cs) ∧ Hid (Inv w0 T W3 (cs ++ [mapP Try.prog 3 3 m n1 f1, blkP gF 50 [.map (some m)]])) :=
        fun n3 f3 pre3 cs3 W3 h1 h2 h3 h4 => ⟨k, n3, f3, pre3, cs3, rfl, by omega, h1, hid h2, hid h3, hid h4⟩
      have HEND := hid hend
      clear hend hks
      by_cases hf0 : fk = 0
      · rw [if_pos hf0] at hx
        have hd : (fk == 0) = true := by simpa using hf0
        have HX2 := hid hx
        clear hx hf0 htr hcls ht
        gi_wp2
        exact ⟨HEND.out _ _ _ _ _ (mkBd_skip hn1) HX2.out HC.out HI.out, by simp [intOf]⟩
      · rw [if_neg hf0] at hx
        have hd : (fk == 0) = false := by simpa using hf0
        have HX2 := hid hx
        obtain ⟨f2, t1, a1, b1, hy1, hR1⟩ := HY.out _ pre (k : Int) _ cs wr hx HC.out HI.out
        have HR := hid hR1
        have HT := hid ht
        clear hx hf0 htr hcls ht hR1
        gi_wp2
        refine ⟨rfl, ?_⟩
        refine HR.out.mono ?_
        clear HR hy1 hB4 hB3 hB5 hgF hlk
        rintro e W1 (⟨rfl, cs2, hC2, hI2⟩ | ⟨rfl, cs2, hC2, hI2⟩)
        · obtain ⟨hsz2, hB4, htr, hB3, hB5, hcls⟩ := HRO.out _ _ W1 hC2 hI2.init
          obtain ⟨tb, tof, rfl, ht0, ht1, _⟩ := trAt htr HT.out
          have hgF := ((ex2 hI2).cell (i := 1) rfl 0 rfl).1
          have hx := HX2.out
          have hrl := HRE.out t (List.mem_of_getElem? HT.out)
          by_cases hr0 : 0 ≤ t.reason
          · rw [if_pos hr0] at hx
            obtain ⟨rn, hrn⟩ := Int.eq_ofNat_of_zero_le hr0
            rw [hrn] at hx hrl ht1
            rw [Int.toNat_natCast] at hx
            obtain ⟨rc, hrc⟩ : ∃ rc, cls[rn]? = some rc := ⟨_, List.getElem?_eq_getElem (by omega)⟩
            have hgd : cls.getD rn [] = rc := by rw [List.getD_eq_getElem?_getD, hrc]; rfl
            rw [hgd] at hx
            obtain ⟨cb2, co2, A2', c2', hA, hce2, hle2, hrow2⟩ := clAt hcls hrc
            injection hA with hA
            injection hA with hA1 hA2
            subst hA1 hA2
            obtain ⟨hlm, hbm⟩ := HLL.out rc (List.mem_of_getElem? hrc)
            unfold LIM at hlm
            have HM := hid ((callsIn_wide (n := 0)).2 (mark_calls (n := n1) (f := f1) (m := m) (gF := gF) (B0 := B0) (cc := c2') (but := t.lit) (A := A2') (c := rc) (tr := tr) (B4 := B4) (A2 := some ⟨tb, tof, none⟩) (c2 := c2) (ex2 hI2.drew) hB4 (by omega) (by omega) (((Gro.refl W1).drew).row htr) (((Gro.refl W1).drew).row hrow2) (mkBd_lt hn1 (by unfold LIM; omega) (by unfold LIM; omega)) (by omega) hbm))
            have HC2 := hid hC2
            have HX3 := hid hx
            have hrl' : (rn : Int) < (cls.length : Int) := hrl
            clear hC2 hI2 htr hcls hrow2 hgd hrc hx HX2 HC HI hrn hr0 hrl
            gi_wp2
            have hmo : Try.prog.follows .mixedOrders = true := by kernel_rfl
            gi_region_with_o (first | (refine skip_fn.2 ?_) | (refine ⟨trivial, rfl, ?_⟩; refine HM.out.mono ?_; rintro e W2 ⟨rfl, n3, hn3, h3⟩; have HI3 := hid (xe2 h3); clear h3))
            all_goals gi_wp2
            all_goals exact ⟨HEND.out _ _ _ _ _ (mkBd_step hn1 hn3 (by unfold LIM; omega)) (by rw [HX3.out]; simp) HC2.out HI3.out, by simp [intOf]⟩
          · rw [if_neg hr0] at hx
            have HX3 := hid hx
            have HC2 := hid hC2
            have HI2 := hid hI2
            have hd2 : decide (0 ≤ t.reason) = false := decide_eq_false hr0
            generalize t.reason = rs at *
            clear hx HX2 htr hcls hC2 hI2 ht0 hr0 HC HI
            gi_wp2
            exact ⟨HEND.out _ _ _ _ _ (mkBd_skip hn1) (by rw [HX3.out]; simp) HC2.out HI2.out, by simp [intOf]⟩
        · have HC2 := hid hC2
          have HI2 := hid hI2.init
          clear hC2 hI2 HC HI
          gi_wp2
          refine bodyPost_ret (results_none rfl _ _ _) rfl ?_
          exact ⟨⟨_, rfl⟩, .inr ⟨cs2, HC2.out, HI2.out⟩⟩
end Go.Proofs.Ytcglokippflioaa

/-! choices; the image of run. -/
namespace Go.Proofs.Ytcglokippflioaa
open Go Go.RowKit YLib
set_option maxRecDepth 100000 in
set_option maxHeartbeats 2000000 in
theorem choices_calls (b : Nat) (w : World) : Calls Try.prog 29 #[.pointer (some ⟨b, 0, none⟩)] w fun e w' =>
    e = .returned (.func (.func 38) #[] #[.pointer (some ⟨w.heap.size, 0, none⟩)]) ∧ w' = w.alloc (.cells #[.pointer (some ⟨b, 0, none⟩)] 47) := by
  go_enter Try.func29, Try.ntmps29
  go_wp2
  go_ret
  exact ⟨rfl, rfl⟩
end Go.Proofs.Ytcglokippflioaa

/-! run. -/
namespace Go.Proofs.Ytcglokippflioaa
open Go Go.RowKit YLib
attribute [local go_sem] Oper.semAt_some
section
variable {w0 w : World} {T : Nat → Prop} {xs ys : List HP} {c d : HP}
theorem _root_.Go.Proofs.Ytcglokippflioaa.YLib.Inv.pushBehind (h : Inv w0 T w (c :: (xs ++ ys))) : Inv w0 T w (xs ++ c :: ys) := h.perm (List.perm_middle (l₁ := xs)).symm
theorem _root_.Go.Proofs.Ytcglokippflioaa.YLib.Inv.pullFront (h : Inv w0 T w (xs ++ c :: ys)) : Inv w0 T w (c :: (xs ++ ys)) := h.perm (List.perm_middle (l₁ := xs))
theorem _root_.Go.Proofs.Ytcglokippflioaa.YLib.Inv.pushBehind2 (h : Inv w0 T w (c :: d :: (xs ++ ys))) : Inv w0 T w (xs ++ c :: d :: ys) :=
  (h.perm (List.Perm.cons c (List.perm_middle (l₁ := xs)).symm)).pushBehind
theorem _root_.Go.Proofs.Ytcglokippflioaa.YLib.Inv.pullFront2 (h : Inv w0 T w (xs ++ c :: d :: ys)) : Inv w0 T w (c :: d :: (xs ++ ys)) :=
  (h.pullFront).perm (List.Perm.cons c (List.perm_middle (l₁ := xs)))
end
theorem fold1 (A : Array Value) (p : Nat) (v : Value) : (Array.zip (#[p] : Array Tmp) #[v]).foldl (fun t (q, u) => t.setIfInBounds q u) A = A.setIfInBounds p v := by simp
theorem _root_.Go.Proofs.Ytcglokippflioaa.YLib.Inv.tuck {T : Nat → Prop} {w0 w : World} {xs ys : List HP} {c d : HP} (h : Inv w0 T w (c :: d :: (xs ++ ys))) : Inv w0 T w (d :: (xs ++ c :: ys)) :=
  (h.perm (List.Perm.swap d c _)).perm (List.Perm.cons d (List.perm_middle (l₁ := xs)).symm)
theorem _root_.Go.Proofs.Ytcglokippflioaa.YLib.Inv.dropBehind2 {T : Nat → Prop} {w0 w : World} {xs ys : List HP} {c d : HP} (h : Inv w0 T w (xs ++ c :: d :: ys)) : Inv w0 T w (xs ++ c :: ys) :=
  ((h.pullFront2).perm (List.Perm.swap d c _)).tail.pushBehind
theorem conflL_static {LF : List (List Int) → List Tr → Int → Option (List Int × Int × Bool)} {s s' : St} {k : Int} {r : Bool} (h : conflL LF s k = some (s', r)) : s'.nf = s.nf ∧ s'.order = s.order ∧ s'.vars = s.vars := by
  unfold conflL at h
  repeat' split at h
  all_goals first
    | (cases h; exact ⟨rfl, rfl, rfl⟩)
    | cases h
/-- What holds at the head of each round of run's outer loop. -/
def runI (w0 : World) (T : Nat → Prop) (b m : Nat) (Af Ao : Option Addr) (cf co : Nat) (vv : Value) (s : St) (rest : List HP) (budget : Int) (gB gL : Nat)
    (LF : List (List Int) → List Tr → Int → Option (List Int × Int × Bool)) (r : Int) (s' : St) (kq : Nat) (a : Act) (w : World) : Prop :=
  ∃ (left rst lv : Int) (s1 : St) (vc vt vl : Value) (Ds : List Nat), Hid (Inv w0 T w (sP b (.slice Af s.nf cf) (.slice Ao s.order.length co) vc vv vt vl m s1 ++ (marksP Ds :: blkP gL 3 [.int .i64 lv] :: blkP gB 47 [.pointer (some ⟨b, 0, none⟩)] :: rest))) ∧
    Hid (runL LF budget kq left rst lv s1 = some (r, s')) ∧ s1.nf = s.nf ∧ s1.order = s.order ∧ s1.vars = s.vars ∧
    ∃ u4 u8 u9 u10 u11 u12 u13 u14 u15 u16 u17 u18 u19 u20 u21 u22 u23 u24 u25 u26 u27 u28 u29 u30 u31 u32 u33 u34 u35 u36 u37 u38 u39 u40 u41 u42 u43 u44 u45 u46 u47 u48 u49 u50 u51 u52 u53 u54 u55 u56 u57 u58 u59 : Value, a = { tmps := #[.pointer (some ⟨b, 0, none⟩), .int .i64 budget, .pointer (some ⟨gB, 0, none⟩), undef, u4, .int .i64 left, .int .i64 rst, .pointer (some ⟨gL, 0, none⟩), u8, u9, u10, u11, u12, u13, u14, u15, u16, u17, u18, u19, u20, u21, u22, u23, u24, u25, u26, u27, u28, u29, u30, u31, u32, u33, u34, u35, u36, u37, u38, u39, u40, u41, u42, u43, u44, u45, u46, u47, u48, u49, u50, u51, u52, u53, u54, u55, u56, u57, u58, u59], defers := marks Ds }
section
variable {w0 w : World} {T : Nat → Prop} {b m : Nat} {vc vv vt vl : Value} {s : St} {rest : List HP}
set_option maxRecDepth 100000 in
set_option maxHeartbeats 4000000 in
theorem run_calls {LF : List (List Int) → List Tr → Int → Option (List Int × Int × Bool)} (hLF : LearnOK LF) {Af Ao : Option Addr} {cf co : Nat}
    (h : Inv w0 T w (sP b (.slice Af s.nf cf) (.slice Ao s.order.length co) vc vv vt vl m s ++ rest)) (hord : RowAt Kind.int w0 (fun k => ¬ T k) Ao s.order) (budget : Int) {fuel : Nat} {r : Int} {s' : St} (hr : runL LF budget fuel 0 0 0 s = some (r, s')) :
    Calls Try.prog 19 #[.pointer (some ⟨b, 0, none⟩), .int .i64 budget] w fun e w' => e = .returned (.int .i64 r) ∧
      ∃ vc' vt' vl', Inv w0 T w' (sP b (.slice Af s.nf cf) (.slice Ao s.order.length co) vc' vv vt' vl' m s' ++ rest) := by
  refine callsIn_wide (n := 0) |>.1 ?_
  have HR := hid hr; clear hr
  have HO := hid hord; clear hord
  have H0 := hid ((h.boxc 47 [.pointer (some ⟨b, 0, none⟩)]).pushBehind); clear h
  refine callsIn_of_wp_marks Try.func19 rfl trivial ?_ rfl
  simp only [Try.ntmps19, List.size_toArray, List.length_cons, List.length_nil, Nat.reduceAdd, Nat.reduceSub, Array.replicate_succ, Array.replicate_zero, List.push_toArray, List.append_toArray, List.nil_append, List.cons_append]
  gi_wp2
  refine wpIn_wide.2 (wp_scope_straight (wpIn_wide (n := 0).1 ?_))
  gi_wp2
  refine wpIn_label ?_
  gi_wp2
  refine wpIn_wide.2 (wp_loop_ghost_k (runI w0 T b m Af Ao cf co vv s rest budget w.heap.size (w.heap.size + 1) LF r s') fuel ?_ (fun n a wr hI J K hJ hK => ?_))
  · refine ⟨0, 0, 0, s, vc, vt, vl, [], hid ?_, HR, rfl, rfl, rfl, _, _, _, _, _, _, _, _, _, _, _, _, _, _, _, _, _, _, _, _, _, _, _, _, _, _, _, _, _, _, _, _, _, _, _, _, _, _, _, _, _, _, _, _, _, _, _, _, _, _, _, _, _, rfl⟩
    have h1 := (H0.out.boxc 3 [.int .i64 0]).pushBehind.noMarks.pushBehind
    simp only [World.size_alloc] at h1
    exact h1
  · clear HR H0
    have HJ := hid hJ; clear hJ
    have HK := hid hK; clear hK
    obtain ⟨left, rst, lv, s1, vc1, vt1, vl1, Ds, HI, HRn, hnf, hor, hva, hframe⟩ := hI
    generalize w.heap.size = gB at *
    generalize gB + 1 = gL at *
    have hR := HRn.out
    clear HRn
    cases n with
    | zero => cases hR
    | succ k =>
      rw [runL] at hR
      by_cases hok : okRun s1 ∧ okNums left rst lv
      case neg => rw [if_neg hok] at hR; cases hR
      rw [if_pos hok] at hR
      obtain ⟨⟨hk1, hk2, hk3, hk4, hk5, hk6, hk7, hk8, hk9⟩, hn1, hn2, hn3, hn4, hn5, hn6⟩ := hok
      cases hp : propS lv s1 with
      | none => rw [hp] at hR; cases hR
      | some x =>
      obtain ⟨pk, s2⟩ := x
      rw [hp] at hR
      simp only [] at hR
      have hpl : ∃ v2 t2, propL s1.cls s1.act lv (s1.val.length + 2) s1.val s1.tr = some (pk, v2, t2) ∧ v2.length = s1.val.length ∧ s2 = { s1 with val := v2, tr := t2 } := by
        unfold propS at hp
        split at hp
        · cases hp
        · rename_i k v t e
          by_cases hl : v.length = s1.val.length
          · rw [if_pos hl] at hp
            cases hp
            exact ⟨v, t, e, hl, rfl⟩
          · rw [if_neg hl] at hp; cases hp
      obtain ⟨v2, t2, hpl, hvl, hs2⟩ := hpl
      clear hp
      have HP := hid (propagate_calls HI.out (by omega) (Nat.le_of_lt hk6) lv hpl)
      clear hpl
      have hgB := (HI.out.cell (i := 8) rfl 0 rfl).1
      have hgL := (HI.out.cell (i := 7) rfl 0 rfl).1
      have hend : ∀ (left rst lv : Int) (s4 : St) (vc4 vt4 vl4 : Value) (Ds : List Nat) (w4 : World) (a' : Act), YLib.Inv w0 T w4 (sP b (.slice Af s.nf cf) (.slice Ao s.order.length co) vc4 vv vt4 vl4 m s4 ++ (marksP Ds :: blkP gL 3 [.int .i64 lv] :: blkP gB 47 [.pointer (some ⟨b, 0, none⟩)] :: rest)) →
          runL LF budget k left rst lv s4 = some (r, s') → s4.nf = s.nf → s4.order = s.order → s4.vars = s.vars → (∃ u4 u8 u9 u10 u11 u12 u13 u14 u15 u16 u17 u18 u19 u20 u21 u22 u23 u24 u25 u26 u27 u28 u29 u30 u31 u32 u33 u34 u35 u36 u37 u38 u39 u40 u41 u42 u43 u44 u45 u46 u47 u48 u49 u50 u51 u52 u53 u54 u55 u56 u57 u58 u59 : Value, a' = { tmps := #[.pointer (some ⟨b, 0, none⟩), .int .i64 budget, .pointer (some ⟨gB, 0, none⟩), undef, u4, .int .i64 left, .int .i64 rst, .pointer (some ⟨gL, 0, none⟩), u8, u9, u10, u11, u12, u13, u14, u15, u16, u17, u18, u19, u20, u21, u22, u23, u24, u25, u26, u27, u28, u29, u30, u31, u32, u33, u34, u35, u36, u37, u38, u39, u40, u41, u42, u43, u44, u45, u46, u47, u48, u49, u50, u51, u52, u53, u54, u55, u56, u57, u58, u59], defers := marks Ds }) → K a' w4 :=
        fun left rst lv s4 vc4 vt4 vl4 Ds w4 a' h1 h2 h3 h4 h5 h6 => HK.out _ _ (Handed.intro k (Nat.lt_succ_self k) (HJ.out _ _ _ ⟨left, rst, lv, s4, vc4, vt4, vl4, Ds, hid h1, hid h2, h3, h4, h5, h6⟩))
      have HEND := hid hend
      clear hend HK HJ
      have hcells : ∀ (lv : Int) (s4 : St) (vc4 vt4 vl4 : Value) (Ds : List Nat) (w4 : World), YLib.Inv w0 T w4 (sP b (.slice Af s.nf cf) (.slice Ao s.order.length co) vc4 vv vt4 vl4 m s4 ++ (marksP Ds :: blkP gL 3 [.int .i64 lv] :: blkP gB 47 [.pointer (some ⟨b, 0, none⟩)] :: rest)) →
          w4.cell? ⟨gB, 0, none⟩ = some (.pointer (some ⟨b, 0, none⟩)) ∧ w4.cell? ⟨gL, 0, none⟩ = some (.int .i64 lv) ∧ w4.frozen? ⟨gL, 0, none⟩ = false := fun lv s4 vc4 vt4 vl4 Ds w4 h =>
        ⟨(h.cell (i := 8) rfl 0 rfl).1, (h.cell (i := 7) rfl 0 rfl).1, (h.cell (i := 7) rfl 0 rfl).2⟩
      have HCELL := hid hcells
      clear hcells
      obtain ⟨u4, u8, u9, u10, u11, u12, u13, u14, u15, u16, u17, u18, u19, u20, u21, u22, u23, u24, u25, u26, u27, u28, u29, u30, u31, u32, u33, u34, u35, u36, u37, u38, u39, u40, u41, u42, u43, u44, u45, u46, u47, u48, u49, u50, u51, u52, u53, u54, u55, u56, u57, u58, u59, rfl⟩ := hframe
      have hst2 : s2.steps = s1.steps := by rw [hs2]
      have hnf2 : s2.nf = s.nf := by rw [hs2]; exact hnf
      have hor2 : s2.order = s.order := by rw [hs2]; exact hor
      have hva2 : s2.vars = s.vars := by rw [hs2]; exact hva
      have hvl2 : s2.val.length = s1.val.length := by rw [hs2]; exact hvl
      have HS2 := hid hs2; clear hs2
      rw [← HS2.out] at HP
      have harm : ∀ w2 vt2, YLib.Inv w0 T w2 (sP b (.slice Af s.nf cf) (.slice Ao s.order.length co) vc1 vv vt2 vl1 m s2 ++ (marksP Ds :: blkP gL 3 [.int .i64 lv] :: blkP gB 47 [.pointer (some ⟨b, 0, none⟩)] :: rest)) →
          w2.cell? ⟨gB, 0, none⟩ = some (.pointer (some ⟨b, 0, none⟩)) ∧ w2.cell? ⟨gL, 0, none⟩ = some (.int .i64 lv) ∧ w2.cell? ⟨b, 8, none⟩ = some (.int .i64 s1.steps) ∧ w2.frozen? ⟨b, 8, none⟩ = false := fun w2 vt2 h2 =>
        ⟨(h2.cell (i := 8) rfl 0 rfl).1, (h2.cell (i := 7) rfl 0 rfl).1, by rw [← hst2]; exact (h2.cell (i := 0) rfl 8 rfl).1, (h2.cell (i := 0) rfl 8 rfl).2⟩
      have HARM := hid harm
      clear harm hgB hgL
      have hgB := (HI.out.cell (i := 8) rfl 0 rfl).1
      have hgL := (HI.out.cell (i := 7) rfl 0 rfl).1
      have hfin : ∀ (Ds : List Nat) (lv : Int) (s4 : St) (vc4 vt4 vl4 : Value) (w4 : World) (tmps : Array Value) (v : Int), tmps.getD 4 undef = .int .i64 v → YLib.Inv w0 T w4 (sP b (.slice Af s.nf cf) (.slice Ao s.order.length co) vc4 vv vt4 vl4 m s4 ++ (marksP Ds :: blkP gL 3 [.int .i64 lv] :: blkP gB 47 [.pointer (some ⟨b, 0, none⟩)] :: rest)) → v = r → s4 = s' →
          LeavesInM Fence.wide 0 Try.prog Try.f19 tmps (fun e w' => e = .returned (.int .i64 r) ∧ ∃ vc' vt' vl', YLib.Inv w0 T w' (sP b (.slice Af s.nf cf) (.slice Ao s.order.length co) vc' vv vt' vl' m s' ++ rest)) (marks Ds) .returning w4 := by
        intro Ds lv s4 vc4 vt4 vl4 w4 tmps v hres h4 hv hs
        subst hv hs
        refine leaves_marks Ds w4 h4.pullFront (fun W hW => ⟨.int .i64 v, (results_tmp (t := 4) rfl _ _ _).trans (by rw [hres]), rfl, vc4, vt4, vl4, hW.dropBehind.dropBehind⟩)
      have HFIN := hid hfin
      clear hfin
      by_cases hpk : 0 ≤ pk
      · rw [if_pos hpk] at hR
        have HRR := hid hR; clear hR
        have hst2' := hst2
        rw [hst2] at HRR
        by_cases hb : s1.steps = budget
        · have hRR := HRR.out
          rw [if_pos hb] at hRR
          cases hRR
          have hbb : (s1.steps == budget) = true := by simpa using hb
          go_wp2_with (first
            | (go_at_call 24; refine HP.out.mono ?_; rintro e w2 ⟨rfl, vt2, h2⟩; obtain ⟨hgB2, hgL2, hst, hfz⟩ := HARM.out _ _ h2; have H2 := hid h2; clear h2))
          show bodyPostM _ _ _ _ _ .ret _ _
          exact HFIN.out Ds lv _ vc1 vt2 vl1 w2 _ 3 rfl H2.out rfl rfl
        · have hRR := HRR.out
          rw [if_neg hb] at hRR
          have hbb : (s1.steps == budget) = false := by simpa using hb
          cases hcf : conflL LF { s2 with steps := s1.steps + 1 } pk with
          | none => rw [hcf] at hRR; cases hRR
          | some y =>
          obtain ⟨s3, okc⟩ := y
          rw [hcf] at hRR
          clear HRR
          have HCF := hid hcf; clear hcf
          have HRR := hid hRR; clear hRR
          go_upto_region 8 with (first
            | (go_at_call 24; refine HP.out.mono ?_; rintro e w2 ⟨rfl, vt2, h2⟩; obtain ⟨hgB2, hgL2, hst, hfz⟩ := HARM.out _ _ h2; have H3 : Hid (YLib.Inv w0 T (w2.setCell ⟨b, 8, none⟩ (.int .i64 (s1.steps + 1))) (sP b (.slice Af s.nf cf) (.slice Ao s.order.length co) vc1 vv vt2 vl1 m { s2 with steps := s1.steps + 1 } ++ (marksP Ds :: blkP gL 3 [.int .i64 lv] :: blkP gB 47 [.pointer (some ⟨b, 0, none⟩)] :: rest))) := hid (h2.set (i := 0) rfl 8 (.int .i64 (s1.steps + 1))); clear h2))
          generalize w2.setCell ⟨b, 8, none⟩ (.int .i64 (s1.steps + 1)) = w3 at *
          clear hgB2 hgL2 hst hfz hgB hgL
          obtain ⟨hgB, hgL, hfL⟩ := HCELL.out _ _ _ _ _ _ _ H3.out
          have HC := hid (conflict_calls hLF H3.out pk (by show 0 < s2.val.length; omega) HCF.out)
          obtain ⟨hnf3, hor3, hva3⟩ := conflL_static HCF.out
          simp only [] at hnf3 hor3 hva3
          rw [hnf2] at hnf3
          rw [hor2] at hor3
          rw [hva2] at hva3
          have HNF := hid hnf3
          have HOR := hid hor3
          have HVA := hid hva3
          clear hnf3 hor3 hva3
          cases okc with
          | false =>
            have hRR := HRR.out
            cases hRR
            go_wp2_with (first
              | (go_at_call 25; refine HC.out.mono ?_; rintro e w4 ⟨rfl, vc4, vt4, vl4, h4⟩; have H4 := hid h4; clear h4))
            show bodyPostM _ _ _ _ _ .ret _ _
            exact HFIN.out Ds lv _ vc4 vt4 vl4 w4 _ 2 rfl H4.out rfl rfl
          | true =>
            obtain ⟨l, hl⟩ : ∃ l, lastLevel s3.tr = l := ⟨_, rfl⟩
            have HLL := hid hl; clear hl
            go_upto_region 11 with (first
              | (go_at_call 25; refine HC.out.mono ?_; rintro e w4 ⟨rfl, vc4, vt4, vl4, h4⟩; have HLV := hid (level_calls h4); rw [HLL.out] at HLV; obtain ⟨hgB4, hgL4, hfL4⟩ := HCELL.out _ _ _ _ _ _ _ h4; have H4 := hid h4; clear h4)
              | (go_at_call 26; refine HLV.out.mono ?_; rintro e w' ⟨rfl, q, rfl⟩; have H5 : Hid (YLib.Inv w0 T ((w4.drewN q).setCell ⟨gL, 0, none⟩ (.int .i64 l)) (sP b (.slice Af s.nf cf) (.slice Ao s.order.length co) vc4 vv vt4 vl4 m s3 ++ (marksP Ds :: blkP gL 3 [.int .i64 l] :: blkP gB 47 [.pointer (some ⟨b, 0, none⟩)] :: rest))) := hid ((H4.out.drewN q).set (i := 7) rfl 0 (.int .i64 l))))
            generalize (w4.drewN q).setCell ⟨gL, 0, none⟩ (.int .i64 l) = w5 at *
            clear hgB hgL hfL hgB4 hgL4 hfL4 HLV
            obtain ⟨hgB, hgL, hfL⟩ := HCELL.out _ _ _ _ _ _ _ H5.out
            have hRR := HRR.out
            clear HRR
            cases haf : afterL left rst s3 with
            | none => simp only [haf] at hRR; cases hRR
            | some y =>
            obtain ⟨l', r', v', s4⟩ := y
            simp only [haf] at hRR
            have HRR := hid hRR; clear hRR
            unfold afterL at haf
            rw [HLL.out] at haf
            by_cases hc1 : left - 1 ≤ 0
            · by_cases hc2 : 0 < l
              · rw [if_pos ⟨hc1, hc2⟩] at haf
                by_cases hgd : okLits s3.val s3.tr ∧ s3.nf ≤ s3.cls.length ∧ s3.cls.length ≤ LIM ∧ 0 < s3.val.length ∧ 0 < (backL 0 s3.val s3.tr).1.length
                case neg => rw [if_neg hgd] at haf; cases haf
                rw [if_pos hgd] at haf
                obtain ⟨hg1, hg2, hg3, hg4, hg5⟩ := hgd
                cases hfg : forgetL (backL 0 s3.val s3.tr).1 (s3.cls.drop s3.nf) s3.nf s3.act with
                | none => simp only [hfg] at haf; cases haf
                | some act' =>
                simp only [hfg] at haf
                injection haf with haf
                injection haf with e1 haf
                injection haf with e2 haf
                injection haf with e3 e4
                subst e1 e2 e3 e4
                obtain ⟨lu, hlu⟩ : ∃ lu, lub (rst + 1).toNat = lu := ⟨_, rfl⟩
                have hlu2 : (lu : Int) ≤ rst + 1 := by have := lub_le (rst + 1).toNat; omega
                have HLU := hid (fun w => Luby_calls (rst + 1) (by omega) w)
                rw [hlu] at HLU
                rw [hlu] at HRR
                clear hlu
                have HB := hid (back_calls H5.out 0 hg4 hg1)
                obtain ⟨v3, hv3⟩ : ∃ v3, (backL 0 s3.val s3.tr).1 = v3 := ⟨_, rfl⟩
                obtain ⟨t3, ht3⟩ : ∃ t3, (backL 0 s3.val s3.tr).2 = t3 := ⟨_, rfl⟩
                rw [hv3, ht3] at HB
                rw [hv3, ht3] at HRR
                rw [hv3] at hfg hg5
                clear hv3 ht3
                have HFG := hid hfg
                clear hfg
                go_upto_region 17 with (first
                  | (go_at_call 5; refine (HLU.out _).mono ?_; rintro e w' ⟨rfl, rfl⟩)
                  | (go_at_call 27; refine HB.out.mono ?_; rintro e w6 ⟨rfl, vt6, h6⟩; obtain ⟨hgB6, hgL6, hfL6⟩ := HCELL.out _ _ _ _ _ _ _ h6; have H7 : Hid (YLib.Inv w0 T (w6.setCell ⟨gL, 0, none⟩ (.int .i64 0)) (sP b (.slice Af s.nf cf) (.slice Ao s.order.length co) vc4 vv vt6 vl4 m { s3 with val := v3, tr := t3 } ++ (marksP Ds :: blkP gL 3 [.int .i64 0] :: blkP gB 47 [.pointer (some ⟨b, 0, none⟩)] :: rest))) := hid (h6.set (i := 7) rfl 0 (.int .i64 0)); clear h6))
                generalize w6.setCell ⟨gL, 0, none⟩ (.int .i64 0) = w7 at *
                clear hgB hgL hfL hgB6 hgL6 hfL6
                obtain ⟨hgB, hgL, hfL⟩ := HCELL.out _ _ _ _ _ _ _ H7.out
                have h7 := H7.out
                rw [← HNF.out] at h7
                have HF := hid (forget_calls h7 (s := { s3 with val := v3, tr := t3 }) hg5 hg2 hg3 HFG.out)
                clear h7
                rw [HNF.out] at HF
                go_wp2_with (first
                  | (go_at_call 28; refine HF.out.mono ?_; rintro e w8 ⟨rfl, h8⟩; have H8 := hid h8; clear h8))
                exact HEND.out _ _ _ _ _ _ _ Ds _ _ H8.out (by have h := HRR.out; rw [HNF.out] at h; exact h) rfl HOR.out HVA.out ⟨_, _, _, _, _, _, _, _, _, _, _, _, _, _, _, _, _, _, _, _, _, _, _, _, _, _, _, _, _, _, _, _, _, _, _, _, _, _, _, _, _, _, _, _, _, _, _, _, _, _, _, _, _, rfl⟩
              · rw [if_neg (fun h => hc2 h.2)] at haf
                cases haf
                go_wp2
                exact HEND.out _ _ _ _ _ _ _ Ds _ _ H5.out HRR.out HNF.out HOR.out HVA.out ⟨_, _, _, _, _, _, _, _, _, _, _, _, _, _, _, _, _, _, _, _, _, _, _, _, _, _, _, _, _, _, _, _, _, _, _, _, _, _, _, _, _, _, _, _, _, _, _, _, _, _, _, _, _, rfl⟩
            · rw [if_neg (fun h => hc1 h.1)] at haf
              cases haf
              go_wp2
              exact HEND.out _ _ _ _ _ _ _ Ds _ _ H5.out HRR.out HNF.out HOR.out HVA.out ⟨_, _, _, _, _, _, _, _, _, _, _, _, _, _, _, _, _, _, _, _, _, _, _, _, _, _, _, _, _, _, _, _, _, _, _, _, _, _, _, _, _, _, _, _, _, _, _, _, _, _, _, _, _, rfl⟩
      · rw [if_neg hpk] at hR
        cases hch : chooseL lv s2 with
        | none => simp only [hch] at hR; cases hR
        | some y =>
        simp only [hch] at hR
        have HRR := hid hR; clear hR
        have HC := hid (fun w => choices_calls b w)
        go_wp2_with (first
          | (go_at_call 24; refine HP.out.mono ?_; rintro e w2 ⟨rfl, vt2, h2⟩; obtain ⟨hgB2, hgL2, hst, hfz⟩ := HARM.out _ _ h2; have H2 := hid h2; clear h2)
          | (go_at_call 29; refine (HC.out _).mono ?_; rintro e w3 ⟨rfl, rfl⟩))
        obtain ⟨nv, hnv⟩ : ∃ nv : Nat, s.vars = nv := ⟨s.vars.toNat, by omega⟩
        have hcons : ∀ x tl, rowL s.order nv s2.val = x :: tl → (0 ≤ size x ∧ size x < s2.val.length ∧ s2.tr.length < LIM) ∧ y = .inr { s2 with val := s2.val.set (size x).toNat x, tr := s2.tr ++ [⟨x, -1, lv + 1⟩] } := by
          intro x tl hx
          have e : rowL s2.order s2.vars.toNat s2.val = x :: tl := by rw [hor2, hva2, hnv, Int.toNat_natCast]; exact hx
          unfold chooseL at hch
          rw [e] at hch
          simp only [] at hch
          split at hch
          · rename_i hg; cases hch; exact ⟨hg, rfl⟩
          · cases hch
        have hnil : rowL s.order nv s2.val = [] → y = .inl s2 := by
          intro hx
          have e : rowL s2.order s2.vars.toNat s2.val = [] := by rw [hor2, hva2, hnv, Int.toNat_natCast]; exact hx
          unfold chooseL at hch
          rw [e] at hch
          cases hch; rfl
        have HCO := hid hcons
        have HNI := hid hnil
        clear hcons hnil hch
        obtain ⟨gv, cv, hvv, _⟩ := H2.out.rowForm (i := 1) rfl (by omega)
        subst hvv
        have H3 := hid (H2.out.pullFront.boxc 47 [.pointer (some ⟨b, 0, none⟩)]).tuck
        have HIT := hid (choices_iter w2.heap.size b nv Ao co gv cv s.order s2.val (by omega) (by omega) (by rw [← hor]; exact hk4) (by rw [← hor, hvl2]; exact hk9))
        refine (wpIn_wide (n := 0)).1 (wpIn_range (T := T) (w0 := w0) rfl (enters_of Try.func38 (by kernel_rfl) rfl) HIT.out (fun _ => rfl) (Ds := Ds) rfl (fun pre cs => pre = [] ∧ cs = (sP b (.slice Af s.nf cf) (.slice Ao s.order.length co) vc1 (.slice (some ⟨gv, 0, none⟩) s2.val.length cv) vt2 vl1 m s2 ++ (blkP w2.heap.size 47 [.pointer (some ⟨b, 0, none⟩)] :: blkP gL 3 [.int .i64 lv] :: blkP gB 47 [.pointer (some ⟨b, 0, none⟩)] :: rest))) (fun c cs => c = .exit 1 ∧ ∃ x tl vt', rowL s.order nv s2.val = x :: tl ∧ cs = (sP b (.slice Af s.nf cf) (.slice Ao s.order.length co) vc1 (.slice (some ⟨gv, 0, none⟩) s2.val.length cv) vt' vl1 m { s2 with val := s2.val.set (size x).toNat x, tr := s2.tr ++ [⟨x, -1, lv + 1⟩] } ++ (blkP w2.heap.size 47 [.pointer (some ⟨b, 0, none⟩)] :: blkP gL 3 [.int .i64 (lv + 1)] :: blkP gB 47 [.pointer (some ⟨b, 0, none⟩)] :: rest))) H3.out ⟨rfl, rfl⟩ ?ro (fun x => { tmps := #[.pointer (some ⟨b, 0, none⟩), .int .i64 budget, .pointer (some ⟨gB, 0, none⟩), undef, u4, .int .i64 left, .int .i64 rst, .pointer (some ⟨gL, 0, none⟩), .int .i64 pk, .int .i64 x, .pointer (some ⟨b, 0, none⟩), .int .i64 lv, .int .i64 pk, .int .i64 pk, .bool (decide (0 ≤ pk)), u15, u16, u17, u18, u19, u20, u21, u22, u23, u24, u25, u26, u27, u28, u29, u30, u31, u32, u33, u34, u35, u36, u37, u38, u39, u40, u41, u42, u43, u44, u45, u46, u47, u48, u49, u50, .pointer (some ⟨b, 0, none⟩), .func (.func 38) #[] #[.pointer (some ⟨w2.heap.size, 0, none⟩)], .int .i64 x, u54, u55, u56, u57, u58, u59], defers := [] }) ?assign ?body ?done ?stop)
        case ro =>
          rintro pre cs W ⟨rfl, rfl⟩ hI
          obtain ⟨A, c, hA, _, _, hr⟩ := hI.rowShape (i := 1) rfl
          cases hA
          refine ⟨(hI.cell (i := 6) rfl 0 rfl).1, ?_, (hI.cell (i := 0) rfl 2 rfl).1, (hI.cell (i := 0) rfl 5 rfl).1, (HO.out.chg hI.chg (fun k hk => hk)).mono (fun _ _ => trivial), hr⟩
          have h0 := (hI.cell (i := 0) rfl 0 rfl).1
          rw [hva2, hnv] at h0
          exact h0
        case assign =>
          intro l x W K hK
          rw [fold1]
          simp only [List.setIfInBounds_toArray, List.set_cons_succ, List.set_cons_zero]
          gi_wp2
          exact hK
        case body =>
          rintro l D o pre x post cs W hx ⟨rfl, rfl⟩ hI
          obtain ⟨⟨hx1, hx2, hx3⟩, _⟩ := HCO.out x post hx
          have hI2 := hI.pushBehind2
          obtain ⟨hcL, hfL⟩ := hI2.cell (i := 9) rfl 0 rfl
          have hI3 := hI2.set (i := 9) rfl 0 (.int .i64 (lv + 1))
          have hcB := (hI3.cell (i := 10) rfl 0 rfl).1
          have hcL2 := (hI3.cell (i := 9) rfl 0 rfl).1
          have HSET := hid (callsIn_wide (n := 0) |>.2 (set_calls hI3 x (-1) (lv + 1) hx1 hx2 hx3))
          have HX := hid hx
          have hn6' : lv ≤ 1000000000 := by unfold LIM at hn6; omega
          clear hI hI2 hI3 hx
          gi_wp2_with (refine ⟨trivial, rfl, ?_⟩; refine (CallsIn.inRound l HSET.out).mono ?_; rintro e w' ⟨rfl, vt', h5⟩; have H5 := hid h5; clear h5)
          exact ⟨_, ⟨rfl, x, post, vt', HX.out, rfl⟩, H5.out.pullFront2⟩
        case done =>
          rintro D cs W ⟨hxs, rfl⟩ hI
          have hy := HNI.out hxs
          have hRR := HRR.out
          rw [hy] at hRR
          cases hRR
          have H9 := hid hI.pushBehind.dropBehind2
          clear hI
          go_wp2
          show bodyPostM _ _ _ _ _ .ret _ _
          exact HFIN.out (D :: Ds) lv _ _ _ _ W _ 1 rfl H9.out rfl rfl
        case stop =>
          rintro D c cs W ⟨rfl, x, tl, vt', hrow, rfl⟩ hI
          obtain ⟨_, hy⟩ := HCO.out x tl hrow
          have hRR := HRR.out
          rw [hy] at hRR
          refine wpIn_exit ?_
          show K _ _
          exact HEND.out left rst (lv + 1) _ _ _ _ (D :: Ds) _ _ hI.pushBehind.dropBehind2 hRR hnf2 hor2 hva2 ⟨_, _, _, _, _, _, _, _, _, _, _, _, _, _, _, _, _, _, _, _, _, _, _, _, _, _, _, _, _, _, _, _, _, _, _, _, _, _, _, _, _, _, _, _, _, _, _, _, _, _, _, _, _, rfl⟩
end
end Go.Proofs.Ytcglokippflioaa

/-! The order in which Learn sorts, and the level it returns to. -/
namespace Go.Proofs.Ytcglokippflioaa
open Go Go.RowKit YLib
theorem leP_iff' (tr : List Tr) (x y : Int) : leOf (cmpP tr) x y = true ↔ max (fAt tr y) 0 ≤ max (fAt tr x) 0 := by
  unfold leOf
  rw [Bool.not_eq_true', decide_eq_false_iff_not]
  unfold cmpP cmpI
  split
  · omega
  · split <;> omega
theorem totP (tr : List Tr) : ∀ a b, (leOf (cmpP tr) a b || leOf (cmpP tr) b a) = true := by
  intro a b
  rw [Bool.or_eq_true, leP_iff', leP_iff']
  omega
theorem trP (tr : List Tr) : ∀ a b c, leOf (cmpP tr) a b = true → leOf (cmpP tr) b c = true → leOf (cmpP tr) a c = true := by
  intro a b c
  rw [leP_iff', leP_iff', leP_iff']
  omega
theorem antiP {tr : List Tr} {xs : List Int} (h : ∀ x ∈ xs, isF tr x = true) : ∀ a ∈ xs, ∀ b ∈ xs, leOf (cmpP tr) a b = true → leOf (cmpP tr) b a = true → a = b := by
  intro a ha b hb h1 h2
  rw [leP_iff'] at h1 h2
  obtain ⟨i, t, e1, e2, e3, _⟩ := fAt_some (h a ha)
  obtain ⟨j, u, f1, f2, f3, _⟩ := fAt_some (h b hb)
  have hij : i = j := by omega
  subst hij
  rw [e2] at f2
  cases f2
  omega
theorem toL_app (tr : List Tr) (x : Int) : ∀ (xs : List Int) (m : Int), toL tr (xs ++ [x]) m = max (toL tr xs m) (levAt tr x)
  | [], _ => rfl
  | _ :: xs, _ => toL_app tr x xs _
set_option maxRecDepth 100000 in
set_option maxHeartbeats 1000000 in
theorem learn1_calls {B : Nat} {tr : List Tr} {A : Option Addr} {c : Nat} {S : Nat → Prop} {W : World} {x y : Int} (hx : bd x) (hy : bd y) (hn : tr.length ≤ 9223372036854775807) (hB : W.cell? ⟨B, 0, none⟩ = some (.slice A tr.length c)) (ha : RowAt trK W S A tr) :
    Calls Try.prog 49 #[.int .i64 x, .int .i64 y, .pointer (some ⟨B, 0, none⟩)] W fun e W' => e = .returned (.int .i64 (cmpP tr x y)) ∧ Gro W W' := by
  have HX := hid (falseAt_calls (c := c) hx.1 hx.2 ha hn)
  have HY := hid (fun W' (hW : Gro W W') => falseAt_calls (c := c) hy.1 hy.2 (hW.row ha) hn)
  have HB := hid (fun W' (hW : Gro W W') => (hW.below.cell (p := ⟨B, 0, none⟩) (World.block_lt_of_cell? _ _ hB)).trans hB)
  clear ha hx hy
  unfold cmpP
  generalize fAt tr x = i at *
  generalize fAt tr y = j at *
  obtain ⟨i', hi⟩ : ∃ i', max i 0 = i' := ⟨_, rfl⟩
  obtain ⟨j', hj⟩ : ∃ j', max j 0 = j' := ⟨_, rfl⟩
  rw [hi] at HX
  rw [hj] at HY
  rw [hi, hj]
  clear hi hj
  generalize decide (0 ≤ i) = r at *
  generalize decide (0 ≤ j) = s at *
  go_enter Try.func49, Try.ntmps49
  go_wp2_with (first
    | (go_at_call 50; (with_reducible refine HX.out.mono ?_); rintro e w' ⟨rfl, h1⟩; have H1 := hid h1; have hB := HB.out _ h1; clear h1)
    | (go_at_call 50; (with_reducible refine (HY.out _ H1.out).mono ?_); rintro e w'' ⟨rfl, h2⟩; have H2 := hid h2; clear h2)
    | (go_at_call 51; refine (cmp_calls _ _ _).mono ?_; rintro e w3 ⟨rfl, rfl⟩))
  go_ret
  exact ⟨rfl, H1.out.trans H2.out⟩
end Go.Proofs.Ytcglokippflioaa

/-! Learn. -/
namespace Go.Proofs.Ytcglokippflioaa
open Go Go.RowKit YLib
attribute [local go_sem] Oper.semAt_some
theorem HG5i {w0 w w1 : World} {T : Nat → Prop} {cs : List HP} (h : Gro w w1) (hi : Inv w0 T w cs) : Inv w0 T w1 cs := h.inv hi
theorem back_calls' (A1 A2 : Option Addr) (n1 c1 n2 c2 : Nat) (k : Int) (w : World) : Calls Try.prog 44 #[.slice A1 n1 c1, .slice A2 n2 c2, .int .i64 k] w fun e w' =>
    e = .returned (.func (.func 56) #[] #[.pointer (some ⟨w.heap.size + 1, 0, none⟩), .pointer (some ⟨w.heap.size, 0, none⟩), .pointer (some ⟨w.heap.size + 1 + 1, 0, none⟩)]) ∧
      w' = ((w.alloc (.cells #[.slice A1 n1 c1] 33)).alloc (.cells #[.slice A2 n2 c2] 51)).alloc (.cells #[.int .i64 k] 3) := by
  go_enter Try.func44, Try.ntmps44
  go_wp2
  go_ret
  exact ⟨rfl, rfl⟩
theorem swapIn {w0 w : World} {T : Nat → Prop} {rn ro : HP} {xs ys : List HP} (h : Inv w0 T w (rn :: (xs ++ ro :: ys))) : Inv w0 T w (xs ++ rn :: ys) :=
  (h.perm (((List.perm_middle (l₁ := xs)).cons rn).trans ((List.Perm.swap ro rn _).trans ((List.perm_middle (l₁ := xs)).symm.cons ro)))).tail
theorem coneL_mem (cls : List (List Int)) (tr : List Tr) : ∀ (n : Nat) (f : Int → Int) (y : Int), y ∈ coneL cls tr n f → 0 ≤ y ∧ y < n
  | 0, _, _, h => by cases h
  | n + 1, f, y, h => by
    rw [coneL_succ] at h
    split at h
    · have := coneL_mem cls tr n f y h; omega
    · rcases List.mem_cons.1 h with rfl | h
      · omega
      · have := coneL_mem cls tr n _ y h; omega
theorem loopL_cons (cls : List (List Int)) (tr : List Tr) (L : Int) (k : Int) (ks c : List Int) : loopL cls tr L (k :: ks) c = if c.length ≤ LIM ∧ (∀ x ∈ c, goodI x) then
      if atL tr L c = 1 then some c else
      match tr[k.toNat]? with
      | none => none
      | some t => if t.level ≠ L ∨ -t.lit ∉ c then loopL cls tr L ks c else
        if 0 ≤ t.reason then
          match cls[t.reason.toNat]? with
          | none => none
          | some r => match resolveL c r (size t.lit) with
            | none => none
            | some c' => loopL cls tr L ks c'
        else none
    else none := rfl
theorem rowOld {α : Type} {d : Kind α} {w W : World} {A : Option Addr} {xs : List α} {S : Nat → Prop} (h : RowAt d w S A xs) (hc : Chg NoM w W) : RowAt d W (fun k => k < w.heap.size) A xs := (h.move (fun k _ hl => hc.block k hl id)).mono (fun _ h => h.2)
/-- The parts that Learn keeps. -/
def PL (Bk Bt Bc B10 b9 b4 b3 : Nat) (A1 A2 : Option Addr) (n1 c1 n2 c2 : Nat) (kn : Nat) (L : Int) (g cap : Nat) (xs : List Int) : List HP :=
  [blkP Bk 3 [.int .i64 kn], blkP Bt 51 [.slice A2 n2 c2], blkP Bc 33 [.slice A1 n1 c1], blkP B10 26 [.slice (some ⟨g, 0, none⟩) xs.length cap], rowP Kind.int 3 (.slice (some ⟨g, 0, none⟩) xs.length cap) xs,
   blkP b9 3 [.int .i64 L], blkP b4 51 [.slice A2 n2 c2], blkP b3 33 [.slice A1 n1 c1]]
set_option maxRecDepth 100000 in
set_option maxHeartbeats 4000000 in
theorem Learn_calls : LearnOK learnL := by
  intro w A1 A2 c1 c2 cls tr k c lv ok h1 h2 hc1 hc2 hcl htl hll hF
  unfold learnL at hF
  split at hF
  case isFalse => cases hF
  rename_i hg
  obtain ⟨hk0, hgc, hgt⟩ := hg
  obtain ⟨kn, rfl⟩ := Int.eq_ofNat_of_zero_le hk0
  rw [Int.toNat_natCast] at hF
  cases hkc : cls[kn]? with
  | none => rw [hkc] at hF; cases hF
  | some c0 =>
  rw [hkc] at hF
  simp only at hF
  split at hF
  case isTrue => cases hF
  rename_i hcond
  have hcb : conflB tr c0 = true := by
    cases h : conflB tr c0 with
    | true => rfl
    | false => exact absurd (.inl h) hcond
  have hl0 : lastLevel tr ≠ 0 := fun h => hcond (.inr (.inl h))
  have ha0 : atL tr (lastLevel tr) c0 ≠ 0 := fun h => hcond (.inr (.inr h))
  clear hcond
  cases hloop : loopL cls tr (lastLevel tr) (coneL cls tr tr.length (markL tr 0 c0 fun _ => 0)) (compactF none (c0.mergeSort leI)) with
  | none => rw [hloop] at hF; cases hF
  | some cN =>
  rw [hloop] at hF
  simp only at hF
  split at hF
  case isFalse => cases hF
  rename_i hfin
  injection hF with hF
  injection hF with e1 hF
  injection hF with e2 e3
  subst e3
  obtain ⟨hc0l, hc0g⟩ := hgc c0 (List.mem_of_getElem? hkc)
  have hc0b : ∀ x ∈ c0, bd x := fun x hx => good_bd (hc0g x hx)
  obtain ⟨cb, co, A0, c0c, rfl, hce, hle, hrow⟩ := clAt h1 hkc
  have HLV := hid (fun W (hW : Gro w W) => Level_calls (hW.row h2) (by unfold LIM at htl; omega) hc2)
  obtain ⟨L, hL⟩ : ∃ L, lastLevel tr = L := ⟨_, rfl⟩
  rw [hL] at HLV hl0 ha0 hloop
  have HCF := hid (fun W (hW : Gro w W) => conflicts_calls (c1 := c1) (c2 := c2) hkc (hW.row h1) (hW.row h2) (by unfold LIM at hcl; omega) (by unfold LIM at htl; omega) (by unfold LIM at hc0l; omega) hc0b)
  rw [hcb] at HCF
  have H1 := hid h1
  have H2 := hid h2
  have HKC := hid hkc
  have HLP := hid hloop
  have hG2 := ((Gro.refl w).alloc (.cells #[.slice (some ⟨cb, co, none⟩) cls.length c1] 33)).alloc (.cells #[.slice A2 tr.length c2] 51)
  refine callsIn_wide (n := 0) |>.1 ?_
  refine callsIn_of_wp_marks Try.func35 rfl trivial ?_ rfl
  simp only [Try.ntmps35, List.size_toArray, List.length_cons, List.length_nil, Nat.reduceAdd, Nat.reduceSub, Array.replicate_succ, Array.replicate_zero, List.push_toArray, List.append_toArray, List.nil_append, List.cons_append]
  gi_wp2
  refine wpIn_wide.2 (wp_scope_straight ?_)
  go_wp2_with (go_at_call 36; refine (HLV.out _ hG2).mono ?_; rintro e w1 ⟨rfl, q, rfl⟩)
  have h2' := (((((Inv.start0 w).boxc 33 [.slice (some ⟨cb, co, none⟩) cls.length c1]).boxc 51 [.slice A2 tr.length c2]).drewN q).boxc 3 [.int .i64 L])
  simp only [World.size_alloc, World.heap_drewN] at h2'
  have HI2 := hid h2'
  clear h2'
  have hG3 := hid ((hG2.drewN q).alloc (.cells #[.int .i64 L] 3))
  generalize (((w.alloc (.cells #[.slice (some ⟨cb, co, none⟩) cls.length c1] 33)).alloc (.cells #[.slice A2 tr.length c2] 51)).drewN q).alloc (.cells #[.int .i64 L] 3) = W2 at *
  clear hG2 HLV
  have hB3 := (HI2.out.cell (i := 2) rfl 0 rfl).1
  have hB4 := (HI2.out.cell (i := 1) rfl 0 rfl).1
  have hB9 := (HI2.out.cell (i := 0) rfl 0 rfl).1
  have hce2 := hG3.out.cell hce
  have HC2 := hid (fun W (hW : Gro W2 W) => HCF.out W (hG3.out.trans hW))
  have HAT := hid (fun W (hW : Gro W2 W) => at_calls (cc := c0c) (c2 := c2) (lv := L) ((hG3.out.trans hW).row hrow) ((hG3.out.trans hW).row h2) (by unfold LIM at hc0l; omega) (by unfold LIM at htl; omega) hc0b)
  obtain ⟨at0, hat0⟩ : ∃ x, atL tr L c0 = x := ⟨_, rfl⟩
  rw [hat0] at HAT ha0
  have hc0p : 0 < c0.length := by
    rcases Nat.eq_zero_or_pos c0.length with h | h
    · rw [List.eq_nil_of_length_eq_zero h] at hat0
      exact absurd hat0.symm ha0
    · exact h
  have HCL := hid (fun W (hW : Gro W2 W) => Clone_calls (cc := c0c) ((hG3.out.trans hW).row hrow) hc0l)
  clear hat0 h1 h2 hce hrow HCF hkc hloop
  have hln : (L == 0) = false := by simpa using hl0
  have han : (at0 == 0) = false := by simpa using ha0
  clear hl0 ha0
  have hkl : (kn : Int) < (cls.length : Int) := by have := (List.getElem?_eq_some_iff.1 HKC.out).1; omega
  go_region_held3 (fun w' => w'.cell? ⟨w.heap.size, 0, none⟩ = some (.slice (some ⟨cb, co, none⟩) cls.length c1) ∧ w'.cell? ⟨w.heap.size + 1, 0, none⟩ = some (.slice A2 tr.length c2) ∧ w'.cell? ⟨w.heap.size + 1 + 1, 0, none⟩ = some (.int .i64 L) ∧ w'.cell? ⟨cb, co + kn, none⟩ = some (.slice A0 c0.length c0c)) (go_keep) (first
    | (go_at_call 40; refine (HC2.out _ ((Gro.refl _).drew)).mono ?_; rintro e w3 ⟨rfl, g3⟩; have hG4 := hid (((Gro.refl _).drew).trans g3); have k1 := hG4.out.cell hB3; have k2 := hG4.out.cell hB4; have k3 := hG4.out.cell hB9; have k4 := hG4.out.cell hce2; clear g3)
    | (go_at_call 41; refine (HAT.out _ hG4.out).mono ?_; rintro e w4 ⟨rfl, g4⟩; have hG5 := hid (hG4.out.trans g4); have j1 := hG5.out.cell hB3; have j2 := hG5.out.cell hB4; have j3 := hG5.out.cell hB9; have j4 := hG5.out.cell hce2; clear g4))
  clear k1 k2 k3 k4 hB3 hB4 hB9 hce2 HC2 HAT hG4
  have HI5 := hid (HG5i hG5.out HI2.out)
  clear HI2
  go_upto_region 5 with (go_at_call 33; refine (HCL.out _ hG5.out).mono ?_; rintro e w5 ⟨A', c', rfl, hbl, hn⟩; have h6 := HI5.out.cons hbl hn; obtain ⟨g, cap, hgg, _⟩ := h6.rowForm (i := 0) rfl hc0p; injection hgg with hgg _ hgg2; subst hgg hgg2; have HI6 := hid (h6.boxc 26 [.slice (some ⟨g, 0, none⟩) c0.length c']); clear hbl hn h6)
  generalize w5.alloc (.cells #[.slice (some ⟨g, 0, none⟩) c0.length c'] 26) = w6 at *
  generalize w5.heap.size = B10 at *
  clear HI5 HCL j1 j2 j3 j4 hG5
  have hC10 := (HI6.out.cell (i := 0) rfl 0 rfl).1
  have HSO := hid (Sort_own HI6.out (i := 1) rfl hc0l)
  obtain ⟨cs0, hcs0⟩ : ∃ x, c0.mergeSort leI = x := ⟨_, rfl⟩
  have hcs0l : cs0.length = c0.length := by rw [← hcs0, List.length_mergeSort]
  have HCS := hid hcs0
  rw [hcs0] at HSO
  clear hcs0
  obtain ⟨cc0, hcc0⟩ : ∃ x, compactF none cs0 = x := ⟨_, rfl⟩
  have HCC := hid hcc0
  clear hcc0
  have HCL0 := hid hcs0l
  clear hcs0l
  go_upto_region 7 with (first
    | (go_at_call 42; refine HSO.out.mono ?_; rintro e w7 ⟨rfl, h7⟩; have HCO := hid (Compact_own h7 (i := 1) rfl); rw [HCC.out] at HCO; have hC10' := (h7.cell (i := 0) rfl 0 rfl).1; clear h7)
    | (go_at_call 43; refine HCO.out.mono ?_; rintro e w8 ⟨rfl, h8⟩; have hC10'' := h8.cell (i := 0) rfl 0 rfl; obtain ⟨hq1, hq2⟩ := hC10''; have HI8 := hid h8; clear h8))
  have h9 := HI8.out.set (i := 0) rfl 0 (.slice (some ⟨g, 0, none⟩) cc0.length c')
  generalize w8.setCell ⟨B10, 0, none⟩ (.slice (some ⟨g, 0, none⟩) cc0.length c') = w9 at *
  clear hq1 hq2 HI8 hC10 hC10' HSO HCO HI6
  have HI9 : Hid (Inv w NoM w9 ([blkP B10 26 [.slice (some ⟨g, 0, none⟩) cc0.length c'], rowP Kind.int 3 (.slice (some ⟨g, 0, none⟩) cc0.length c') cc0] ++ [blkP (w.heap.size + 1 + 1) 3 [.int .i64 L], blkP (w.heap.size + 1) 51 [.slice A2 tr.length c2], blkP w.heap.size 33 [.slice (some ⟨cb, co, none⟩) cls.length c1]])) := hid h9
  clear h9
  have hB3 := (HI9.out.cell (i := 4) rfl 0 rfl).1
  have hB4 := (HI9.out.cell (i := 3) rfl 0 rfl).1
  have hB9 := (HI9.out.cell (i := 2) rfl 0 rfl).1
  have HBK := hid (back_calls' (some ⟨cb, co, none⟩) A2 cls.length c1 tr.length c2 kn w9)
  refine wp_label ?_
  go_wp2_with (first
    | (go_at_call 44; refine HBK.out.mono ?_; rintro e w' ⟨rfl, rfl⟩))
  have h10 := ((HI9.out.boxc 33 [.slice (some ⟨cb, co, none⟩) cls.length c1]).boxc 51 [.slice A2 tr.length c2]).boxc 3 [.int .i64 kn]
  simp only [World.size_alloc] at h10
  generalize ((w9.alloc (.cells #[.slice (some ⟨cb, co, none⟩) cls.length c1] 33)).alloc (.cells #[.slice A2 tr.length c2] 51)).alloc (.cells #[.int .i64 kn] 3) = W at *
  generalize w9.heap.size = Bc at *
  clear hB3 hB4 hB9 HBK HI9
  have HROW1 : Hid (∀ W, Chg NoM w W → RowAt clK W (fun k => k < w.heap.size) (some ⟨cb, co, none⟩) cls) := hid (fun W hc => rowOld H1.out hc)
  have HROW2 : Hid (∀ W, Chg NoM w W → RowAt trK W (fun k => k < w.heap.size) A2 tr) := hid (fun W hc => rowOld H2.out hc)
  have HIT := hid (back_iter w.heap.size (Bc + 1) Bc (Bc + 1 + 1) (some ⟨cb, co, none⟩) A2 c1 c2 cls tr kn HKC.out hcl htl (fun c hc => ⟨(hgc c hc).1, fun x hx => good_bd ((hgc c hc).2 x hx)⟩) (fun t ht => (hgt t ht).1))
  have HGT := hid hgt
  have HGC := hid hgc
  have HFIN := hid hfin
  have HE1 := hid e1
  have HE2 := hid e2
  clear hgt hgc hfin e1 e2
  obtain ⟨cone, hcone⟩ : ∃ x, coneL cls tr tr.length (markL tr 0 c0 fun _ => 0) = x := ⟨_, rfl⟩
  have hlp := HLP.out
  rw [HCS.out, HCC.out, hcone] at hlp
  have hcm : ∀ y ∈ cone, 0 ≤ y ∧ y < tr.length := fun y hy => coneL_mem cls tr _ _ y (hcone ▸ hy)
  rw [hcone] at HIT
  have HCM := hid hcm
  clear hcm
  have HLP2 := hid hlp
  clear hcone hlp HLP
  have H10 := hid h10.noMarks
  clear h10
  refine (wpIn_wide (n := 0)).1 ?_
  apply wpIn_rangeE (T := NoM) (w0 := w) rfl (enters_of Try.func56 (by kernel_rfl) rfl) HIT.out (fun _ => rfl) (Ds := []) rfl
    (fun pre cs => ∃ g cap xs, cs = PL (Bc + 1 + 1) (Bc + 1) Bc B10 (w.heap.size + 1 + 1) (w.heap.size + 1) w.heap.size (some ⟨cb, co, none⟩) A2 cls.length c1 tr.length c2 kn L g cap xs ∧ ∀ rest, cone = pre ++ rest → loopL cls tr L rest xs = some cN)
    (fun c cs => c = .exit 0 ∧ ∃ g cap, cs = PL (Bc + 1 + 1) (Bc + 1) Bc B10 (w.heap.size + 1 + 1) (w.heap.size + 1) w.heap.size (some ⟨cb, co, none⟩) A2 cls.length c1 tr.length c2 kn L g cap cN) H10.out ⟨g, c', cc0, rfl, fun rest h => by rw [List.nil_append] at h; subst h; exact HLP2.out⟩
  case hassign =>
    intro l x W K hK
    rw [fold1]
    simp only [List.setIfInBounds_toArray, List.set_cons_succ, List.set_cons_zero]
    gi_wp2
    exact hK
  case hRO =>
    rintro pre cs W ⟨g1, cap1, xs, rfl, _⟩ hI
    exact ⟨hI.chg.size, (hI.cell (i := 1) rfl 0 rfl).1, HROW2.out W hI.chg, (hI.cell (i := 2) rfl 0 rfl).1, (hI.cell (i := 0) rfl 0 rfl).1, HROW1.out W hI.chg⟩
  case hbody =>
    rintro l D o ex pre x post cs W hx ⟨g1, cap1, xs, rfl, hlp⟩ hI
    obtain ⟨hx0, hx1⟩ := HCM.out x (by rw [hx]; simp)
    obtain ⟨xn, rfl⟩ := Int.eq_ofNat_of_zero_le hx0
    have hl := hlp ((xn : Int) :: post) hx
    have HX := hid hx
    clear hlp hx
    rw [loopL_cons] at hl
    split at hl
    case isFalse => cases hl
    rename_i hg1
    obtain ⟨hxl, hxg⟩ := hg1
    have hI2 : Inv w NoM W (objP l o :: marksP [D] :: (PL (Bc + 1 + 1) (Bc + 1) Bc B10 (w.heap.size + 1 + 1) (w.heap.size + 1) w.heap.size (some ⟨cb, co, none⟩) A2 cls.length c1 tr.length c2 kn L g1 cap1 xs ++ ex)) := hI
    have hc10 := (hI2.cell (i := 5) rfl 0 rfl).1
    have hc9 := (hI2.cell (i := 7) rfl 0 rfl).1
    have hc4 := (hI2.cell (i := 8) rfl 0 rfl).1
    have hc3 := (hI2.cell (i := 9) rfl 0 rfl).1
    obtain ⟨_, _, e1, hxc, _, hxr⟩ := hI2.rowShape (i := 6) rfl
    cases e1
    have HI := hid hI2
    have HXG := hid hxg
    have HXL := hid hxl
    have HATX := hid ((callsIn_wide (n := 0)).2 (at_calls (w := W) (cc := cap1) (c2 := c2) (lv := L) hxr (HROW2.out W hI.chg) (by unfold LIM at hxl; omega) (by unfold LIM at htl; omega) (fun x hx => good_bd (hxg x hx))))
    clear hI hI2 hxg
    by_cases hat : atL tr L xs = 1
    · rw [if_pos hat] at hl
      rw [hat] at HATX
      cases hl
      gi_wp2_with (refine ⟨trivial, rfl, ?_⟩; refine (CallsIn.inRound l HATX.out).mono ?_; rintro e w' ⟨rfl, h5⟩; have HI5 := hid (h5.inv HI.out); clear h5)
      exact ⟨_, ⟨rfl, g1, cap1, rfl⟩, HI5.out⟩
    · rw [if_neg hat, Int.toNat_natCast] at hl
      obtain ⟨av, hav⟩ : ∃ v, atL tr L xs = v := ⟨_, rfl⟩
      rw [hav] at hat HATX
      clear hav
      have hatb : (av == 1) = false := by simpa using hat
      clear hat
      obtain ⟨t, ht⟩ : ∃ t, tr[xn]? = some t := ⟨_, List.getElem?_eq_getElem (by omega)⟩
      rw [ht] at hl
      simp only at hl
      have HT := hid ht
      have hx1' : (xn : Int) < (tr.length : Int) := hx1
      obtain ⟨hrl, hlg⟩ := HGT.out t (List.mem_of_getElem? ht)
      have HLG := hid hlg
      have HRL := hid hrl
      clear ht hlg hrl
      obtain ⟨tb, tof, rfl, _⟩ := trAt (HROW2.out W HI.out.chg) HT.out
      have hnl : wrap64 (-t.lit) = -t.lit := IntWalk.wrap64_in _ (by obtain ⟨_, _, _⟩ := HLG.out; omega)
      have hcont : ∀ (W' : World), Inv w NoM W' (objP l o :: marksP [D] :: (PL (Bc + 1 + 1) (Bc + 1) Bc B10 (w.heap.size + 1 + 1) (w.heap.size + 1) w.heap.size (some ⟨cb, co, none⟩) (some ⟨tb, tof, none⟩) cls.length c1 tr.length c2 kn L g1 cap1 xs ++ ex)) → loopL cls tr L post xs = some cN →
          ∃ cs, (∃ g cap xs, cs = PL (Bc + 1 + 1) (Bc + 1) Bc B10 (w.heap.size + 1 + 1) (w.heap.size + 1) w.heap.size (some ⟨cb, co, none⟩) (some ⟨tb, tof, none⟩) cls.length c1 tr.length c2 kn L g cap xs ∧ ∀ rest, cone = pre ++ [(xn : Int)] ++ rest → loopL cls tr L rest xs = some cN) ∧ Inv w NoM W' ([objP l o, marksP [D]] ++ (cs ++ ex)) :=
        fun W' h h2 => ⟨_, ⟨g1, cap1, xs, rfl, fun rest hr => by
          rw [List.append_assoc, List.singleton_append] at hr
          have h4 := List.append_cancel_left (HX.out.symm.trans hr)
          injection h4 with _ h4
          rw [← h4]; exact h2⟩, h⟩
      have HCONT := hid hcont
      clear hcont
      by_cases hsk : t.level ≠ L ∨ -t.lit ∉ xs
      · rw [if_pos hsk] at hl
        have HL := hid hl
        clear hl
        by_cases hlv : t.level = L
        · have hni : -t.lit ∉ xs := by
            rcases hsk with h | h
            · exact absurd hlv h
            · exact h
          have hcn : xs.contains (-t.lit) = false := by simpa using hni
          have HCT := hid (fun W' (hW : Gro W W') => (callsIn_wide (n := 0)).2 (contains_calls (c := cap1) (hW.row hxr) HXL.out (-t.lit)))
          rw [hcn] at HCT
          have hlvb : (t.level != L) = false := by simpa using hlv
          clear hni hcn hsk hlv
          gi_wp2_with (first
            | (refine ⟨trivial, rfl, ?_⟩; refine (CallsIn.inRound l HATX.out).mono ?_; rintro e w' ⟨rfl, h5⟩; have HI5 := hid (h5.inv HI.out); have HG5 := hid h5; have hd0 := (HI5.out.cell (i := 5) rfl 0 rfl).1; have hd9 := (HI5.out.cell (i := 7) rfl 0 rfl).1; have hd4 := (HI5.out.cell (i := 8) rfl 0 rfl).1; have hlt0 := heap_lt (HI5.out.blk (i := 5) rfl); have hlt9 := heap_lt (HI5.out.blk (i := 7) rfl); have htt := trAt (HROW2.out _ HI5.out.chg) HT.out; obtain ⟨_, _, hA, ht0, ht1, ht2⟩ := htt; injection hA with hA; injection hA with hA1 hA2; subst hA1 hA2; clear h5)
            | (refine ⟨trivial, rfl, ?_⟩; refine (CallsIn.inRound l (HCT.out _ (HG5.out.alloc _))).mono ?_; rintro e w6 ⟨rfl, rfl⟩))
          exact HCONT.out _ (HI5.out.alloc _) HL.out
        · have hlvb : (t.level != L) = true := by simpa using hlv
          clear hsk hlv
          gi_wp2_with (first
            | (refine ⟨trivial, rfl, ?_⟩; refine (CallsIn.inRound l HATX.out).mono ?_; rintro e w' ⟨rfl, h5⟩; have HI5 := hid (h5.inv HI.out); have hd0 := (HI5.out.cell (i := 5) rfl 0 rfl).1; have hd9 := (HI5.out.cell (i := 7) rfl 0 rfl).1; have hd4 := (HI5.out.cell (i := 8) rfl 0 rfl).1; have hlt0 := heap_lt (HI5.out.blk (i := 5) rfl); have hlt9 := heap_lt (HI5.out.blk (i := 7) rfl); have htt := trAt (HROW2.out _ HI5.out.chg) HT.out; obtain ⟨_, _, hA, ht0, ht1, ht2⟩ := htt; injection hA with hA; injection hA with hA1 hA2; subst hA1 hA2; clear h5))
          refine ⟨trivial, ?_⟩
          gi_wp2
          exact HCONT.out _ (HI5.out.alloc _) HL.out
      · rw [if_neg hsk] at hl
        have hlv : t.level = L := Classical.byContradiction fun e => hsk (.inl e)
        have hin : -t.lit ∈ xs := Classical.byContradiction fun e => hsk (.inr e)
        split at hl
        case isFalse => cases hl
        rename_i hr0
        obtain ⟨rn, hrn⟩ := Int.eq_ofNat_of_zero_le hr0
        rw [hrn, Int.toNat_natCast] at hl
        cases hrc : cls[rn]? with
        | none => rw [hrc] at hl; cases hl
        | some rc =>
        rw [hrc] at hl
        simp only at hl
        cases hrs : resolveL xs rc (size t.lit) with
        | none => rw [hrs] at hl; cases hl
        | some c2' =>
        rw [hrs] at hl
        simp only at hl
        have HL := hid hl
        have hcn : xs.contains (-t.lit) = true := by simpa using hin
        have HCT := hid (fun W' (hW : Gro W W') => (callsIn_wide (n := 0)).2 (contains_calls (c := cap1) (hW.row hxr) HXL.out (-t.lit)))
        rw [hcn] at HCT
        have hlvb : (t.level != L) = false := by simpa using hlv
        have HRC := hid hrc
        have HRS := hid hrs
        have HRN := hid hrn
        have hrnl : (rn : Int) < (cls.length : Int) := by have := (List.getElem?_eq_some_iff.1 hrc).1; omega
        have HAB := hid (fun W' => (callsIn_wide (n := 0)).2 (labs_calls (good_bd HLG.out) W'))
        clear hl hcn hin hsk hlv hrc hrs hr0
        generalize hsz : size t.lit = sz at *
        clear hsz
        have hrow1 := HROW1.out W HI.out.chg
        obtain ⟨_, _, A4, c4, hA4, _, _, _⟩ := clAt hrow1 HRC.out
        clear hrow1 hA4
        gi_wp2_with (first
          | (refine ⟨trivial, rfl, ?_⟩; refine (CallsIn.inRound l HATX.out).mono ?_; rintro e w' ⟨rfl, h5⟩; have HI5 := hid (h5.inv HI.out); have HG5 := hid h5; have hd0 := (HI5.out.cell (i := 5) rfl 0 rfl).1; have hd9 := (HI5.out.cell (i := 7) rfl 0 rfl).1; have hd4 := (HI5.out.cell (i := 8) rfl 0 rfl).1; have hlt0 := heap_lt (HI5.out.blk (i := 5) rfl); have hlt9 := heap_lt (HI5.out.blk (i := 7) rfl); have htt := trAt (HROW2.out _ HI5.out.chg) HT.out; obtain ⟨_, _, hA, ht0, ht1, ht2⟩ := htt; injection hA with hA; injection hA with hA1 hA2; subst hA1 hA2; rw [HRN.out] at ht1; clear h5)
          | (refine ⟨trivial, rfl, ?_⟩; refine (CallsIn.inRound l (HCT.out _ (HG5.out.alloc _))).mono ?_; rintro e w6 ⟨rfl, rfl⟩))
        have h6 := HI5.out.boxc 70 [.int .i64 t.lit, .int .i64 rn, .int .i64 t.level]
        have hxr6 := ((HG5.out.alloc (.cells #[.int .i64 t.lit, .int .i64 rn, .int .i64 t.level] 70)).drew).row hxr
        generalize w'.alloc (.cells #[.int .i64 t.lit, .int .i64 rn, .int .i64 t.level] 70) = W6 at *
        generalize w'.heap.size = bx at *
        clear hd0 hd9 hd4 hlt0 hlt9 ht0 ht1 ht2 HI5 HG5 HATX HCT hc10 hc9 hc4 hc3
        have hd0 := (h6.cell (i := 6) rfl 0 rfl).1
        have hd0f := (h6.drew.cell (i := 6) rfl 0 rfl).2
        have hd3 := (h6.cell (i := 10) rfl 0 rfl).1
        have hx0 := (h6.cell (i := 0) rfl 0 rfl).1
        have hx1 := (h6.cell (i := 0) rfl 1 rfl).1
        have hlt0 := heap_lt (h6.blk (i := 6) rfl)
        obtain ⟨_, _, A5, c5, hA, hce5, _, hr5⟩ := clAt (HROW1.out W6 h6.chg) HRC.out
        injection hA with hA
        injection hA with hA1 hA2
        subst hA1 hA2
        have HCLT := hid (show cb < w.heap.size by obtain ⟨_, _, _, _, hA, hc, _⟩ := clAt H1.out HRC.out; injection hA with hA; injection hA with hA1 hA2; subst hA1 hA2; exact World.block_lt_of_cell? _ _ hc)
        have HRV := hid ((callsIn_wide (n := 0)).2 (Resolve_calls (c1 := cap1) (c2 := c5) HRS.out hxr6 (((Gro.refl W6).drew).row hr5)))
        have HI6 := hid h6.drew
        clear h6 hxr6 hr5 HI
        have hmo : Try.prog.follows .mixedOrders = true := by kernel_rfl
        refine wpInR_region_held (S := (fun W' : World => W'.cell? ⟨w.heap.size, 0, none⟩ = some (.slice (some ⟨cb, co, none⟩) cls.length c1) ∧ W'.cell? ⟨bx, 0, none⟩ = some (.int .i64 t.lit) ∧ W'.cell? ⟨bx, 1, none⟩ = some (.int .i64 rn) ∧ W'.cell? ⟨cb, co + rn, none⟩ = some (.slice A5 rc.length c5))) hmo (by kernel_rfl) (fun ⟨_, _, h⟩ => h) ?_ (fun hHeld => ?_)
        · exact ⟨hd3, hx0, hx1, hce5⟩
        refine takeH (i := 1) 76 (.slice (some ⟨cb, co, none⟩) cls.length c1) (by rw [List.getElem?_toArray]; rfl) rfl (by kernel_rfl) (by kernel_rfl) (by kernel_rfl) (fun _ _ _ h => h) (by rfl) ?_ hHeld ?_
        · intro w' hSw
          obtain ⟨s1, s2, s3, s4⟩ := hSw
          go_simp
        simp only [List.setIfInBounds_toArray, List.set_cons_zero, List.set_cons_succ]
        refine takeH (i := 2) 77 (.pointer (some ⟨bx, 1, none⟩)) (by rw [List.getElem?_toArray]; rfl) rfl (by kernel_rfl) (by kernel_rfl) (by kernel_rfl) (fun _ _ _ h => h) (by rfl) ?_ hHeld ?_
        · intro w' hSw
          obtain ⟨s1, s2, s3, s4⟩ := hSw
          go_simp
        simp only [List.setIfInBounds_toArray, List.set_cons_zero, List.set_cons_succ]
        refine takeH (i := 3) 78 (.int .i64 rn) (by rw [List.getElem?_toArray]; rfl) rfl (by kernel_rfl) (by kernel_rfl) (by kernel_rfl) (fun _ _ _ h => h) (by rfl) ?_ hHeld ?_
        · intro w' hSw
          obtain ⟨s1, s2, s3, s4⟩ := hSw
          go_simp
        simp only [List.setIfInBounds_toArray, List.set_cons_zero, List.set_cons_succ]
        refine takeH (i := 4) 79 (.pointer (some ⟨cb, co + rn, none⟩)) (by rw [List.getElem?_toArray]; rfl) rfl (by kernel_rfl) (by kernel_rfl) (by kernel_rfl) (fun _ _ _ h => h) (by rfl) ?_ hHeld ?_
        · intro w' hSw
          obtain ⟨s1, s2, s3, s4⟩ := hSw
          go_simp
        simp only [List.setIfInBounds_toArray, List.set_cons_zero, List.set_cons_succ]
        refine takeH (i := 5) 80 (.slice A5 rc.length c5) (by rw [List.getElem?_toArray]; rfl) rfl (by kernel_rfl) (by kernel_rfl) (by kernel_rfl) (fun _ _ _ h => h) (by rfl) ?_ hHeld ?_
        · intro w' hSw
          obtain ⟨s1, s2, s3, s4⟩ := hSw
          go_simp
        simp only [List.setIfInBounds_toArray, List.set_cons_zero, List.set_cons_succ]
        refine takeH (i := 6) 81 (.pointer (some ⟨bx, 0, none⟩)) (by rw [List.getElem?_toArray]; rfl) rfl (by kernel_rfl) (by kernel_rfl) (by kernel_rfl) (fun _ _ _ h => h) (by rfl) ?_ hHeld ?_
        · intro w' hSw
          obtain ⟨s1, s2, s3, s4⟩ := hSw
          go_simp
        simp only [List.setIfInBounds_toArray, List.set_cons_zero, List.set_cons_succ]
        refine takeH (i := 7) 82 (.int .i64 t.lit) (by rw [List.getElem?_toArray]; rfl) rfl (by kernel_rfl) (by kernel_rfl) (by kernel_rfl) (fun _ _ _ h => h) (by rfl) ?_ hHeld ?_
        · intro w' hSw
          obtain ⟨s1, s2, s3, s4⟩ := hSw
          go_simp
        simp only [List.setIfInBounds_toArray, List.set_cons_zero, List.set_cons_succ]
        refine bothH (i := 0) (j := 8) (some 75) (some 83) (by rw [List.getElem?_toArray]; rfl) rfl (by rw [List.getElem?_toArray]; rfl) rfl (by kernel_rfl) (by rfl) (by rfl) (fun K hK => ?_) (fun K hK => ?_)
        rotate_left
        · go_simp
          refine (callsIn_wide.1 (HAB.out _)).mono ?_
          rintro e w7 ⟨rfl, rfl⟩
          refine hK (.int .i64 sz) _ hHeld ?_
          clear hK K
          simp only [Act.put, List.setIfInBounds_toArray, List.set_cons_zero, List.set_cons_succ]
          refine callH (i := 0) (some 75) (by rw [List.getElem?_toArray]; rfl) rfl (by kernel_rfl) (by rfl) fun K hK => ?_
          go_simp
          refine hK (.slice (some ⟨g1, 0, none⟩) xs.length cap1) _ hHeld ?_
          clear hK K
          simp only [Act.put, List.setIfInBounds_toArray, List.set_cons_zero, List.set_cons_succ]
          refine callH (i := 9) (some 84) (by rw [List.getElem?_toArray]; rfl) rfl (by kernel_rfl) (by rfl) fun K hK => ?_
          go_simp
          refine (callsIn_wide.1 HRV.out).mono ?_
          rintro e w8 ⟨g2, cap2, rfl, h8⟩
          have hHeld2 : (fun W' : World => W'.cell? ⟨w.heap.size, 0, none⟩ = some (.slice (some ⟨cb, co, none⟩) cls.length c1) ∧ W'.cell? ⟨bx, 0, none⟩ = some (.int .i64 t.lit) ∧ W'.cell? ⟨bx, 1, none⟩ = some (.int .i64 rn) ∧ W'.cell? ⟨cb, co + rn, none⟩ = some (.slice A5 rc.length c5)) w8 := by
            obtain ⟨s3, s4, s5, s6⟩ := hHeld
            have hb := h8.belowOf
            exact ⟨(hb.cell (World.block_lt_of_cell? _ _ s3)).trans s3, (hb.cell (World.block_lt_of_cell? _ _ s4)).trans s4, (hb.cell (World.block_lt_of_cell? _ _ s5)).trans s5, (hb.cell (World.block_lt_of_cell? _ _ s6)).trans s6⟩
          have hd0 := (h8.belowOf.cell (p := ⟨B10, 0, none⟩) hlt0).trans hd0
          have hd0f := (h8.belowOf.frozen (p := ⟨B10, 0, none⟩) hlt0).trans hd0f
          refine hK (.tuple #[.slice (some ⟨g2, 0, none⟩) c2'.length cap2, .bool true]) _ hHeld2 ?_
          clear hK K hHeld
          have hHeld := hHeld2
          clear hHeld2
          simp only [Act.put, List.setIfInBounds_toArray, List.set_cons_zero, List.set_cons_succ]
          refine takeH (i := 10) 74 (.tuple #[.slice (some ⟨g2, 0, none⟩) c2'.length cap2, .bool true]) (by rw [List.getElem?_toArray]; rfl) rfl (by kernel_rfl) (by kernel_rfl) (by kernel_rfl) (fun _ _ _ h => h) (by rfl) ?_ hHeld ?_
          · intro w' hSw
            obtain ⟨s1, s2, s3, s4⟩ := hSw
            go_simp
          simp only [List.setIfInBounds_toArray, List.set_cons_zero, List.set_cons_succ]
          refine takeH (i := 11) 85 (.slice (some ⟨g2, 0, none⟩) c2'.length cap2) (by rw [List.getElem?_toArray]; rfl) rfl (by kernel_rfl) (by kernel_rfl) (by kernel_rfl) (fun _ _ _ h => h) (by rfl) ?_ hHeld ?_
          · intro w' hSw
            obtain ⟨s1, s2, s3, s4⟩ := hSw
            go_simp
          simp only [List.setIfInBounds_toArray, List.set_cons_zero, List.set_cons_succ]
          refine takeH (i := 12) 86 (.bool true) (by rw [List.getElem?_toArray]; rfl) rfl (by kernel_rfl) (by kernel_rfl) (by kernel_rfl) (fun _ _ _ h => h) (by rfl) ?_ hHeld ?_
          · intro w' hSw
            obtain ⟨s1, s2, s3, s4⟩ := hSw
            go_simp
          simp only [List.setIfInBounds_toArray, List.set_cons_zero, List.set_cons_succ]
          obtain ⟨s1, s2, s3, s4⟩ := hHeld
          have H9 := (HI6.out.join h8).set (i := 7) rfl 0 (.slice (some ⟨g2, 0, none⟩) c2'.length cap2)
          refine callH (i := 13) none (by rw [List.getElem?_toArray]; rfl) rfl (by kernel_rfl) (by rfl) fun K hK => ?_
          go_simp
          refine hK undef _ ⟨(H9.cell (i := 11) rfl 0 rfl).1, (H9.cell (i := 1) rfl 0 rfl).1, (H9.cell (i := 1) rfl 1 rfl).1, ((H9.belowOf.cell (p := ⟨cb, co + rn, none⟩) HCLT.out).trans (HI6.out.belowOf.cell (p := ⟨cb, co + rn, none⟩) HCLT.out).symm).trans hce5⟩ ?_
          clear hK K
          refine wpAnyH_done (by kernel_rfl) ?_ _
          gi_wp2
          refine ⟨_, ⟨g2, cap2, c2', rfl, fun rest hr => ?_⟩, swapIn (xs := [_, _, _, _, _, _]) (H9.perm (List.Perm.swap _ _ _)).tail⟩
          rw [List.append_assoc, List.singleton_append] at hr
          have h4 := List.append_cancel_left (HX.out.symm.trans hr)
          injection h4 with _ h4
          rw [← h4]
          exact HL.out
        · go_simp
          refine hK (.slice (some ⟨g1, 0, none⟩) xs.length cap1) _ hHeld ?_
          clear hK K
          simp only [Act.put, List.setIfInBounds_toArray, List.set_cons_zero, List.set_cons_succ]
          refine callH (i := 8) (some 83) (by rw [List.getElem?_toArray]; rfl) rfl (by kernel_rfl) (by rfl) fun K hK => ?_
          go_simp
          refine (callsIn_wide.1 (HAB.out _)).mono ?_
          rintro e w7 ⟨rfl, rfl⟩
          refine hK (.int .i64 sz) _ hHeld ?_
          clear hK K
          simp only [Act.put, List.setIfInBounds_toArray, List.set_cons_zero, List.set_cons_succ]
          refine callH (i := 9) (some 84) (by rw [List.getElem?_toArray]; rfl) rfl (by kernel_rfl) (by rfl) fun K hK => ?_
          go_simp
          refine (callsIn_wide.1 HRV.out).mono ?_
          rintro e w8 ⟨g2, cap2, rfl, h8⟩
          have hHeld2 : (fun W' : World => W'.cell? ⟨w.heap.size, 0, none⟩ = some (.slice (some ⟨cb, co, none⟩) cls.length c1) ∧ W'.cell? ⟨bx, 0, none⟩ = some (.int .i64 t.lit) ∧ W'.cell? ⟨bx, 1, none⟩ = some (.int .i64 rn) ∧ W'.cell? ⟨cb, co + rn, none⟩ = some (.slice A5 rc.length c5)) w8 := by
            obtain ⟨s3, s4, s5, s6⟩ := hHeld
            have hb := h8.belowOf
            exact ⟨(hb.cell (World.block_lt_of_cell? _ _ s3)).trans s3, (hb.cell (World.block_lt_of_cell? _ _ s4)).trans s4, (hb.cell (World.block_lt_of_cell? _ _ s5)).trans s5, (hb.cell (World.block_lt_of_cell? _ _ s6)).trans s6⟩
          have hd0 := (h8.belowOf.cell (p := ⟨B10, 0, none⟩) hlt0).trans hd0
          have hd0f := (h8.belowOf.frozen (p := ⟨B10, 0, none⟩) hlt0).trans hd0f
          refine hK (.tuple #[.slice (some ⟨g2, 0, none⟩) c2'.length cap2, .bool true]) _ hHeld2 ?_
          clear hK K hHeld
          have hHeld := hHeld2
          clear hHeld2
          simp only [Act.put, List.setIfInBounds_toArray, List.set_cons_zero, List.set_cons_succ]
          refine takeH (i := 10) 74 (.tuple #[.slice (some ⟨g2, 0, none⟩) c2'.length cap2, .bool true]) (by rw [List.getElem?_toArray]; rfl) rfl (by kernel_rfl) (by kernel_rfl) (by kernel_rfl) (fun _ _ _ h => h) (by rfl) ?_ hHeld ?_
          · intro w' hSw
            obtain ⟨s1, s2, s3, s4⟩ := hSw
            go_simp
          simp only [List.setIfInBounds_toArray, List.set_cons_zero, List.set_cons_succ]
          refine takeH (i := 11) 85 (.slice (some ⟨g2, 0, none⟩) c2'.length cap2) (by rw [List.getElem?_toArray]; rfl) rfl (by kernel_rfl) (by kernel_rfl) (by kernel_rfl) (fun _ _ _ h => h) (by rfl) ?_ hHeld ?_
          · intro w' hSw
            obtain ⟨s1, s2, s3, s4⟩ := hSw
            go_simp
          simp only [List.setIfInBounds_toArray, List.set_cons_zero, List.set_cons_succ]
          refine takeH (i := 12) 86 (.bool true) (by rw [List.getElem?_toArray]; rfl) rfl (by kernel_rfl) (by kernel_rfl) (by kernel_rfl) (fun _ _ _ h => h) (by rfl) ?_ hHeld ?_
          · intro w' hSw
            obtain ⟨s1, s2, s3, s4⟩ := hSw
            go_simp
          simp only [List.setIfInBounds_toArray, List.set_cons_zero, List.set_cons_succ]
          obtain ⟨s1, s2, s3, s4⟩ := hHeld
          have H9 := (HI6.out.join h8).set (i := 7) rfl 0 (.slice (some ⟨g2, 0, none⟩) c2'.length cap2)
          refine callH (i := 13) none (by rw [List.getElem?_toArray]; rfl) rfl (by kernel_rfl) (by rfl) fun K hK => ?_
          go_simp
          refine hK undef _ ⟨(H9.cell (i := 11) rfl 0 rfl).1, (H9.cell (i := 1) rfl 0 rfl).1, (H9.cell (i := 1) rfl 1 rfl).1, ((H9.belowOf.cell (p := ⟨cb, co + rn, none⟩) HCLT.out).trans (HI6.out.belowOf.cell (p := ⟨cb, co + rn, none⟩) HCLT.out).symm).trans hce5⟩ ?_
          clear hK K
          refine wpAnyH_done (by kernel_rfl) ?_ _
          gi_wp2
          refine ⟨_, ⟨g2, cap2, c2', rfl, fun rest hr => ?_⟩, swapIn (xs := [_, _, _, _, _, _]) (H9.perm (List.Perm.swap _ _ _)).tail⟩
          rw [List.append_assoc, List.singleton_append] at hr
          have h4 := List.append_cancel_left (HX.out.symm.trans hr)
          injection h4 with _ h4
          rw [← h4]
          exact HL.out
  case' hdone =>
    rintro D cs W ⟨g1, cap1, xs, rfl, hl⟩ hI
    have hl := hl [] (by simp)
    have hxN : xs = cN := Option.some.inj hl
    rw [hxN] at hI
    clear hxN hl
    gi_wp2
  case' hstop =>
    rintro D c cs W ⟨rfl, g1, cap1, rfl⟩ hI
    gi_wp2
  all_goals
    obtain ⟨hf1, hf2, hf3, hf4⟩ := HFIN.out
    have hd10 := (hI.cell (i := 4) rfl 0 rfl).1
    have HSO := hid (SortFunc_own (gf := 49) (cb := #[.pointer (some ⟨w.heap.size + 1, 0, none⟩)]) (enters_of Try.func49 (by kernel_rfl) rfl) (cmpP tr) (totP tr) (trP tr) (antiP fun x hx => (hf2 x hx).1) (fun x hx => good_bd (hf2 x hx).2) hI (i := 5) rfl (by unfold LIM at *; omega)
      (fun ys W5 hW x y hx hy => learn1_calls (c := c2) hx hy (by unfold LIM at htl; omega) (hW.cell (i := 7) rfl 0 rfl).1 (HROW2.out W5 hW.chg)))
    have hne : 0 < (cN.mergeSort (leOf (cmpP tr))).length := by rw [List.length_mergeSort]; exact List.length_pos_iff.2 hf1
    have hyl : (cN.mergeSort (leOf (cmpP tr))).length = cN.length := List.length_mergeSort ..
    have hyF : ∀ x ∈ cN.mergeSort (leOf (cmpP tr)), isF tr x = true ∧ goodI x := fun x hx => hf2 x (List.mem_mergeSort.1 hx)
    have e2 := HE2.out
    rw [HE1.out] at HSO hne e2 hyl hyF
    obtain ⟨nc, hnc⟩ : ∃ nc, c.length = nc + 1 := ⟨c.length - 1, by omega⟩
    have hcl2 : c.length ≤ LIM := by omega
    rw [← hyl, hnc] at HSO hd10
    go_upto_region 15 with (go_at_call 48; refine HSO.out.mono ?_; rintro e w5 ⟨rfl, h5⟩; have HI5 := hid h5; clear h5)
    have hd10' := (HI5.out.cell (i := 4) rfl 0 rfl).1
    have hcap := (own_len HI5.out (i := 5) rfl).2.1
    rw [hnc] at hcap
    rw [← hyl, hnc] at hd10'
    have hx : nc + 1 = cN.length := by omega
    have HI6 : Hid (Inv w NoM w5 (marksP [D] :: PL (Bc + 1 + 1) (Bc + 1) Bc B10 (w.heap.size + 1 + 1) (w.heap.size + 1) w.heap.size (some ⟨cb, co, none⟩) A2 cls.length c1 tr.length c2 kn L g1 cap1 c)) := hid (by
      have h := HI5.out
      simp only [PL, List.set_cons_succ, List.set_cons_zero] at h ⊢
      rw [hx] at h
      rw [hyl]
      exact h)
    clear hd10 HSO hI hne HI5 hx
    have hnb : nc ≤ 9223372036854775806 := by unfold LIM at hcl2; omega
    have hl0 : (1 : Int) ≤ ((nc + 1 : Nat) : Int) := by omega
    have hl1 : ((nc + 1 : Nat) : Int) ≤ (cap1 : Int) := by omega
    go_wp2
  all_goals
    go_loopg [13, 93] nc (fun kq v13 v93 wr => ∃ (k : Nat), v93 = .int .i64 k ∧ k ≤ nc ∧ v13 = .int .i64 (toL tr (c.tail.take k) 0) ∧ Hid (kq + k = nc) ∧ Hid (Inv w NoM wr (marksP [D] :: PL (Bc + 1 + 1) (Bc + 1) Bc B10 (w.heap.size + 1 + 1) (w.heap.size + 1) w.heap.size (some ⟨cb, co, none⟩) A2 cls.length c1 tr.length c2 kn L g1 cap1 c)))
    case' atStart => exact ⟨0, rfl, by omega, rfl, hid (by omega), HI6⟩
    case' round =>
      obtain ⟨k, rfl, hk, rfl, HK, HI⟩ := hrel
      by_cases hlt : k < nc
      case' pos =>
        try (exfalso; omega)
        all_goals
          have hlt' : (k : Int) < (nc : Int) := by omega
          obtain ⟨x, hx, hxc, _⟩ := HI.out.cellRowE (i := 5) rfl (k + 1) (by omega)
          have hxc' : wr.cell? ⟨g1, 1 + k, none⟩ = some (.int .i64 x) := by rw [Nat.add_comm]; exact hxc
          have hxm := List.mem_of_getElem? hx
          have hxb := good_bd (hyF x hxm).2
          obtain ⟨j, t, hj, htj, _, hlev⟩ := fAt_some (hyF x hxm).1
          have HF := hid (falseAt_calls (w := wr) (c := c2) hxb.1 hxb.2 (HROW2.out wr HI.out.chg) (by unfold LIM at htl; omega))
          have hmx : max (fAt tr x) 0 = j := by omega
          rw [hmx] at HF
          generalize decide (0 ≤ fAt tr x) = dd at *
          obtain ⟨b2, o2, rfl, _⟩ := trAt (HROW2.out wr HI.out.chg) htj
          have hjl : (j : Int) < (tr.length : Int) := by have := (List.getElem?_eq_some_iff.1 htj).1; omega
          have HTR := hid (fun W (hW : Chg NoM w W) => trAt (HROW2.out W hW) htj)
          have hb4 := (HI.out.cell (i := 7) rfl 0 rfl).1
          have hts : c.tail.take (k + 1) = c.tail.take k ++ [x] := by rw [List.take_add_one, List.getElem?_tail, hx]; rfl
          have hsn : toL tr (c.tail.take (k + 1)) 0 = max (toL tr (c.tail.take k) 0) t.level := by rw [hts, toL_app, hlev]
          have HS := hid hsn
          clear hsn hts hxm hxb hj htj hlev hmx hx hxc
          generalize toL tr (c.tail.take k) 0 = m at *
          generalize t.level = tl at *
          go_wp2_with (go_at_call 50; refine HF.out.mono ?_; rintro e w' ⟨rfl, h1⟩; obtain ⟨_, _, hA, _, _, hcl⟩ := HTR.out _ (h1.inv HI.out).chg; injection hA with hA; injection hA with hA1 hA2; subst hA1 hA2; have HI' := hid (h1.inv HI.out); have hb4' := (HI'.out.cell (i := 7) rfl 0 rfl).1; clear h1)
          go_roundg (gk - 1)
          case measure => have := HK.out; omega
          case rel => exact ⟨k + 1, by go_num, by omega, by rw [HS.out], hid (by have := HK.out; omega), HI'⟩
      case' neg =>
        obtain rfl : k = nc := by omega
        have hb10 := (HI.out.cell (i := 4) rfl 0 rfl).1
        have hHI := HI.out
        have htk : toL tr (c.tail.take k) 0 = lv := by rw [List.take_of_length_le (by rw [List.length_tail]; omega)]; exact e2
        rw [htk]
        go_wp2
        show bodyPostM _ _ _ _ _ .ret _ _
        refine leaves_marks [D] wr hHI (fun W hW => ⟨_, results_tmp3 rfl _ _ _, some ⟨g1, 0, none⟩, cap1, (by first | (rw [hyl]; rfl) | (rw [hyl, ‹cap1 = 1›]; rfl)), ?_⟩)
        have hW' : Inv w NoM W [rowP Kind.int 3 (.slice (some ⟨g1, 0, none⟩) c.length cap1) c] := (hW.perm ((List.perm_middle (l₁ := [_, _, _, _])))).init (more := [_, _, _, _, _, _, _])
        exact hW'.weaken (i := 0) rfl (fun S hS => Owned.rd hS)
end Go.Proofs.Ytcglokippflioaa

/-! Solve. -/
namespace Go.Proofs.Ytcglokippflioaa
open Go Go.RowKit YLib
theorem _root_.Go.Proofs.Ytcglokippflioaa.YLib.Inv.drop2 {T : Nat → Prop} {w0 w : World} {cs : List HP} {c d : HP} (h : Inv w0 T w (c :: d :: cs)) : Inv w0 T w (c :: cs) := (h.perm (List.Perm.swap d c _)).tail
set_option maxRecDepth 100000 in
set_option maxHeartbeats 1000000 in
theorem wrong_calls {w : World} {S : Nat → Prop} {Ac Ao : Option Addr} {cc co : Nat} {vars : Int} {fcl : List Cl} {order : List Int} {budget : Int} (hb : 0 ≤ budget) (hf : fitF vars fcl order) (hc : RowAt cK w S Ac fcl) (ho : RowAt Kind.int w S Ao order) (hl : ∀ c ∈ fcl, c.lits.length ≤ LIM) (hol : order.length ≤ LIM) :
    Calls Try.prog 17 #[.agg #[.int .i64 vars, .slice Ac fcl.length cc, .slice Ao order.length co], .int .i64 budget] w fun e w' => e = .returned (.int .i64 0) ∧ Inv w NoM w' [] := by
  have HI0 := hid ((Inv.start0 w).alloc (.cells #[.int .i64 vars, .slice Ac fcl.length cc, .slice Ao order.length co] 28))
  have HF := hid (Fit_calls (w := w.alloc (.cells #[.int .i64 vars, .slice Ac fcl.length cc, .slice Ao order.length co] 28)) (cc := cc) (co := co) hf ((hc.chg ((Chg.refl NoM w).alloc _) (fun _ _ => id))) ((ho.chg ((Chg.refl NoM w).alloc _) (fun _ _ => id))) hl hol)
  clear hf hc ho hl hol
  go_enter Try.func17, Try.ntmps17
  go_wp2_with (first | (go_at_call 22; refine HF.out.mono ?_; rintro e w' ⟨rfl, h1⟩; have H1 := hid h1; clear h1))
  go_ret
  exact ⟨rfl, HI0.out.join H1.out⟩
set_option maxRecDepth 100000 in
set_option maxHeartbeats 4000000 in
theorem Solve_calls {LF : List (List Int) → List Tr → Int → Option (List Int × Int × Bool)} (hLF : LearnOK LF) {w : World} {S : Nat → Prop} {Ac Ao : Option Addr} {cc co : Nat} {vars : Int} {fcl : List Cl} {order : List Int} {budget : Int} (hb : 0 ≤ budget) (hf : fitF vars fcl order) (hc : RowAt cK w S Ac fcl) (ho : RowAt Kind.int w S Ao order) (hl : ∀ c ∈ fcl, c.lits.length ≤ LIM) (hol : order.length ≤ LIM)
    {fuel : Nat} {r : Int} {s' : St} (hr : runL LF budget fuel 0 0 0 (begSt vars order fcl fcl.length) = some (r, s')) (hlen : r = 1 → s'.val.length = vars.toNat + 1) :
    Calls Try.prog 11 #[.agg #[.int .i64 vars, .slice Ac fcl.length cc, .slice Ao order.length co], .int .i64 budget] w fun e w' => ∃ vm vg, e = .returned (.tuple #[.agg #[.int .i64 r, vm, vg, .int .i64 s'.steps], .int .i64 0]) ∧
      Inv w NoM w' [rowP Kind.int 3 vm (if r = 1 then s'.val.tail else []), rowP clK 26 vg s'.log] := by
  have hf' := hf
  obtain ⟨hv0, hv1, hn, _⟩ := hf'
  have hB := hid (fun (w1 : World) (hi : Chg NoM w w1) => begin_calls (w := w1) (S := S) (Ao := Ao) (cc := cc) (co := co) (order := order) hv0 (by unfold LIM; omega) (hc.chg hi (fun _ _ => id)) (by unfold LIM; omega) hl)
  have hord : RowAt Kind.int w (fun k => ¬ NoM k) Ao order := ho.mono (fun _ _ h => h)
  have hW := hid (fun (w1 : World) (hi : Chg NoM w w1) => wrong_calls (w := w1) (cc := cc) (co := co) hb hf (hc.chg hi (fun _ _ => id)) (ho.chg hi (fun _ _ => id)) hl hol)
  have HR := hid hr
  have HO := hid hord
  have HLN := hid hlen
  have h0 := (((Inv.start0 w).boxc 28 [.int .i64 vars, .slice Ac fcl.length cc, .slice Ao order.length co]).boxc 35 [.int .i64 0, .slice none 0 0, .slice none 0 0, .int .i64 0])
  simp only [World.size_alloc] at h0
  have H0 := hid h0
  clear h0
  clear hr hord hlen hc ho hl hf
  go_enter Try.func11, Try.ntmps11
  go_upto_region 6 with (first
    | (go_at_call 17; refine (hW.out _ H0.out.chg).mono ?_; rintro e w1 ⟨rfl, h1⟩; have H1 := hid (H0.out.join h1); have hF1 := (H1.out.cell (i := 1) rfl 0 rfl).1; have hF2 := (H1.out.cell (i := 1) rfl 1 rfl).1; have hF3 := (H1.out.cell (i := 1) rfl 2 rfl).1; clear h1)
    | (go_at_call 18; refine (hB.out _ H1.out.chg).mono ?_; rintro e w2 ⟨b, vc, vv, vt, vl, m, rfl, h2⟩; have H2 := hid (H1.out.join h2); have HRN := hid (run_calls (w0 := w) (T := NoM) hLF (s := begSt vars order fcl fcl.length) H2.out HO.out budget HR.out); clear h2)
    | (go_at_call 19; refine HRN.out.mono ?_; rintro e w3 ⟨rfl, vc3, vt3, vl3, h3⟩; have H3 := hid h3; clear h3))
  obtain ⟨Al, cl, el, _, hl63, _⟩ := H3.out.rowShape (i := 4) rfl
  subst el
  have hc7 := (H3.out.cell (i := 0) rfl 7 rfl).1
  have hc8 := (H3.out.cell (i := 0) rfl 8 rfl).1
  have hlt : b < w3.heap.size := by obtain ⟨S, hS, _⟩ := H3.out.get (i := 0) rfl; exact heap_lt hS.1
  go_cut [9] (fun v9 wx => ∃ g, v9 = .pointer (some ⟨g, 0, none⟩) ∧ Hid (YLib.Inv w NoM wx (blkP g 35 [.int .i64 r, .slice none 0 0, .slice Al s'.log.length cl, .int .i64 s'.steps] :: (sP b (.slice Ac fcl.length cc) (.slice Ao order.length co) vc3 vv vt3 (.slice Al s'.log.length cl) m s' ++ [blkP (w.heap.size + 1) 35 [.int .i64 0, .slice none 0 0, .slice none 0 0, .int .i64 0], blkP w.heap.size 28 [.int .i64 vars, .slice Ac fcl.length cc, .slice Ao order.length co]]))))
  case first =>
    go_region
    all_goals
      go_wp2_with (fail)
      go_meet
      case rel => exact ⟨_, rfl, hid (H3.out.boxc 35 [.int .i64 r, .slice none 0 0, .slice Al s'.log.length cl, .int .i64 s'.steps]).drew⟩
  case rest =>
    obtain ⟨g, rfl, H4⟩ := hcut
    clear hc7 hc8 hlt HR HO H0 hB hW H3
    have hg0 := (H4.out.cell (i := 0) rfl 0 rfl).1
    have hg1 := (H4.out.cell (i := 0) rfl 1 rfl).1
    have hg2 := (H4.out.cell (i := 0) rfl 2 rfl).1
    have hg3 := (H4.out.cell (i := 0) rfl 3 rfl).1
    have hg1f := (H4.out.cell (i := 0) rfl 1 rfl).2
    have hR0 := H4.out.cell (i := 7) rfl 0 rfl
    have hR1 := H4.out.cell (i := 7) rfl 1 rfl
    have hR2 := H4.out.cell (i := 7) rfl 2 rfl
    have hR3 := H4.out.cell (i := 7) rfl 3 rfl
    by_cases hr1 : r = 1
    · subst hr1
      have hle := HLN.out rfl
      obtain ⟨gv, cv, evv, hv63⟩ := H4.out.rowForm (i := 2) rfl (by omega)
      subst evv
      obtain ⟨nv, hnv⟩ : ∃ nv : Nat, s'.val.length = nv + 1 := ⟨_, hle⟩
      have hnv2 : nv ≤ 4096 := by omega
      obtain ⟨_, _, e5, hlec, _, hr5⟩ := H4.out.rowShape (i := 2) rfl
      cases e5
      have hc5 := (H4.out.cell (i := 1) rfl 5 rfl).1
      rw [hnv] at hc5
      have hlt : b < wc.heap.size := by obtain ⟨S, hS, _⟩ := H4.out.get (i := 1) rfl; exact heap_lt hS.1
      have hlt2 : g < wc.heap.size := by obtain ⟨S, hS, _⟩ := H4.out.get (i := 0) rfl; exact heap_lt hS.1
      have hlv2 : nv + 1 ≤ cv := by omega
      have h5 := H4.out.made (enc := Value.int .i64) (h1 := fun _ => rfl) 3 0 0 (by omega)
      rw [show madeCells #[Value.int .i64 0] 0 = #[] from by simp [madeCells]] at h5
      have H5 := hid h5
      clear h5
      have hnews : ∀ (j : Nat) u, (s'.val.tail.map (Value.int .i64))[j]? = some u → (wc.alloc (.cells #[] 3)).cell? ((⟨gv, 1, none⟩ : Addr).add j) = some u := by
        intro j u hu
        rw [List.getElem?_map] at hu
        obtain ⟨x, hx, rfl⟩ := Option.map_eq_some_iff.1 hu
        rw [List.getElem?_tail] at hx
        obtain ⟨_, _, hA, hc⟩ := intAt hr5 hx
        injection hA with hA
        injection hA with hA1 hA2
        subst hA1 hA2
        have hc' := ((Below.refl _ wc).alloc (Nat.le_refl _) (.cells #[] 3)).cell (p := ⟨gv, 0 + (j + 1), none⟩) (World.block_lt_of_cell? wc _ hc)
        have := hc'.trans hc
        rw [Nat.zero_add, Nat.add_comm] at this
        rw [add_addr']
        exact this
      have HNW := hid hnews
      clear hnews hle hv63 hr5
      rcases Nat.eq_zero_or_pos nv with hz | hz
      · subst hz
        clear hg2 hg3 hR0 hR1 hR2 hR3
        by_cases hcv1 : cv = 1
        all_goals
          go_upto_region 9 with (fail)
          have h7 := H5.out.set (i := 1) rfl 1 (.slice (some ⟨wc.heap.size, 0, none⟩) 0 0)
          rw [World.setCell_alloc_past _ _ _ _ hlt2] at h7
          generalize (wc.setCell ⟨g, 1, none⟩ (.slice (some ⟨wc.heap.size, 0, none⟩) 0 0)).alloc (.cells #[] 3) = w7 at *
          clear H5 H4 HNW hc5 hlt hlt2 hg0 hg1 hg1f
          have hg0 := (h7.cell (i := 1) rfl 0 rfl).1
          have hg1 := (h7.cell (i := 1) rfl 1 rfl).1
          have hg2 := (h7.cell (i := 1) rfl 2 rfl).1
          have hg3 := (h7.cell (i := 1) rfl 3 rfl).1
          have hR0 := h7.cell (i := 8) rfl 0 rfl
          have hR1 := h7.cell (i := 8) rfl 1 rfl
          have hR2 := h7.cell (i := 8) rfl 2 rfl
          have hR3 := h7.cell (i := 8) rfl 3 rfl
          have H7 := hid h7
          clear h7
          go_wp2
          have h9 := (((H7.out.set (i := 8) rfl 0 (.int .i64 1)).set (i := 8) rfl 1 (.slice (some ⟨wc.heap.size, 0, none⟩) 0 0)).set (i := 8) rfl 2 (.slice Al s'.log.length cl)).set (i := 8) rfl 3 (.int .i64 s'.steps)
          generalize (((w7.setCell ⟨w.heap.size + 1, 0, none⟩ (.int .i64 1)).setCell ⟨w.heap.size + 1, 1, none⟩ (.slice (some ⟨wc.heap.size, 0, none⟩) 0 0)).setCell ⟨w.heap.size + 1, 2, none⟩ (.slice Al s'.log.length cl)).setCell ⟨w.heap.size + 1, 3, none⟩ (.int .i64 s'.steps) = w9 at *
          have e0 := (h9.cell (i := 8) rfl 0 rfl).1
          have e1 := (h9.cell (i := 8) rfl 1 rfl).1
          have e2 := (h9.cell (i := 8) rfl 2 rfl).1
          have e3 := (h9.cell (i := 8) rfl 3 rfl).1
          refine bodyPost_ret_by (v := .tuple #[.agg #[.int .i64 1, .slice (some ⟨wc.heap.size, 0, none⟩) 0 0, .slice Al s'.log.length cl, .int .i64 s'.steps], .int .i64 0]) ?_ rfl ⟨_, _, rfl, ?_⟩
          · rw [results_cell_tmp rfl]
            go_simp
          · have hd := h9.drop2.drop2.drop2.drop2.drop2.init (cs := [_, _])
            have ht : s'.val.tail = [] := List.eq_nil_of_length_eq_zero (by rw [List.length_tail]; omega)
            rw [ht]
            exact hd
      · have hcv1 : cv ≠ 1 := by omega
        clear hg2 hg3 hR0 hR1 hR2 hR3
        go_upto_region 9 with (at_builtin; refine wpList_of_wp rfl fun K hK => ?_; go_loud (refine wp_append_inv (d := Kind.int) _ _ 26 rfl Try.underlying26 infoInt rfl (by decide) 0 (.slice (some ⟨wc.heap.size, 0, none⟩) 0 0) [] s'.val.tail H5.out rfl rfl ⟨gv, 1, none⟩ nv (cv - 1) rfl (s'.val.tail.map (Value.int .i64)) (by rw [List.length_tail]; omega) HNW.out (reps_enc _) hz (by simp; omega) (by simp; omega) ?_); intro g1 cap1 w6 h6; obtain ⟨hc1, hc2⟩ := h6.cell (i := 1) rfl 1 rfl; have H6 := hid h6; clear h6; refine hK _ _ ?_; clear hK K)
        have h7 := H6.out.set (i := 1) rfl 1 (.slice (some ⟨g1, 0, none⟩) nv cap1)
        generalize w6.setCell ⟨g, 1, none⟩ (.slice (some ⟨g1, 0, none⟩) nv cap1) = w7 at *
        clear hc1 hc2 H6 H5 H4 HNW hc5 hlt hlt2 hg0 hg1 hg1f
        have hg0 := (h7.cell (i := 1) rfl 0 rfl).1
        have hg1 := (h7.cell (i := 1) rfl 1 rfl).1
        have hg2 := (h7.cell (i := 1) rfl 2 rfl).1
        have hg3 := (h7.cell (i := 1) rfl 3 rfl).1
        have hR0 := h7.cell (i := 8) rfl 0 rfl
        have hR1 := h7.cell (i := 8) rfl 1 rfl
        have hR2 := h7.cell (i := 8) rfl 2 rfl
        have hR3 := h7.cell (i := 8) rfl 3 rfl
        have H7 := hid h7
        clear h7
        go_wp2
        have h9 := (((H7.out.set (i := 8) rfl 0 (.int .i64 1)).set (i := 8) rfl 1 (.slice (some ⟨g1, 0, none⟩) nv cap1)).set (i := 8) rfl 2 (.slice Al s'.log.length cl)).set (i := 8) rfl 3 (.int .i64 s'.steps)
        generalize (((w7.setCell ⟨w.heap.size + 1, 0, none⟩ (.int .i64 1)).setCell ⟨w.heap.size + 1, 1, none⟩ (.slice (some ⟨g1, 0, none⟩) nv cap1)).setCell ⟨w.heap.size + 1, 2, none⟩ (.slice Al s'.log.length cl)).setCell ⟨w.heap.size + 1, 3, none⟩ (.int .i64 s'.steps) = w9 at *
        have e0 := (h9.cell (i := 8) rfl 0 rfl).1
        have e1 := (h9.cell (i := 8) rfl 1 rfl).1
        have e2 := (h9.cell (i := 8) rfl 2 rfl).1
        have e3 := (h9.cell (i := 8) rfl 3 rfl).1
        refine bodyPost_ret_by (v := .tuple #[.agg #[.int .i64 1, .slice (some ⟨g1, 0, none⟩) nv cap1, .slice Al s'.log.length cl, .int .i64 s'.steps], .int .i64 0]) ?_ rfl ⟨_, _, rfl, ?_⟩
        · rw [results_cell_tmp rfl]
          go_simp
        · have hd := h9.drop2.drop2.drop2.drop2.drop2.init (cs := [_, _])
          simpa using hd
    · have hrb : (r == 1) = false := by simpa using hr1
      go_wp2
      have h9 := (((H4.out.set (i := 7) rfl 0 (.int .i64 r)).set (i := 7) rfl 1 (.slice none 0 0)).set (i := 7) rfl 2 (.slice Al s'.log.length cl)).set (i := 7) rfl 3 (.int .i64 s'.steps)
      generalize (((wc.setCell ⟨w.heap.size + 1, 0, none⟩ (.int .i64 r)).setCell ⟨w.heap.size + 1, 1, none⟩ (.slice none 0 0)).setCell ⟨w.heap.size + 1, 2, none⟩ (.slice Al s'.log.length cl)).setCell ⟨w.heap.size + 1, 3, none⟩ (.int .i64 s'.steps) = w9 at *
      have e0 := (h9.cell (i := 7) rfl 0 rfl).1
      have e1 := (h9.cell (i := 7) rfl 1 rfl).1
      have e2 := (h9.cell (i := 7) rfl 2 rfl).1
      have e3 := (h9.cell (i := 7) rfl 3 rfl).1
      refine bodyPost_ret_by (v := .tuple #[.agg #[.int .i64 r, .slice none 0 0, .slice Al s'.log.length cl, .int .i64 s'.steps], .int .i64 0]) ?_ rfl ⟨_, _, rfl, ?_⟩
      · rw [results_cell_tmp rfl]
        go_simp
      · exact (h9.tail.tail.tail.tail.tail.init (cs := [_])).nilRow Kind.int 3
end Go.Proofs.Ytcglokippflioaa

/-! Solve, of a fit formula of at most fourteen variables. -/
namespace Go.Proofs.Ytcglokippflioaa
open Go Go.RowKit YLib
theorem fit_lens {nv : Nat} {fcl : List Cl} {order : List Int} (hf : fitF nv fcl order) : (∀ c ∈ fcl, c.lits.length ≤ LIM) ∧ order.length ≤ LIM := by
  obtain ⟨h0, h1, _, h2, h3, h4⟩ := hf
  constructor
  · intro c hc
    have := fitC_len (h2 c hc) h0
    unfold LIM
    omega
  · have := nodup_len h0 h3 h4
    unfold LIM
    omega
theorem SolveA_calls {w : World} {S : Nat → Prop} {Ac Ao : Option Addr} {cc co : Nat} {nv : Nat} {fcl : List Cl} {order : List Int} (hf : fitF nv fcl order) (h14 : nv ≤ 14) (hc : RowAt cK w S Ac fcl) (ho : RowAt Kind.int w S Ao order) :
    Calls Try.prog 11 #[.agg #[.int .i64 nv, .slice Ac fcl.length cc, .slice Ao order.length co], .int .i64 1125899906842624] w fun e w' => ∃ (r : Int) (m : List Int) (lg : List (List Int)) (vm vg : Value) (st : Int), e = .returned (.tuple #[.agg #[.int .i64 r, vm, vg, .int .i64 st], .int .i64 0]) ∧
      Answer nv order (fcl.map Cl.lits) r m ∧ Inv w NoM w' [rowP Kind.int 3 vm m, rowP clK 26 vg lg] := by
  obtain ⟨hl, hol⟩ := fit_lens hf
  obtain ⟨fuel, r, s', hr, hlen, hA, _⟩ := solve_answer hf h14 (budget := 1125899906842624) (by omega)
  refine (Solve_calls (vars := (nv : Int)) Learn_calls (by omega) hf hc ho hl hol hr (fun e => by rw [hlen e]; omega)).mono ?_
  rintro e w' ⟨vm, vg, rfl, h⟩
  exact ⟨r, _, _, vm, vg, _, rfl, hA, h⟩
end Go.Proofs.Ytcglokippflioaa

/-! Clauses as they stand in memory. -/
namespace Go.Proofs.Ytcglokippflioaa
open Go Go.RowKit YLib
structure Raw where
  A : Option Addr
  n : Nat
  c : Nat
  tag : Int
def rawK : Kind Raw where
  sz := 2
  rd := fun _ _ cs x => cs = [.slice x.A x.n x.c, .int .i64 x.tag]
  len := fun h => by rw [h]; rfl
  one := fun h u hu => by
    rw [h] at hu
    rcases List.mem_cons.1 hu with rfl | hu
    · rfl
    · rw [List.mem_singleton.1 hu]; rfl
  mono := fun _ h => h
  move := fun _ h => h
/-- The literals' rows. -/
def litsAt (w : World) (S : Nat → Prop) : List Raw → List Cl → Prop
  | [], [] => True
  | r :: rs, x :: xs => (r.n = x.lits.length ∧ r.tag = x.tag ∧ x.lits.length ≤ r.c ∧ RowAt Kind.int w S r.A x.lits) ∧ litsAt w S rs xs
  | _, _ => False
theorem litsAt.len {w : World} {S : Nat → Prop} : ∀ {rs : List Raw} {xs : List Cl}, litsAt w S rs xs → rs.length = xs.length
  | [], [], _ => rfl
  | _ :: rs, _ :: xs, h => by rw [List.length_cons, List.length_cons, litsAt.len h.2]
  | [], _ :: _, h => h.elim
  | _ :: _, [], h => h.elim
theorem litsAt.mono {w : World} {S S' : Nat → Prop} (hS : ∀ k, S k → S' k) : ∀ {rs : List Raw} {xs : List Cl}, litsAt w S rs xs → litsAt w S' rs xs
  | [], [], _ => trivial
  | _ :: _, _ :: _, h => ⟨⟨h.1.1, h.1.2.1, h.1.2.2.1, h.1.2.2.2.mono hS⟩, litsAt.mono hS h.2⟩
  | [], _ :: _, h => h.elim
  | _ :: _, [], h => h.elim
theorem litsAt.move {w w' : World} {S : Nat → Prop} (hm : ∀ k, S k → k < w.heap.size → w'.heap[k]? = w.heap[k]?) : ∀ {rs : List Raw} {xs : List Cl}, litsAt w S rs xs → litsAt w' (fun k => S k ∧ k < w.heap.size) rs xs
  | [], [], _ => trivial
  | _ :: _, _ :: _, h => ⟨⟨h.1.1, h.1.2.1, h.1.2.2.1, h.1.2.2.2.move hm⟩, litsAt.move hm h.2⟩
  | [], _ :: _, h => h.elim
  | _ :: _, [], h => h.elim
theorem litsAt.at {w : World} {S : Nat → Prop} : ∀ {rs : List Raw} {xs : List Cl} {i : Nat} {x : Cl}, litsAt w S rs xs → xs[i]? = some x → ∃ r, rs[i]? = some r ∧ r.n = x.lits.length ∧ r.tag = x.tag ∧ x.lits.length ≤ r.c ∧ RowAt Kind.int w S r.A x.lits
  | r :: _, _ :: _, 0, _, h, e => by
    cases e
    exact ⟨r, rfl, h.1⟩
  | _ :: rs, _ :: xs, i + 1, x, h, e => by
    obtain ⟨r, h1, h2⟩ := litsAt.at (i := i) h.2 (by simpa using e)
    exact ⟨r, by simpa using h1, h2⟩
  | [], [], _, _, _, e => by simp at e
  | [], _ :: _, _, _, h, _ => h.elim
  | _ :: _, [], _, _, h, _ => h.elim
theorem litsAt.app {w : World} {S : Nat → Prop} : ∀ {rs r2 : List Raw} {xs x2 : List Cl}, litsAt w S rs xs → litsAt w S r2 x2 → litsAt w S (rs ++ r2) (xs ++ x2)
  | [], _, [], _, _, h2 => h2
  | _ :: _, _, _ :: _, _, h, h2 => ⟨h.1, litsAt.app h.2 h2⟩
  | [], _, _ :: _, _, h, _ => h.elim
  | _ :: _, _, [], _, h, _ => h.elim
theorem litsAt.rev {w : World} {S : Nat → Prop} : ∀ {rs : List Raw} {xs : List Cl}, litsAt w S rs xs → litsAt w S rs.reverse xs.reverse
  | [], [], _ => trivial
  | _ :: _, _ :: _, h => by
    rw [List.reverse_cons, List.reverse_cons]
    exact (litsAt.rev h.2).app ⟨h.1, trivial⟩
  | [], _ :: _, h => h.elim
  | _ :: _, [], h => h.elim
/-- Raw cells and the literals' rows: a row of clauses. -/
theorem rowAt_of_raw {w : World} {S S2 : Nat → Prop} {A : Option Addr} {rs : List Raw} {xs : List Cl} (h : RowAt rawK w S A rs) (hl : litsAt w S2 rs xs) : RowAt cK w (fun k => S k ∨ S2 k) A xs := by
  rcases h with rfl | ⟨b, o, hA, hS, hlt, h⟩
  · cases xs with
    | nil => exact .inl rfl
    | cons _ _ => exact hl.elim
  · refine .inr ⟨b, o, hA, .inl hS, hlt, fun i hi => ?_⟩
    obtain ⟨r, hr, h1, h2, h3, h4⟩ := hl.at (List.getElem?_eq_getElem hi)
    obtain ⟨hi', hr'⟩ := List.getElem?_eq_some_iff.1 hr
    obtain ⟨cs, hcs, hc⟩ := h i hi'
    rw [hr'] at hcs
    have hcs : cs = [.slice r.A r.n r.c, .int .i64 r.tag] := hcs
    subst hcs
    refine ⟨_, ⟨[.slice r.A r.n r.c], [.int .i64 r.tag], rfl, ⟨r.A, r.c, by rw [h1], h3, h4.mono fun _ hk => .inr hk⟩, by rw [h2]; rfl⟩, hc⟩
/-- What a row of clauses is, as it stands. -/
theorem raw_rd {w : World} {S : Nat → Prop} {cs : List Value} {x : Cl} (h : cK.rd w S cs x) : ∃ r : Raw, cs = [.slice r.A r.n r.c, .int .i64 r.tag] ∧ r.n = x.lits.length ∧ r.tag = x.tag ∧ x.lits.length ≤ r.c ∧ RowAt Kind.int w S r.A x.lits := by
  obtain ⟨c1, c2, rfl, ⟨A, c, h1, h2, h3⟩, h4⟩ := h
  have h4 : c2 = [.int .i64 x.tag] := h4
  subst h1 h4
  exact ⟨⟨A, x.lits.length, c, x.tag⟩, rfl, rfl, rfl, h2, h3⟩
theorem raws_upto {w : World} {S : Nat → Prop} {b o : Nat} {xs : List Cl} (h : ∀ i (h : i < xs.length), ∃ cs, cK.rd w S cs xs[i] ∧ ∀ j u, cs[j]? = some u → w.cell? ⟨b, o + i * cK.sz + j, none⟩ = some u) :
    ∀ k, k ≤ xs.length → ∃ rs : List Raw, litsAt w S rs (xs.take k) ∧ ∀ i (h : i < rs.length), ∀ j u, ([.slice rs[i].A rs[i].n rs[i].c, .int .i64 rs[i].tag] : List Value)[j]? = some u → w.cell? ⟨b, o + i * 2 + j, none⟩ = some u
  | 0, _ => ⟨[], trivial, fun i h => absurd h (Nat.not_lt_zero i)⟩
  | k + 1, hk => by
    obtain ⟨rs, h1, h2⟩ := raws_upto h k (by omega)
    obtain ⟨cs, hcs, hc⟩ := h k (by omega)
    obtain ⟨r, rfl, hr⟩ := raw_rd hcs
    have hl : rs.length = k := by rw [h1.len, List.length_take]; omega
    refine ⟨rs ++ [r], ?_, fun i hi j u hu => ?_⟩
    · rw [List.take_add_one, List.getElem?_eq_getElem (by omega)]
      exact h1.app ⟨hr, trivial⟩
    · by_cases e : i < rs.length
      · rw [List.getElem_append_left e] at hu
        exact h2 i e j u hu
      · rw [List.length_append] at hi
        have : i = k := by simp at hi; omega
        subst this
        rw [List.getElem_append_right (by omega)] at hu
        simp only [hl, Nat.sub_self, List.getElem_cons_zero] at hu
        exact hc j u hu
theorem raws_of {w : World} {S : Nat → Prop} {A : Option Addr} {xs : List Cl} (h : RowAt cK w S A xs) : ∃ rs, RowAt rawK w S A rs ∧ litsAt w S rs xs := by
  rcases h with rfl | ⟨b, o, hA, hS, hlt, h⟩
  · exact ⟨[], .inl rfl, trivial⟩
  · obtain ⟨rs, h1, h2⟩ := raws_upto h xs.length (Nat.le_refl _)
    rw [List.take_length] at h1
    exact ⟨rs, .inr ⟨b, o, hA, hS, hlt, fun i hi => ⟨_, rfl, fun j u hu => h2 i hi j u hu⟩⟩, h1⟩
theorem reps_raw {w : World} {S S2 : Nat → Prop} : ∀ {xs : List Cl} {cs : List Value}, Reps (cK.rd w S) cs xs → ∃ rs, Reps (rawK.rd w S2) cs rs ∧ litsAt w S rs xs
  | [], _, h => ⟨[], h, trivial⟩
  | x :: xs, cs, h => by
    obtain ⟨c, rest, rfl, h1, h2⟩ := h
    obtain ⟨r, e, hr⟩ := raw_rd h1
    obtain ⟨rs, h3, h4⟩ := reps_raw (S2 := S2) h2
    exact ⟨r :: rs, ⟨c, rest, rfl, e, h3⟩, hr, h4⟩
def litsP (rs : List Raw) (xs : List Cl) : HP where
  holds := fun w S => litsAt w S rs xs
  mono := fun hS h => h.mono hS
  move := fun hm h => h.move hm
/-- One part, split in two. -/
theorem inv_split {β : Type} {w0 w : World} {T : Nat → Prop} {c : HP} {c1 c2 : β → HP} {cs : List HP} (h : Inv w0 T w (c :: cs)) (hs : ∀ S, c.holds w S → ∃ (r : β) (p : Nat → Prop), (c1 r).holds w (fun k => S k ∧ p k) ∧ (c2 r).holds w (fun k => S k ∧ ¬ p k)) : ∃ r, Inv w0 T w (c1 r :: c2 r :: cs) := by
  obtain ⟨hc, col, h⟩ := h
  obtain ⟨r, p, h1, h2⟩ := hs _ (h 0 c rfl)
  have := Classical.propDecidable
  refine ⟨r, hc, fun k => if col k = 0 then (if p k then 0 else 1) else col k + 1, fun i x hi => ?_⟩
  match i, hi with
  | 0, hi =>
    obtain rfl : c1 r = x := Option.some.inj hi
    exact (c1 r).mono (fun k hk => ⟨hk.1.1, hk.1.2.1, by show (if col k = 0 then (if p k then 0 else 1) else col k + 1) = 0; rw [if_pos hk.1.2.2, if_pos hk.2]⟩) h1
  | 1, hi =>
    obtain rfl : c2 r = x := Option.some.inj hi
    exact (c2 r).mono (fun k hk => ⟨hk.1.1, hk.1.2.1, by show (if col k = 0 then (if p k then 0 else 1) else col k + 1) = 1; rw [if_pos hk.1.2.2, if_neg hk.2]⟩) h2
  | i + 2, hi => exact x.mono (fun k hk => ⟨hk.1, hk.2.1, by
      show (if col k = 0 then (if p k then 0 else 1) else col k + 1) = i + 2
      have hcol : col k = i + 1 := hk.2.2
      rw [if_neg (by rw [hcol]; exact Nat.succ_ne_zero i), hcol]⟩) (h (i + 1) x hi)
/-- An owned row of clauses: its cells, and the literals' rows apart. -/
theorem inv_raw {w0 w : World} {T : Nat → Prop} {cs : List HP} {e : TypeId} {v : Value} {xs : List Cl} (h : Inv w0 T w (rowP cK e v xs :: cs)) : ∃ rs, Inv w0 T w (rowP rawK e v rs :: litsP rs xs :: cs) := by
  refine inv_split (c1 := fun rs => rowP rawK e v rs) (c2 := fun rs => litsP rs xs) h fun S hS => ?_
  obtain ⟨inner, g1, g2, g3⟩ := hS
  obtain ⟨rs, h4, h5⟩ := reps_raw (S2 := fun k => (S k ∧ v.ownBlock = some k) ∧ v.ownBlock ≠ some k) g3
  refine ⟨rs, fun k => v.ownBlock = some k, ⟨inner, ?_, fun k hk => ⟨g2 k hk, hk⟩, h4⟩, litsAt.mono (fun k hk => hk) h5⟩
  rw [h5.len]
  exact g1
theorem perm_front {α : Type} : ∀ (i : Nat) (xs : List α) (x : α), xs[i]? = some x → xs.Perm (x :: xs.eraseIdx i)
  | _, [], _, h => by simp at h
  | 0, y :: ys, x, h => by
    obtain rfl : y = x := by simpa using h
    exact List.Perm.refl _
  | i + 1, y :: ys, x, h => ((perm_front i ys x (by simpa using h)).cons y).trans (List.Perm.swap x y _)
/-- A part, brought to the front. -/
theorem inv_front {w0 w : World} {T : Nat → Prop} {cs : List HP} {c : HP} (i : Nat) (h : Inv w0 T w cs) (hi : cs[i]? = some c) : Inv w0 T w (c :: cs.eraseIdx i) := h.perm (perm_front i cs c hi)
theorem rawAt {w : World} {S : Nat → Prop} {A : Option Addr} {xs : List Raw} (h : RowAt rawK w S A xs) {i : Nat} {x : Raw} (hx : xs[i]? = some x) : ∃ b o, A = some ⟨b, o, none⟩ ∧ w.cell? ⟨b, o + i * 2, none⟩ = some (.slice x.A x.n x.c) ∧ w.cell? ⟨b, o + i * 2 + 1, none⟩ = some (.int .i64 x.tag) := by
  obtain ⟨hi, rfl⟩ := List.getElem?_eq_some_iff.1 hx
  rcases h with rfl | ⟨b, o, hA, _, _, h⟩
  · simp at hi
  · obtain ⟨cs, h1, h2⟩ := h i hi
    have h1 : cs = [.slice xs[i].A xs[i].n xs[i].c, .int .i64 xs[i].tag] := h1
    subst h1
    exact ⟨b, o, hA, h2 0 _ rfl, h2 1 _ rfl⟩
end Go.Proofs.Ytcglokippflioaa

/-! SolveSame: the turned rows of clauses. -/
namespace Go.Proofs.Ytcglokippflioaa
open Go Go.RowKit YLib
theorem rev_row {w W : World} {T : Nat → Prop} {L : List HP} {e : TypeId} {Av : Option Addr} {n cv i : Nat} {rs : List Raw} {fcl : List Cl} {S : Nat → Prop} (h : Inv w T W L) (hc : Chg NoM w W) (hi : L[i]? = some (rowP rawK e (.slice Av n cv) rs.reverse)) (hl : litsAt w S rs fcl) : ∃ S' : Nat → Prop, RowAt cK W S' Av fcl.reverse := by
  obtain ⟨A, c, h1, _, _, h2⟩ := h.rowShape hi
  injection h1 with h1 _ _
  subst h1
  exact ⟨_, rowAt_of_raw h2 ((hl.move (w' := W) (fun k _ hk => hc.block k hk id)).rev)⟩
theorem more_row {w W : World} {T : Nat → Prop} {L : List HP} {e : TypeId} {A Am : Option Addr} {n c cm i j : Nat} {rs : List Raw} {fcl : List Cl} {more : List Int} {S : Nat → Prop} (h : Inv w T W L) (hc : Chg NoM w W) (hi : L[i]? = some (rowP rawK e (.slice A n c) (rs ++ [⟨Am, more.length, cm, 0⟩]))) (hj : L[j]? = some (litsP rs fcl)) (hm : RowAt Kind.int w S Am more) (hmc : more.length ≤ cm) : ∃ S' : Nat → Prop, RowAt cK W S' A (fcl ++ [⟨more, 0⟩]) := by
  obtain ⟨A', c', h1, _, _, h2⟩ := h.rowShape hi
  injection h1 with h1 _ _
  subst h1
  obtain ⟨S2, hS, _⟩ := h.get hj
  have hS : litsAt W S2 rs fcl := hS
  exact ⟨_, rowAt_of_raw h2 ((hS.mono (S' := fun k => S2 k ∨ S k) (fun _ => .inl)).app ⟨⟨rfl, rfl, hmc, (hm.chg hc (fun _ _ => id)).mono (fun _ => .inr)⟩, trivial⟩)⟩
theorem fitF_reverse {vars : Int} {fcl : List Cl} {order : List Int} (h : fitF vars fcl order) : fitF vars fcl.reverse order := by
  obtain ⟨h0, h1, h2, h3, h4⟩ := h
  exact ⟨h0, h1, by simpa using h2, fun c hc => h3 c (by simpa using hc), h4⟩
theorem model_row {n : Nat} {cls : List (List Int)} {m : List Int} (hl : m.length = n) (h : isModel n cls (gi (0 :: m))) : modRow m := by
  intro i x hx
  obtain ⟨hi, rfl⟩ := List.getElem?_eq_some_iff.1 hx
  have h1 := h.1 ((i : Int) + 1) (by omega) (by omega)
  rw [gi_cons m i _ hx] at h1
  omega
theorem model_any {n : Nat} {fcl : List Cl} {m : List Int} (h : isModel n (fcl.map Cl.lits) (gi (0 :: m))) : ∀ c ∈ fcl, anyT m c.lits = true := by
  intro c hc
  have h1 := h.2 c.lits (List.mem_map.2 ⟨c, hc, rfl⟩)
  unfold anyT
  rw [List.any_eq_true]
  obtain ⟨x, hx, hx2⟩ := h1
  exact ⟨x, hx, by simpa using hx2⟩
theorem answer_kind {n : Nat} {order : List Int} {cls : List (List Int)} {r : Int} {m : List Int} (h : Answer n order cls r m) (hr : r ≠ 1) : r = 2 := by
  rcases h with ⟨e, _⟩ | ⟨e, _⟩
  · exact absurd e hr
  · exact e
theorem answer_len {n : Nat} {order : List Int} {cls : List (List Int)} {r : Int} {m : List Int} (h : Answer n order cls r m) (hr : r = 1) : m.length = n ∧ isModel n cls (gi (0 :: m)) := by
  rcases h with ⟨_, l, f⟩ | ⟨e, _⟩
  · exact ⟨l, f.1⟩
  · omega
end Go.Proofs.Ytcglokippflioaa

/-! awake, of chapter 28. -/
namespace Go.Proofs.Ytcglokippflioaa
open Go Go.RowKit YLib
theorem learn0 : LearnOK noLearn := by
  intro w A1 A2 c1 c2 cls tr k c lv ok _ _ _ _ _ _ _ h
  cases h
theorem clCells {w : World} {S : Nat → Prop} {A : Option Addr} {cap : Nat} {c : Cl} (hl : c.lits.length ≤ cap) (h : RowAt Kind.int w S A c.lits) : cK.rd w S [.slice A c.lits.length cap, .int .i64 c.tag] c :=
  ⟨[.slice A c.lits.length cap], [.int .i64 c.tag], rfl, ⟨A, cap, rfl, hl, h⟩, rfl⟩
theorem solve1_calls (w : World) : Calls Try.prog 11 #[.agg #[.int .i64 2, .slice (some ⟨w.heap.size + 1, 0, none⟩) 1 1, .slice (some ⟨w.heap.size + 1 + 1, 0, none⟩) 2 2], .int .i64 100]
    (((w.alloc (.cells #[.int .i64 1, .int .i64 2] 3)).alloc (.cells #[.slice (some ⟨w.heap.size, 0, none⟩) 2 2, .int .i64 0] 32)).alloc (.cells #[.int .i64 (-1), .int .i64 2] 3)) fun e w' =>
    ∃ Am cm Ag cg st, e = .returned (.tuple #[.agg #[.int .i64 1, .slice Am 2 cm, .slice Ag 0 cg, .int .i64 st], .int .i64 0]) ∧ Inv w NoM w' [rowP Kind.int 3 (.slice Am 2 cm) [-1, 2]] := by
  have h0 := ((((Inv.start0 w).boxc 3 [.int .i64 1, .int .i64 2]).boxc 32 [.slice (some ⟨w.heap.size, 0, none⟩) 2 2, .int .i64 0]).boxc 3 [.int .i64 (-1), .int .i64 2])
  simp only [World.size_alloc] at h0
  obtain ⟨s1, hr1, hv1, hl1⟩ := run1
  refine (Solve_calls (cc := 1) (co := 2) learn0 (by omega) fit1 (RowAt.of_blk (h0.blk (i := 1) rfl) trivial ⟨[.slice (some ⟨w.heap.size, 0, none⟩) 2 2, .int .i64 0], [], rfl, clCells (c := ⟨[1, 2], 0⟩) (by simp) (ints_at (xs := [1, 2]) (h0.blk (i := 2) rfl)), rfl⟩) (ints_at (xs := [-1, 2]) (h0.blk (i := 0) rfl)) (by simp [LIM]) (by simp [LIM]) hr1 (by intro _; rw [hv1]; rfl)).mono ?_
  rintro e w1 ⟨vm, vg, rfl, h1⟩
  rw [hv1, hl1] at h1
  have h2 := h0.tail.tail.tail.join h1
  obtain ⟨Am, cm, rfl, _⟩ := h2.rowShape (i := 0) rfl
  obtain ⟨Ag, cg, rfl, _⟩ := h2.rowShape (i := 1) rfl
  exact ⟨Am, cm, Ag, cg, _, rfl, h2.init (cs := [_])⟩
theorem solve2_calls (w : World) : Calls Try.prog 11 #[.agg #[.int .i64 1, .slice (some ⟨w.heap.size + 1 + 1, 0, none⟩) 2 2, .slice none 0 0], .int .i64 100]
    (((w.alloc (.cells #[.int .i64 1] 3)).alloc (.cells #[.int .i64 (-1)] 3)).alloc (.cells #[.slice (some ⟨w.heap.size, 0, none⟩) 1 1, .int .i64 0, .slice (some ⟨w.heap.size + 1, 0, none⟩) 1 1, .int .i64 0] 32)) fun e w' =>
    ∃ Am cm Ag cg st, e = .returned (.tuple #[.agg #[.int .i64 2, .slice Am 0 cm, .slice Ag 1 cg, .int .i64 st], .int .i64 0]) ∧ Inv w NoM w' [rowP clK 26 (.slice Ag 1 cg) [[]]] := by
  have h0 := ((((Inv.start0 w).boxc 3 [.int .i64 1]).boxc 3 [.int .i64 (-1)]).boxc 32 [.slice (some ⟨w.heap.size, 0, none⟩) 1 1, .int .i64 0, .slice (some ⟨w.heap.size + 1, 0, none⟩) 1 1, .int .i64 0])
  simp only [World.size_alloc] at h0
  obtain ⟨s1, hr1, hl1⟩ := run2
  refine (Solve_calls (cc := 2) (co := 0) (Ao := none) learn0 (by omega) fit2 (RowAt.of_blk (h0.blk (i := 0) rfl) trivial ⟨[.slice (some ⟨w.heap.size, 0, none⟩) 1 1, .int .i64 0], [.slice (some ⟨w.heap.size + 1, 0, none⟩) 1 1, .int .i64 0], rfl, clCells (c := ⟨[1], 0⟩) (by simp) (ints_at (xs := [1]) (h0.blk (i := 2) rfl)), _, [], rfl, clCells (c := ⟨[-1], 0⟩) (by simp) (ints_at (xs := [-1]) (h0.blk (i := 1) rfl)), rfl⟩) (RowAt.nil _ _ _ _) (by simp [LIM]) (by simp [LIM]) hr1 (by intro h; cases h)).mono ?_
  rintro e w1 ⟨vm, vg, rfl, h1⟩
  rw [hl1, if_neg (by decide)] at h1
  have h2 := h0.tail.tail.tail.join h1
  obtain ⟨Am, cm, rfl, _⟩ := h2.rowShape (i := 0) rfl
  obtain ⟨Ag, cg, rfl, _⟩ := h2.rowShape (i := 1) rfl
  exact ⟨Am, cm, Ag, cg, _, rfl, h2.tail⟩
set_option maxRecDepth 100000 in
set_option maxHeartbeats 1000000 in
theorem awake_calls (w : World) : Calls Try.prog 7 #[] w fun e w' => e = .returned (.bool true) ∧ Inv w NoM w' [] := by
  have HS1 := hid (solve1_calls w)
  go_enter Try.func7, Try.ntmps7
  go_upto_region 2 with (go_at_call 11; refine HS1.out.mono ?_; rintro e w1 ⟨Am, cm, Ag, cg, st1, rfl, h1⟩; have H1 := hid (h1.boxc 35 [.int .i64 1, .slice Am 2 cm, .slice Ag 0 cg, .int .i64 st1]); clear h1)
  generalize w1.alloc _ = w2 at *
  generalize w1.heap.size = B1 at *
  clear HS1
  have HS2 := hid (solve2_calls w2)
  go_upto_region 3 with (go_at_call 11; refine HS2.out.mono ?_; rintro e w3 ⟨Am2, cm2, Ag2, cg2, st2, rfl, h1⟩; have H2 := hid ((H1.out.join h1).boxc 35 [.int .i64 2, .slice Am2 0 cm2, .slice Ag2 1 cg2, .int .i64 st2]); clear h1)
  generalize w3.alloc _ = w4 at *
  generalize w3.heap.size = B2 at *
  clear HS2 H1
  have h2 := H2.out
  have hb10 := (h2.cell (i := 2) rfl 0 rfl).1
  have hb11 := (h2.cell (i := 2) rfl 1 rfl).1
  have hb20 := (h2.cell (i := 0) rfl 0 rfl).1
  have hb22 := (h2.cell (i := 0) rfl 2 rfl).1
  have hlt1 : B1 < w4.heap.size := heap_lt (h2.blk (i := 2) rfl)
  have hlt2 : B2 < w4.heap.size := heap_lt (h2.blk (i := 0) rfl)
  obtain ⟨_, _, e1, _, _, hm⟩ := h2.rowShape (i := 3) rfl
  cases e1
  obtain ⟨_, _, e1, _, _, hg⟩ := h2.rowShape (i := 1) rfl
  cases e1
  obtain ⟨gb, go, Ag3, cg3, rfl, hgc, _, _⟩ := clAt hg (i := 0) (x := []) rfl
  rw [Nat.add_zero] at hgc
  have hlt3 : gb < w4.heap.size := World.block_lt_of_cell? w4 _ hgc
  have h3 := h2.boxc 3 [.int .i64 (-1), .int .i64 2]
  have HI := hid (Ints_same (ca := cm) (cb := 2) (nb := 2) (hid (hm.chg ((Chg.refl NoM w4).alloc _) (fun _ _ => id))) (hid (ints_at (xs := [-1, 2]) (h3.blk (i := 0) rfl))) (hid rfl) (hid rfl) (by omega))
  have HL3 := hid (fun W => Luby_calls 3 (by omega) W)
  have HL7 := hid (fun W => Luby_calls 7 (by omega) W)
  rw [show (3 : Int).toNat = 3 from rfl, lub3] at HL3
  rw [show (7 : Int).toNat = 7 from rfl, lub7] at HL7
  have H3 := hid (h3.tail.tail.tail.tail.tail)
  clear h2 h3 hm hg H2
  go_wp2_with (first
    | (go_at_call 12; refine HI.out.mono ?_; rintro e w5 ⟨rfl, q, rfl⟩)
    | (go_at_call 5; first | ((with_reducible refine (HL3.out _).mono ?_); rintro e w6 ⟨rfl, rfl⟩) | ((with_reducible refine (HL7.out _).mono ?_); rintro e w6 ⟨rfl, rfl⟩)))
  go_ret
  exact ⟨rfl, H3.out.drewN _⟩
end Go.Proofs.Ytcglokippflioaa

/-! SolveSame's own walk. -/
namespace Go.Proofs.Ytcglokippflioaa
open Go Go.RowKit YLib
set_option maxRecDepth 100000 in
set_option maxHeartbeats 8000000 in
theorem same_walk {w : World} {S S2 : Nat → Prop} {Ac Ao Am : Option Addr} {cc co cm : Nat} {vars : Int} {fcl : List Cl} {order more : List Int} (hc : RowAt cK w S Ac fcl) (ho : RowAt Kind.int w S Ao order) (hm : RowAt Kind.int w S2 Am more)
    (hl : ∀ c ∈ fcl, c.lits.length ≤ 9223372036854775807) (hol : order.length ≤ 9223372036854775807) (hcn : fcl.length ≤ 9223372036854775807) (hml : more.length ≤ 9223372036854775807) (hmc : more.length ≤ cm) :
    Calls Try.prog 4 #[.agg #[.int .i64 vars, .slice Ac fcl.length cc, .slice Ao order.length co], .slice Am more.length cm] w fun e w' => e = .returned (.bool true) ∧ Inv w NoM w' [] := by
  have H0 := hid ((Inv.start0 w).boxc 28 [.int .i64 vars, .slice Ac fcl.length cc, .slice Ao order.length co])
  have HFT := hid (RFit_calls (w := w.alloc (.cells #[.int .i64 vars, .slice Ac fcl.length cc, .slice Ao order.length co] 28)) (cc := cc) (co := co) (vars := vars) (hc.chg ((Chg.refl NoM w).alloc _) (fun _ _ => id)) (ho.chg ((Chg.refl NoM w).alloc _) (fun _ _ => id)) hl hol hcn)
  have HC := hid hc
  have HO := hid ho
  have HMO := hid hm
  have HL := hid hl
  clear hc ho hm hl
  by_cases hf : fitF vars fcl order ∧ vars ≤ 14 ∧ fcl.length ≤ 80
  · obtain ⟨hfit, hv14, hn80⟩ := hf
    obtain ⟨nv, rfl⟩ := Int.eq_ofNat_of_zero_le hfit.1
    have hnl : decide ((nv : Int) ≤ 14 ∧ fcl.length ≤ 80) = true := decide_eq_true ⟨hv14, hn80⟩
    obtain ⟨hll, holl⟩ := fit_lens hfit
    have HLL := hid hll
    have HFI := hid hfit
    clear hfit hll
    go_enter Try.func4, Try.ntmps4
    go_upto_region 3 with (first
      | (go_at_call 8; refine HFT.out.mono ?_; rintro e w1 ⟨⟨bb, rfl, hbb⟩, h2⟩; have hbt := hbb.2 HFI.out; subst hbt; clear hbb; have H2 := hid (H0.out.join h2); have hf0 := (H2.out.cell (i := 0) rfl 0 rfl).1; have hf1 := (H2.out.cell (i := 0) rfl 1 rfl).1; have hf2 := (H2.out.cell (i := 0) rfl 2 rfl).1; clear h2)
      | (go_at_call 9; refine light_calls.mono ?_; rintro e w2 ⟨rfl, h3⟩; rw [hnl]; have H3 := hid (H2.out.join h3); clear h3))
    clear hf0 hf1 hf2
    go_cut [5, 6] (fun v5 v6 wx => ∃ (g5 g6 : Nat) (Ac1 : Option Addr) (cc1 : Nat) (Ao1 : Option Addr) (co1 : Nat) (Ac2 : Option Addr) (cc2 : Nat) (Ao2 : Option Addr) (co2 : Nat), v5 = .pointer (some ⟨g5, 0, none⟩) ∧ v6 = .pointer (some ⟨g6, 0, none⟩) ∧ Hid (YLib.Inv w NoM wx [rowP cK 32 (.slice Ac1 fcl.length cc1) fcl, rowP Kind.int 3 (.slice Ao1 order.length co1) order, rowP cK 32 (.slice Ac2 fcl.length cc2) fcl, rowP Kind.int 3 (.slice Ao2 order.length co2) order, blkP g5 28 [.int .i64 nv, .slice Ac1 fcl.length cc1, .slice Ao1 order.length co1], blkP g6 28 [.int .i64 nv, .slice Ac2 fcl.length cc2, .slice Ao2 order.length co2], blkP w.heap.size 28 [.int .i64 nv, .slice Ac fcl.length cc, .slice Ao order.length co]]))
    case first =>
      have HQ0 := hid H3.out.drew
      refine wp_region_noPanic ?_
      refine wp_region_held_drew (S := (fun w' => w'.cell? ⟨w.heap.size, 0, none⟩ = some (.int .i64 nv) ∧ w'.cell? ⟨w.heap.size, 1, none⟩ = some (.slice Ac fcl.length cc) ∧ w'.cell? ⟨w.heap.size, 2, none⟩ = some (.slice Ao order.length co))) (by kernel_rfl) ?_ (fun hHeld => ?_)
      · exact ⟨(HQ0.out.cell (i := 0) rfl 0 rfl).1, (HQ0.out.cell (i := 0) rfl 1 rfl).1, (HQ0.out.cell (i := 0) rfl 2 rfl).1⟩
      generalize w2.drew = w9 at *
      refine takeE (i := 0) 23 (by rw [List.getElem?_toArray]; rfl) rfl (by kernel_rfl) (by kernel_rfl) (by kernel_rfl) (fun _ _ _ _ h => h) (by rfl) hHeld ?_
      apply Exists.intro
      apply And.intro
      focus (intro w' hSw; obtain ⟨s0, s1, s2⟩ := hSw; go_simp; try with_reducible rfl)
      try simp only [List.setIfInBounds_toArray, List.set_cons_zero, List.set_cons_succ]
      refine takeE (i := 2) 25 (by rw [List.getElem?_toArray]; rfl) rfl (by kernel_rfl) (by kernel_rfl) (by kernel_rfl) (fun _ _ _ _ h => h) (by rfl) hHeld ?_
      apply Exists.intro
      apply And.intro
      focus (intro w' hSw; obtain ⟨s0, s1, s2⟩ := hSw; go_simp; try with_reducible rfl)
      try simp only [List.setIfInBounds_toArray, List.set_cons_zero, List.set_cons_succ]
      refine readyH [(1, some 24), (4, some 5), (5, some 6)] (by kernel_rfl) (by simp) ⟨⟨_, (by rw [List.getElem?_toArray]; rfl), rfl, (by rfl), fun K hK => ?_⟩, ⟨_, (by rw [List.getElem?_toArray]; rfl), rfl, (by rfl), fun K hK => ?_⟩, ⟨_, (by rw [List.getElem?_toArray]; rfl), rfl, (by rfl), fun K hK => ?_⟩, trivial⟩
      · go_simp
        refine (RCopy_calls (S := S) (HC.out.chg HQ0.out.chg (fun _ _ => id)) (HO.out.chg HQ0.out.chg (fun _ _ => id)) HLL.out holl (by omega)).mono ?_
        rintro e w10 ⟨vc1, vo1, rfl, hN⟩
        obtain ⟨Ac1, cc1, e3, _, _, _⟩ := hN.rowShape (i := 0) rfl
        obtain ⟨Ao1, co1, e6, _, _, _⟩ := hN.rowShape (i := 1) rfl
        subst e3 e6
        have HQ1 := hid (HQ0.out.join hN)
        clear hN
        refine hK (.agg #[.int .i64 nv, .slice Ac1 fcl.length cc1, .slice Ao1 order.length co1]) _ ⟨(HQ1.out.cell (i := 2) rfl 0 rfl).1, (HQ1.out.cell (i := 2) rfl 1 rfl).1, (HQ1.out.cell (i := 2) rfl 2 rfl).1⟩ ?_
        clear hK K
        simp only [Act.put, List.setIfInBounds_toArray, List.set_cons_zero, List.set_cons_succ]
        refine readyH [(3, some 26), (4, some 5), (5, some 6)] (by kernel_rfl) (by simp) ⟨⟨_, (by rw [List.getElem?_toArray]; rfl), rfl, (by rfl), fun K hK => ?_⟩, ⟨_, (by rw [List.getElem?_toArray]; rfl), rfl, (by rfl), fun K hK => ?_⟩, ⟨_, (by rw [List.getElem?_toArray]; rfl), rfl, (by rfl), fun K hK => ?_⟩, trivial⟩
        · go_simp
          refine (RCopy_calls (S := S) (HC.out.chg HQ1.out.chg (fun _ _ => id)) (HO.out.chg HQ1.out.chg (fun _ _ => id)) HLL.out holl (by omega)).mono ?_
          rintro e w11 ⟨vc2, vo2, rfl, hN⟩
          obtain ⟨Ac2, cc2, e3, _, _, _⟩ := hN.rowShape (i := 0) rfl
          obtain ⟨Ao2, co2, e6, _, _, _⟩ := hN.rowShape (i := 1) rfl
          subst e3 e6
          have HQ2 := hid (HQ1.out.join hN)
          clear hN
          refine hK (.agg #[.int .i64 nv, .slice Ac2 fcl.length cc2, .slice Ao2 order.length co2]) _ ⟨(HQ2.out.cell (i := 4) rfl 0 rfl).1, (HQ2.out.cell (i := 4) rfl 1 rfl).1, (HQ2.out.cell (i := 4) rfl 2 rfl).1⟩ ?_
          clear hK K
          simp only [Act.put, List.setIfInBounds_toArray, List.set_cons_zero, List.set_cons_succ]
          refine readyH [(4, some 5), (5, some 6)] (by kernel_rfl) (by simp) ⟨⟨_, (by rw [List.getElem?_toArray]; rfl), rfl, (by rfl), fun K hK => ?_⟩, ⟨_, (by rw [List.getElem?_toArray]; rfl), rfl, (by rfl), fun K hK => ?_⟩, trivial⟩
          · go_simp
            have HQ3 := hid (HQ2.out.boxc 28 [.int .i64 0, .slice none 0 0, .slice none 0 0])
            refine hK (.pointer (some ⟨w11.heap.size, 0, none⟩)) _ ⟨(HQ3.out.cell (i := 5) rfl 0 rfl).1, (HQ3.out.cell (i := 5) rfl 1 rfl).1, (HQ3.out.cell (i := 5) rfl 2 rfl).1⟩ ?_
            generalize w11.alloc (.cells #[.int .i64 0, .slice none 0 0, .slice none 0 0] 28) = w12 at *
            generalize w11.heap.size = g5 at *
            clear hK K
            simp only [Act.put, List.setIfInBounds_toArray, List.set_cons_zero, List.set_cons_succ]
            refine readyH [(5, some 6)] (by kernel_rfl) (by simp) ⟨⟨_, (by rw [List.getElem?_toArray]; rfl), rfl, (by rfl), fun K hK => ?_⟩, trivial⟩
            · go_simp
              have HQ4 := hid (HQ3.out.boxc 28 [.int .i64 0, .slice none 0 0, .slice none 0 0])
              refine hK (.pointer (some ⟨w12.heap.size, 0, none⟩)) _ ⟨(HQ4.out.cell (i := 6) rfl 0 rfl).1, (HQ4.out.cell (i := 6) rfl 1 rfl).1, (HQ4.out.cell (i := 6) rfl 2 rfl).1⟩ ?_
              generalize w12.alloc (.cells #[.int .i64 0, .slice none 0 0, .slice none 0 0] 28) = w13 at *
              generalize w12.heap.size = g6 at *
              clear hK K
              simp only [Act.put, List.setIfInBounds_toArray, List.set_cons_zero, List.set_cons_succ]
              have HZ : Hid (Inv w NoM w13 [rowP cK 32 (.slice Ac1 fcl.length cc1) fcl, rowP Kind.int 3 (.slice Ao1 order.length co1) order, rowP cK 32 (.slice Ac2 fcl.length cc2) fcl, rowP Kind.int 3 (.slice Ao2 order.length co2) order, blkP g5 28 [.int .i64 0, .slice none 0 0, .slice none 0 0], blkP g6 28 [.int .i64 0, .slice none 0 0, .slice none 0 0], blkP w.heap.size 28 [.int .i64 nv, .slice Ac fcl.length cc, .slice Ao order.length co]]) := hid (inv_front 6 (inv_front 6 (inv_front 4 (inv_front 4 (inv_front 2 (inv_front 1 (inv_front 6 HQ4.out rfl) rfl) rfl) rfl) rfl) rfl) rfl)
              clear HQ4
              have q0 := (HZ.out.cell (i := 4) rfl 0 rfl).1
              have f0 := (HZ.out.cell (i := 4) rfl 0 rfl).2
              have q1 := (HZ.out.cell (i := 4) rfl 1 rfl).1
              have f1 := (HZ.out.cell (i := 4) rfl 1 rfl).2
              have q2 := (HZ.out.cell (i := 4) rfl 2 rfl).1
              have f2 := (HZ.out.cell (i := 4) rfl 2 rfl).2
              refine callH (i := 6) none (by rw [List.getElem?_toArray]; rfl) rfl (by kernel_rfl) (by rfl) fun K hK => ?_
              go_simp
              have HZs := hid (((HZ.out.set (i := 4) rfl 0 (.int .i64 nv)).set (i := 4) rfl 1 (.slice Ac1 fcl.length cc1)).set (i := 4) rfl 2 (.slice Ao1 order.length co1))
              clear HZ
              refine hK undef _ ⟨(HZs.out.cell (i := 6) rfl 0 rfl).1, (HZs.out.cell (i := 6) rfl 1 rfl).1, (HZs.out.cell (i := 6) rfl 2 rfl).1⟩ ?_
              clear hK K q0 q1 q2 f0 f1 f2
              generalize (((w13.setCell ⟨g5, 0, none⟩ (.int .i64 nv)).setCell ⟨g5, 1, none⟩ (.slice Ac1 fcl.length cc1)).setCell ⟨g5, 2, none⟩ (.slice Ao1 order.length co1)) = v6 at *
              simp only [Act.put]
              have q0 := (HZs.out.cell (i := 5) rfl 0 rfl).1
              have f0 := (HZs.out.cell (i := 5) rfl 0 rfl).2
              have q1 := (HZs.out.cell (i := 5) rfl 1 rfl).1
              have f1 := (HZs.out.cell (i := 5) rfl 1 rfl).2
              have q2 := (HZs.out.cell (i := 5) rfl 2 rfl).1
              have f2 := (HZs.out.cell (i := 5) rfl 2 rfl).2
              refine callH (i := 7) none (by rw [List.getElem?_toArray]; rfl) rfl (by kernel_rfl) (by rfl) fun K hK => ?_
              go_simp
              have HZss := hid (((HZs.out.set (i := 5) rfl 0 (.int .i64 nv)).set (i := 5) rfl 1 (.slice Ac2 fcl.length cc2)).set (i := 5) rfl 2 (.slice Ao2 order.length co2))
              clear HZs
              refine hK undef _ ⟨(HZss.out.cell (i := 6) rfl 0 rfl).1, (HZss.out.cell (i := 6) rfl 1 rfl).1, (HZss.out.cell (i := 6) rfl 2 rfl).1⟩ ?_
              clear hK K q0 q1 q2 f0 f1 f2
              generalize (((v6.setCell ⟨g6, 0, none⟩ (.int .i64 nv)).setCell ⟨g6, 1, none⟩ (.slice Ac2 fcl.length cc2)).setCell ⟨g6, 2, none⟩ (.slice Ao2 order.length co2)) = v7 at *
              simp only [Act.put]
              refine wpAnyH_done (by kernel_rfl) ?_ _
              refine NoPanic.normal ?_
              go_wp2_with (fail)
              go_meet
              case rel => exact ⟨g5, g6, Ac1, cc1, Ao1, co1, Ac2, cc2, Ao2, co2, rfl, rfl, HZss⟩
          · go_simp
            have HQ3 := hid (HQ2.out.boxc 28 [.int .i64 0, .slice none 0 0, .slice none 0 0])
            refine hK (.pointer (some ⟨w11.heap.size, 0, none⟩)) _ ⟨(HQ3.out.cell (i := 5) rfl 0 rfl).1, (HQ3.out.cell (i := 5) rfl 1 rfl).1, (HQ3.out.cell (i := 5) rfl 2 rfl).1⟩ ?_
            generalize w11.alloc (.cells #[.int .i64 0, .slice none 0 0, .slice none 0 0] 28) = w12 at *
            generalize w11.heap.size = g6 at *
            clear hK K
            simp only [Act.put, List.setIfInBounds_toArray, List.set_cons_zero, List.set_cons_succ]
            refine readyH [(4, some 5)] (by kernel_rfl) (by simp) ⟨⟨_, (by rw [List.getElem?_toArray]; rfl), rfl, (by rfl), fun K hK => ?_⟩, trivial⟩
            · go_simp
              have HQ4 := hid (HQ3.out.boxc 28 [.int .i64 0, .slice none 0 0, .slice none 0 0])
              refine hK (.pointer (some ⟨w12.heap.size, 0, none⟩)) _ ⟨(HQ4.out.cell (i := 6) rfl 0 rfl).1, (HQ4.out.cell (i := 6) rfl 1 rfl).1, (HQ4.out.cell (i := 6) rfl 2 rfl).1⟩ ?_
              generalize w12.alloc (.cells #[.int .i64 0, .slice none 0 0, .slice none 0 0] 28) = w13 at *
              generalize w12.heap.size = g5 at *
              clear hK K
              simp only [Act.put, List.setIfInBounds_toArray, List.set_cons_zero, List.set_cons_succ]
              have HZ : Hid (Inv w NoM w13 [rowP cK 32 (.slice Ac1 fcl.length cc1) fcl, rowP Kind.int 3 (.slice Ao1 order.length co1) order, rowP cK 32 (.slice Ac2 fcl.length cc2) fcl, rowP Kind.int 3 (.slice Ao2 order.length co2) order, blkP g5 28 [.int .i64 0, .slice none 0 0, .slice none 0 0], blkP g6 28 [.int .i64 0, .slice none 0 0, .slice none 0 0], blkP w.heap.size 28 [.int .i64 nv, .slice Ac fcl.length cc, .slice Ao order.length co]]) := hid (inv_front 6 (inv_front 6 (inv_front 4 (inv_front 4 (inv_front 2 (inv_front 2 (inv_front 6 HQ4.out rfl) rfl) rfl) rfl) rfl) rfl) rfl)
              clear HQ4
              have q0 := (HZ.out.cell (i := 4) rfl 0 rfl).1
              have f0 := (HZ.out.cell (i := 4) rfl 0 rfl).2
              have q1 := (HZ.out.cell (i := 4) rfl 1 rfl).1
              have f1 := (HZ.out.cell (i := 4) rfl 1 rfl).2
              have q2 := (HZ.out.cell (i := 4) rfl 2 rfl).1
              have f2 := (HZ.out.cell (i := 4) rfl 2 rfl).2
              refine callH (i := 6) none (by rw [List.getElem?_toArray]; rfl) rfl (by kernel_rfl) (by rfl) fun K hK => ?_
              go_simp
              have HZs := hid (((HZ.out.set (i := 4) rfl 0 (.int .i64 nv)).set (i := 4) rfl 1 (.slice Ac1 fcl.length cc1)).set (i := 4) rfl 2 (.slice Ao1 order.length co1))
              clear HZ
              refine hK undef _ ⟨(HZs.out.cell (i := 6) rfl 0 rfl).1, (HZs.out.cell (i := 6) rfl 1 rfl).1, (HZs.out.cell (i := 6) rfl 2 rfl).1⟩ ?_
              clear hK K q0 q1 q2 f0 f1 f2
              generalize (((w13.setCell ⟨g5, 0, none⟩ (.int .i64 nv)).setCell ⟨g5, 1, none⟩ (.slice Ac1 fcl.length cc1)).setCell ⟨g5, 2, none⟩ (.slice Ao1 order.length co1)) = v6 at *
              simp only [Act.put]
              have q0 := (HZs.out.cell (i := 5) rfl 0 rfl).1
              have f0 := (HZs.out.cell (i := 5) rfl 0 rfl).2
              have q1 := (HZs.out.cell (i := 5) rfl 1 rfl).1
              have f1 := (HZs.out.cell (i := 5) rfl 1 rfl).2
              have q2 := (HZs.out.cell (i := 5) rfl 2 rfl).1
              have f2 := (HZs.out.cell (i := 5) rfl 2 rfl).2
              refine callH (i := 7) none (by rw [List.getElem?_toArray]; rfl) rfl (by kernel_rfl) (by rfl) fun K hK => ?_
              go_simp
              have HZss := hid (((HZs.out.set (i := 5) rfl 0 (.int .i64 nv)).set (i := 5) rfl 1 (.slice Ac2 fcl.length cc2)).set (i := 5) rfl 2 (.slice Ao2 order.length co2))
              clear HZs
              refine hK undef _ ⟨(HZss.out.cell (i := 6) rfl 0 rfl).1, (HZss.out.cell (i := 6) rfl 1 rfl).1, (HZss.out.cell (i := 6) rfl 2 rfl).1⟩ ?_
              clear hK K q0 q1 q2 f0 f1 f2
              generalize (((v6.setCell ⟨g6, 0, none⟩ (.int .i64 nv)).setCell ⟨g6, 1, none⟩ (.slice Ac2 fcl.length cc2)).setCell ⟨g6, 2, none⟩ (.slice Ao2 order.length co2)) = v7 at *
              simp only [Act.put]
              refine wpAnyH_done (by kernel_rfl) ?_ _
              refine NoPanic.normal ?_
              go_wp2_with (fail)
              go_meet
              case rel => exact ⟨g5, g6, Ac1, cc1, Ao1, co1, Ac2, cc2, Ao2, co2, rfl, rfl, HZss⟩
        · go_simp
          have HQ2 := hid (HQ1.out.boxc 28 [.int .i64 0, .slice none 0 0, .slice none 0 0])
          refine hK (.pointer (some ⟨w10.heap.size, 0, none⟩)) _ ⟨(HQ2.out.cell (i := 3) rfl 0 rfl).1, (HQ2.out.cell (i := 3) rfl 1 rfl).1, (HQ2.out.cell (i := 3) rfl 2 rfl).1⟩ ?_
          generalize w10.alloc (.cells #[.int .i64 0, .slice none 0 0, .slice none 0 0] 28) = w11 at *
          generalize w10.heap.size = g5 at *
          clear hK K
          simp only [Act.put, List.setIfInBounds_toArray, List.set_cons_zero, List.set_cons_succ]
          refine readyH [(3, some 26), (5, some 6)] (by kernel_rfl) (by simp) ⟨⟨_, (by rw [List.getElem?_toArray]; rfl), rfl, (by rfl), fun K hK => ?_⟩, ⟨_, (by rw [List.getElem?_toArray]; rfl), rfl, (by rfl), fun K hK => ?_⟩, trivial⟩
          · go_simp
            refine (RCopy_calls (S := S) (HC.out.chg HQ2.out.chg (fun _ _ => id)) (HO.out.chg HQ2.out.chg (fun _ _ => id)) HLL.out holl (by omega)).mono ?_
            rintro e w12 ⟨vc2, vo2, rfl, hN⟩
            obtain ⟨Ac2, cc2, e3, _, _, _⟩ := hN.rowShape (i := 0) rfl
            obtain ⟨Ao2, co2, e6, _, _, _⟩ := hN.rowShape (i := 1) rfl
            subst e3 e6
            have HQ3 := hid (HQ2.out.join hN)
            clear hN
            refine hK (.agg #[.int .i64 nv, .slice Ac2 fcl.length cc2, .slice Ao2 order.length co2]) _ ⟨(HQ3.out.cell (i := 5) rfl 0 rfl).1, (HQ3.out.cell (i := 5) rfl 1 rfl).1, (HQ3.out.cell (i := 5) rfl 2 rfl).1⟩ ?_
            clear hK K
            simp only [Act.put, List.setIfInBounds_toArray, List.set_cons_zero, List.set_cons_succ]
            refine readyH [(5, some 6)] (by kernel_rfl) (by simp) ⟨⟨_, (by rw [List.getElem?_toArray]; rfl), rfl, (by rfl), fun K hK => ?_⟩, trivial⟩
            · go_simp
              have HQ4 := hid (HQ3.out.boxc 28 [.int .i64 0, .slice none 0 0, .slice none 0 0])
              refine hK (.pointer (some ⟨w12.heap.size, 0, none⟩)) _ ⟨(HQ4.out.cell (i := 6) rfl 0 rfl).1, (HQ4.out.cell (i := 6) rfl 1 rfl).1, (HQ4.out.cell (i := 6) rfl 2 rfl).1⟩ ?_
              generalize w12.alloc (.cells #[.int .i64 0, .slice none 0 0, .slice none 0 0] 28) = w13 at *
              generalize w12.heap.size = g6 at *
              clear hK K
              simp only [Act.put, List.setIfInBounds_toArray, List.set_cons_zero, List.set_cons_succ]
              have HZ : Hid (Inv w NoM w13 [rowP cK 32 (.slice Ac1 fcl.length cc1) fcl, rowP Kind.int 3 (.slice Ao1 order.length co1) order, rowP cK 32 (.slice Ac2 fcl.length cc2) fcl, rowP Kind.int 3 (.slice Ao2 order.length co2) order, blkP g5 28 [.int .i64 0, .slice none 0 0, .slice none 0 0], blkP g6 28 [.int .i64 0, .slice none 0 0, .slice none 0 0], blkP w.heap.size 28 [.int .i64 nv, .slice Ac fcl.length cc, .slice Ao order.length co]]) := hid (inv_front 6 (inv_front 6 (inv_front 4 (inv_front 4 (inv_front 4 (inv_front 1 (inv_front 6 HQ4.out rfl) rfl) rfl) rfl) rfl) rfl) rfl)
              clear HQ4
              have q0 := (HZ.out.cell (i := 4) rfl 0 rfl).1
              have f0 := (HZ.out.cell (i := 4) rfl 0 rfl).2
              have q1 := (HZ.out.cell (i := 4) rfl 1 rfl).1
              have f1 := (HZ.out.cell (i := 4) rfl 1 rfl).2
              have q2 := (HZ.out.cell (i := 4) rfl 2 rfl).1
              have f2 := (HZ.out.cell (i := 4) rfl 2 rfl).2
              refine callH (i := 6) none (by rw [List.getElem?_toArray]; rfl) rfl (by kernel_rfl) (by rfl) fun K hK => ?_
              go_simp
              have HZs := hid (((HZ.out.set (i := 4) rfl 0 (.int .i64 nv)).set (i := 4) rfl 1 (.slice Ac1 fcl.length cc1)).set (i := 4) rfl 2 (.slice Ao1 order.length co1))
              clear HZ
              refine hK undef _ ⟨(HZs.out.cell (i := 6) rfl 0 rfl).1, (HZs.out.cell (i := 6) rfl 1 rfl).1, (HZs.out.cell (i := 6) rfl 2 rfl).1⟩ ?_
              clear hK K q0 q1 q2 f0 f1 f2
              generalize (((w13.setCell ⟨g5, 0, none⟩ (.int .i64 nv)).setCell ⟨g5, 1, none⟩ (.slice Ac1 fcl.length cc1)).setCell ⟨g5, 2, none⟩ (.slice Ao1 order.length co1)) = v6 at *
              simp only [Act.put]
              have q0 := (HZs.out.cell (i := 5) rfl 0 rfl).1
              have f0 := (HZs.out.cell (i := 5) rfl 0 rfl).2
              have q1 := (HZs.out.cell (i := 5) rfl 1 rfl).1
              have f1 := (HZs.out.cell (i := 5) rfl 1 rfl).2
              have q2 := (HZs.out.cell (i := 5) rfl 2 rfl).1
              have f2 := (HZs.out.cell (i := 5) rfl 2 rfl).2
              refine callH (i := 7) none (by rw [List.getElem?_toArray]; rfl) rfl (by kernel_rfl) (by rfl) fun K hK => ?_
              go_simp
              have HZss := hid (((HZs.out.set (i := 5) rfl 0 (.int .i64 nv)).set (i := 5) rfl 1 (.slice Ac2 fcl.length cc2)).set (i := 5) rfl 2 (.slice Ao2 order.length co2))
              clear HZs
              refine hK undef _ ⟨(HZss.out.cell (i := 6) rfl 0 rfl).1, (HZss.out.cell (i := 6) rfl 1 rfl).1, (HZss.out.cell (i := 6) rfl 2 rfl).1⟩ ?_
              clear hK K q0 q1 q2 f0 f1 f2
              generalize (((v6.setCell ⟨g6, 0, none⟩ (.int .i64 nv)).setCell ⟨g6, 1, none⟩ (.slice Ac2 fcl.length cc2)).setCell ⟨g6, 2, none⟩ (.slice Ao2 order.length co2)) = v7 at *
              simp only [Act.put]
              refine wpAnyH_done (by kernel_rfl) ?_ _
              refine NoPanic.normal ?_
              go_wp2_with (fail)
              go_meet
              case rel => exact ⟨g5, g6, Ac1, cc1, Ao1, co1, Ac2, cc2, Ao2, co2, rfl, rfl, HZss⟩
          · go_simp
            have HQ3 := hid (HQ2.out.boxc 28 [.int .i64 0, .slice none 0 0, .slice none 0 0])
            refine hK (.pointer (some ⟨w11.heap.size, 0, none⟩)) _ ⟨(HQ3.out.cell (i := 4) rfl 0 rfl).1, (HQ3.out.cell (i := 4) rfl 1 rfl).1, (HQ3.out.cell (i := 4) rfl 2 rfl).1⟩ ?_
            generalize w11.alloc (.cells #[.int .i64 0, .slice none 0 0, .slice none 0 0] 28) = w12 at *
            generalize w11.heap.size = g6 at *
            clear hK K
            simp only [Act.put, List.setIfInBounds_toArray, List.set_cons_zero, List.set_cons_succ]
            refine readyH [(3, some 26)] (by kernel_rfl) (by simp) ⟨⟨_, (by rw [List.getElem?_toArray]; rfl), rfl, (by rfl), fun K hK => ?_⟩, trivial⟩
            · go_simp
              refine (RCopy_calls (S := S) (HC.out.chg HQ3.out.chg (fun _ _ => id)) (HO.out.chg HQ3.out.chg (fun _ _ => id)) HLL.out holl (by omega)).mono ?_
              rintro e w13 ⟨vc2, vo2, rfl, hN⟩
              obtain ⟨Ac2, cc2, e3, _, _, _⟩ := hN.rowShape (i := 0) rfl
              obtain ⟨Ao2, co2, e6, _, _, _⟩ := hN.rowShape (i := 1) rfl
              subst e3 e6
              have HQ4 := hid (HQ3.out.join hN)
              clear hN
              refine hK (.agg #[.int .i64 nv, .slice Ac2 fcl.length cc2, .slice Ao2 order.length co2]) _ ⟨(HQ4.out.cell (i := 6) rfl 0 rfl).1, (HQ4.out.cell (i := 6) rfl 1 rfl).1, (HQ4.out.cell (i := 6) rfl 2 rfl).1⟩ ?_
              clear hK K
              simp only [Act.put, List.setIfInBounds_toArray, List.set_cons_zero, List.set_cons_succ]
              have HZ : Hid (Inv w NoM w13 [rowP cK 32 (.slice Ac1 fcl.length cc1) fcl, rowP Kind.int 3 (.slice Ao1 order.length co1) order, rowP cK 32 (.slice Ac2 fcl.length cc2) fcl, rowP Kind.int 3 (.slice Ao2 order.length co2) order, blkP g5 28 [.int .i64 0, .slice none 0 0, .slice none 0 0], blkP g6 28 [.int .i64 0, .slice none 0 0, .slice none 0 0], blkP w.heap.size 28 [.int .i64 nv, .slice Ac fcl.length cc, .slice Ao order.length co]]) := hid (inv_front 6 (inv_front 6 (inv_front 4 (inv_front 4 (inv_front 4 (inv_front 3 (inv_front 6 HQ4.out rfl) rfl) rfl) rfl) rfl) rfl) rfl)
              clear HQ4
              have q0 := (HZ.out.cell (i := 4) rfl 0 rfl).1
              have f0 := (HZ.out.cell (i := 4) rfl 0 rfl).2
              have q1 := (HZ.out.cell (i := 4) rfl 1 rfl).1
              have f1 := (HZ.out.cell (i := 4) rfl 1 rfl).2
              have q2 := (HZ.out.cell (i := 4) rfl 2 rfl).1
              have f2 := (HZ.out.cell (i := 4) rfl 2 rfl).2
              refine callH (i := 6) none (by rw [List.getElem?_toArray]; rfl) rfl (by kernel_rfl) (by rfl) fun K hK => ?_
              go_simp
              have HZs := hid (((HZ.out.set (i := 4) rfl 0 (.int .i64 nv)).set (i := 4) rfl 1 (.slice Ac1 fcl.length cc1)).set (i := 4) rfl 2 (.slice Ao1 order.length co1))
              clear HZ
              refine hK undef _ ⟨(HZs.out.cell (i := 6) rfl 0 rfl).1, (HZs.out.cell (i := 6) rfl 1 rfl).1, (HZs.out.cell (i := 6) rfl 2 rfl).1⟩ ?_
              clear hK K q0 q1 q2 f0 f1 f2
              generalize (((w13.setCell ⟨g5, 0, none⟩ (.int .i64 nv)).setCell ⟨g5, 1, none⟩ (.slice Ac1 fcl.length cc1)).setCell ⟨g5, 2, none⟩ (.slice Ao1 order.length co1)) = v6 at *
              simp only [Act.put]
              have q0 := (HZs.out.cell (i := 5) rfl 0 rfl).1
              have f0 := (HZs.out.cell (i := 5) rfl 0 rfl).2
              have q1 := (HZs.out.cell (i := 5) rfl 1 rfl).1
              have f1 := (HZs.out.cell (i := 5) rfl 1 rfl).2
              have q2 := (HZs.out.cell (i := 5) rfl 2 rfl).1
              have f2 := (HZs.out.cell (i := 5) rfl 2 rfl).2
              refine callH (i := 7) none (by rw [List.getElem?_toArray]; rfl) rfl (by kernel_rfl) (by rfl) fun K hK => ?_
              go_simp
              have HZss := hid (((HZs.out.set (i := 5) rfl 0 (.int .i64 nv)).set (i := 5) rfl 1 (.slice Ac2 fcl.length cc2)).set (i := 5) rfl 2 (.slice Ao2 order.length co2))
              clear HZs
              refine hK undef _ ⟨(HZss.out.cell (i := 6) rfl 0 rfl).1, (HZss.out.cell (i := 6) rfl 1 rfl).1, (HZss.out.cell (i := 6) rfl 2 rfl).1⟩ ?_
              clear hK K q0 q1 q2 f0 f1 f2
              generalize (((v6.setCell ⟨g6, 0, none⟩ (.int .i64 nv)).setCell ⟨g6, 1, none⟩ (.slice Ac2 fcl.length cc2)).setCell ⟨g6, 2, none⟩ (.slice Ao2 order.length co2)) = v7 at *
              simp only [Act.put]
              refine wpAnyH_done (by kernel_rfl) ?_ _
              refine NoPanic.normal ?_
              go_wp2_with (fail)
              go_meet
              case rel => exact ⟨g5, g6, Ac1, cc1, Ao1, co1, Ac2, cc2, Ao2, co2, rfl, rfl, HZss⟩
        · go_simp
          have HQ2 := hid (HQ1.out.boxc 28 [.int .i64 0, .slice none 0 0, .slice none 0 0])
          refine hK (.pointer (some ⟨w10.heap.size, 0, none⟩)) _ ⟨(HQ2.out.cell (i := 3) rfl 0 rfl).1, (HQ2.out.cell (i := 3) rfl 1 rfl).1, (HQ2.out.cell (i := 3) rfl 2 rfl).1⟩ ?_
          generalize w10.alloc (.cells #[.int .i64 0, .slice none 0 0, .slice none 0 0] 28) = w11 at *
          generalize w10.heap.size = g6 at *
          clear hK K
          simp only [Act.put, List.setIfInBounds_toArray, List.set_cons_zero, List.set_cons_succ]
          refine readyH [(3, some 26), (4, some 5)] (by kernel_rfl) (by simp) ⟨⟨_, (by rw [List.getElem?_toArray]; rfl), rfl, (by rfl), fun K hK => ?_⟩, ⟨_, (by rw [List.getElem?_toArray]; rfl), rfl, (by rfl), fun K hK => ?_⟩, trivial⟩
          · go_simp
            refine (RCopy_calls (S := S) (HC.out.chg HQ2.out.chg (fun _ _ => id)) (HO.out.chg HQ2.out.chg (fun _ _ => id)) HLL.out holl (by omega)).mono ?_
            rintro e w12 ⟨vc2, vo2, rfl, hN⟩
            obtain ⟨Ac2, cc2, e3, _, _, _⟩ := hN.rowShape (i := 0) rfl
            obtain ⟨Ao2, co2, e6, _, _, _⟩ := hN.rowShape (i := 1) rfl
            subst e3 e6
            have HQ3 := hid (HQ2.out.join hN)
            clear hN
            refine hK (.agg #[.int .i64 nv, .slice Ac2 fcl.length cc2, .slice Ao2 order.length co2]) _ ⟨(HQ3.out.cell (i := 5) rfl 0 rfl).1, (HQ3.out.cell (i := 5) rfl 1 rfl).1, (HQ3.out.cell (i := 5) rfl 2 rfl).1⟩ ?_
            clear hK K
            simp only [Act.put, List.setIfInBounds_toArray, List.set_cons_zero, List.set_cons_succ]
            refine readyH [(4, some 5)] (by kernel_rfl) (by simp) ⟨⟨_, (by rw [List.getElem?_toArray]; rfl), rfl, (by rfl), fun K hK => ?_⟩, trivial⟩
            · go_simp
              have HQ4 := hid (HQ3.out.boxc 28 [.int .i64 0, .slice none 0 0, .slice none 0 0])
              refine hK (.pointer (some ⟨w12.heap.size, 0, none⟩)) _ ⟨(HQ4.out.cell (i := 6) rfl 0 rfl).1, (HQ4.out.cell (i := 6) rfl 1 rfl).1, (HQ4.out.cell (i := 6) rfl 2 rfl).1⟩ ?_
              generalize w12.alloc (.cells #[.int .i64 0, .slice none 0 0, .slice none 0 0] 28) = w13 at *
              generalize w12.heap.size = g5 at *
              clear hK K
              simp only [Act.put, List.setIfInBounds_toArray, List.set_cons_zero, List.set_cons_succ]
              have HZ : Hid (Inv w NoM w13 [rowP cK 32 (.slice Ac1 fcl.length cc1) fcl, rowP Kind.int 3 (.slice Ao1 order.length co1) order, rowP cK 32 (.slice Ac2 fcl.length cc2) fcl, rowP Kind.int 3 (.slice Ao2 order.length co2) order, blkP g5 28 [.int .i64 0, .slice none 0 0, .slice none 0 0], blkP g6 28 [.int .i64 0, .slice none 0 0, .slice none 0 0], blkP w.heap.size 28 [.int .i64 nv, .slice Ac fcl.length cc, .slice Ao order.length co]]) := hid (inv_front 6 (inv_front 6 (inv_front 4 (inv_front 4 (inv_front 2 (inv_front 4 (inv_front 6 HQ4.out rfl) rfl) rfl) rfl) rfl) rfl) rfl)
              clear HQ4
              have q0 := (HZ.out.cell (i := 4) rfl 0 rfl).1
              have f0 := (HZ.out.cell (i := 4) rfl 0 rfl).2
              have q1 := (HZ.out.cell (i := 4) rfl 1 rfl).1
              have f1 := (HZ.out.cell (i := 4) rfl 1 rfl).2
              have q2 := (HZ.out.cell (i := 4) rfl 2 rfl).1
              have f2 := (HZ.out.cell (i := 4) rfl 2 rfl).2
              refine callH (i := 6) none (by rw [List.getElem?_toArray]; rfl) rfl (by kernel_rfl) (by rfl) fun K hK => ?_
              go_simp
              have HZs := hid (((HZ.out.set (i := 4) rfl 0 (.int .i64 nv)).set (i := 4) rfl 1 (.slice Ac1 fcl.length cc1)).set (i := 4) rfl 2 (.slice Ao1 order.length co1))
              clear HZ
              refine hK undef _ ⟨(HZs.out.cell (i := 6) rfl 0 rfl).1, (HZs.out.cell (i := 6) rfl 1 rfl).1, (HZs.out.cell (i := 6) rfl 2 rfl).1⟩ ?_
              clear hK K q0 q1 q2 f0 f1 f2
              generalize (((w13.setCell ⟨g5, 0, none⟩ (.int .i64 nv)).setCell ⟨g5, 1, none⟩ (.slice Ac1 fcl.length cc1)).setCell ⟨g5, 2, none⟩ (.slice Ao1 order.length co1)) = v6 at *
              simp only [Act.put]
              have q0 := (HZs.out.cell (i := 5) rfl 0 rfl).1
              have f0 := (HZs.out.cell (i := 5) rfl 0 rfl).2
              have q1 := (HZs.out.cell (i := 5) rfl 1 rfl).1
              have f1 := (HZs.out.cell (i := 5) rfl 1 rfl).2
              have q2 := (HZs.out.cell (i := 5) rfl 2 rfl).1
              have f2 := (HZs.out.cell (i := 5) rfl 2 rfl).2
              refine callH (i := 7) none (by rw [List.getElem?_toArray]; rfl) rfl (by kernel_rfl) (by rfl) fun K hK => ?_
              go_simp
              have HZss := hid (((HZs.out.set (i := 5) rfl 0 (.int .i64 nv)).set (i := 5) rfl 1 (.slice Ac2 fcl.length cc2)).set (i := 5) rfl 2 (.slice Ao2 order.length co2))
              clear HZs
              refine hK undef _ ⟨(HZss.out.cell (i := 6) rfl 0 rfl).1, (HZss.out.cell (i := 6) rfl 1 rfl).1, (HZss.out.cell (i := 6) rfl 2 rfl).1⟩ ?_
              clear hK K q0 q1 q2 f0 f1 f2
              generalize (((v6.setCell ⟨g6, 0, none⟩ (.int .i64 nv)).setCell ⟨g6, 1, none⟩ (.slice Ac2 fcl.length cc2)).setCell ⟨g6, 2, none⟩ (.slice Ao2 order.length co2)) = v7 at *
              simp only [Act.put]
              refine wpAnyH_done (by kernel_rfl) ?_ _
              refine NoPanic.normal ?_
              go_wp2_with (fail)
              go_meet
              case rel => exact ⟨g5, g6, Ac1, cc1, Ao1, co1, Ac2, cc2, Ao2, co2, rfl, rfl, HZss⟩
          · go_simp
            have HQ3 := hid (HQ2.out.boxc 28 [.int .i64 0, .slice none 0 0, .slice none 0 0])
            refine hK (.pointer (some ⟨w11.heap.size, 0, none⟩)) _ ⟨(HQ3.out.cell (i := 4) rfl 0 rfl).1, (HQ3.out.cell (i := 4) rfl 1 rfl).1, (HQ3.out.cell (i := 4) rfl 2 rfl).1⟩ ?_
            generalize w11.alloc (.cells #[.int .i64 0, .slice none 0 0, .slice none 0 0] 28) = w12 at *
            generalize w11.heap.size = g5 at *
            clear hK K
            simp only [Act.put, List.setIfInBounds_toArray, List.set_cons_zero, List.set_cons_succ]
            refine readyH [(3, some 26)] (by kernel_rfl) (by simp) ⟨⟨_, (by rw [List.getElem?_toArray]; rfl), rfl, (by rfl), fun K hK => ?_⟩, trivial⟩
            · go_simp
              refine (RCopy_calls (S := S) (HC.out.chg HQ3.out.chg (fun _ _ => id)) (HO.out.chg HQ3.out.chg (fun _ _ => id)) HLL.out holl (by omega)).mono ?_
              rintro e w13 ⟨vc2, vo2, rfl, hN⟩
              obtain ⟨Ac2, cc2, e3, _, _, _⟩ := hN.rowShape (i := 0) rfl
              obtain ⟨Ao2, co2, e6, _, _, _⟩ := hN.rowShape (i := 1) rfl
              subst e3 e6
              have HQ4 := hid (HQ3.out.join hN)
              clear hN
              refine hK (.agg #[.int .i64 nv, .slice Ac2 fcl.length cc2, .slice Ao2 order.length co2]) _ ⟨(HQ4.out.cell (i := 6) rfl 0 rfl).1, (HQ4.out.cell (i := 6) rfl 1 rfl).1, (HQ4.out.cell (i := 6) rfl 2 rfl).1⟩ ?_
              clear hK K
              simp only [Act.put, List.setIfInBounds_toArray, List.set_cons_zero, List.set_cons_succ]
              have HZ : Hid (Inv w NoM w13 [rowP cK 32 (.slice Ac1 fcl.length cc1) fcl, rowP Kind.int 3 (.slice Ao1 order.length co1) order, rowP cK 32 (.slice Ac2 fcl.length cc2) fcl, rowP Kind.int 3 (.slice Ao2 order.length co2) order, blkP g5 28 [.int .i64 0, .slice none 0 0, .slice none 0 0], blkP g6 28 [.int .i64 0, .slice none 0 0, .slice none 0 0], blkP w.heap.size 28 [.int .i64 nv, .slice Ac fcl.length cc, .slice Ao order.length co]]) := hid (inv_front 6 (inv_front 6 (inv_front 4 (inv_front 4 (inv_front 4 (inv_front 4 (inv_front 6 HQ4.out rfl) rfl) rfl) rfl) rfl) rfl) rfl)
              clear HQ4
              have q0 := (HZ.out.cell (i := 4) rfl 0 rfl).1
              have f0 := (HZ.out.cell (i := 4) rfl 0 rfl).2
              have q1 := (HZ.out.cell (i := 4) rfl 1 rfl).1
              have f1 := (HZ.out.cell (i := 4) rfl 1 rfl).2
              have q2 := (HZ.out.cell (i := 4) rfl 2 rfl).1
              have f2 := (HZ.out.cell (i := 4) rfl 2 rfl).2
              refine callH (i := 6) none (by rw [List.getElem?_toArray]; rfl) rfl (by kernel_rfl) (by rfl) fun K hK => ?_
              go_simp
              have HZs := hid (((HZ.out.set (i := 4) rfl 0 (.int .i64 nv)).set (i := 4) rfl 1 (.slice Ac1 fcl.length cc1)).set (i := 4) rfl 2 (.slice Ao1 order.length co1))
              clear HZ
              refine hK undef _ ⟨(HZs.out.cell (i := 6) rfl 0 rfl).1, (HZs.out.cell (i := 6) rfl 1 rfl).1, (HZs.out.cell (i := 6) rfl 2 rfl).1⟩ ?_
              clear hK K q0 q1 q2 f0 f1 f2
              generalize (((w13.setCell ⟨g5, 0, none⟩ (.int .i64 nv)).setCell ⟨g5, 1, none⟩ (.slice Ac1 fcl.length cc1)).setCell ⟨g5, 2, none⟩ (.slice Ao1 order.length co1)) = v6 at *
              simp only [Act.put]
              have q0 := (HZs.out.cell (i := 5) rfl 0 rfl).1
              have f0 := (HZs.out.cell (i := 5) rfl 0 rfl).2
              have q1 := (HZs.out.cell (i := 5) rfl 1 rfl).1
              have f1 := (HZs.out.cell (i := 5) rfl 1 rfl).2
              have q2 := (HZs.out.cell (i := 5) rfl 2 rfl).1
              have f2 := (HZs.out.cell (i := 5) rfl 2 rfl).2
              refine callH (i := 7) none (by rw [List.getElem?_toArray]; rfl) rfl (by kernel_rfl) (by rfl) fun K hK => ?_
              go_simp
              have HZss := hid (((HZs.out.set (i := 5) rfl 0 (.int .i64 nv)).set (i := 5) rfl 1 (.slice Ac2 fcl.length cc2)).set (i := 5) rfl 2 (.slice Ao2 order.length co2))
              clear HZs
              refine hK undef _ ⟨(HZss.out.cell (i := 6) rfl 0 rfl).1, (HZss.out.cell (i := 6) rfl 1 rfl).1, (HZss.out.cell (i := 6) rfl 2 rfl).1⟩ ?_
              clear hK K q0 q1 q2 f0 f1 f2
              generalize (((v6.setCell ⟨g6, 0, none⟩ (.int .i64 nv)).setCell ⟨g6, 1, none⟩ (.slice Ac2 fcl.length cc2)).setCell ⟨g6, 2, none⟩ (.slice Ao2 order.length co2)) = v7 at *
              simp only [Act.put]
              refine wpAnyH_done (by kernel_rfl) ?_ _
              refine NoPanic.normal ?_
              go_wp2_with (fail)
              go_meet
              case rel => exact ⟨g5, g6, Ac1, cc1, Ao1, co1, Ac2, cc2, Ao2, co2, rfl, rfl, HZss⟩
      · go_simp
        have HQ1 := hid (HQ0.out.boxc 28 [.int .i64 0, .slice none 0 0, .slice none 0 0])
        refine hK (.pointer (some ⟨w9.heap.size, 0, none⟩)) _ ⟨(HQ1.out.cell (i := 1) rfl 0 rfl).1, (HQ1.out.cell (i := 1) rfl 1 rfl).1, (HQ1.out.cell (i := 1) rfl 2 rfl).1⟩ ?_
        generalize w9.alloc (.cells #[.int .i64 0, .slice none 0 0, .slice none 0 0] 28) = w10 at *
        generalize w9.heap.size = g5 at *
        clear hK K
        simp only [Act.put, List.setIfInBounds_toArray, List.set_cons_zero, List.set_cons_succ]
        refine readyH [(1, some 24), (5, some 6)] (by kernel_rfl) (by simp) ⟨⟨_, (by rw [List.getElem?_toArray]; rfl), rfl, (by rfl), fun K hK => ?_⟩, ⟨_, (by rw [List.getElem?_toArray]; rfl), rfl, (by rfl), fun K hK => ?_⟩, trivial⟩
        · go_simp
          refine (RCopy_calls (S := S) (HC.out.chg HQ1.out.chg (fun _ _ => id)) (HO.out.chg HQ1.out.chg (fun _ _ => id)) HLL.out holl (by omega)).mono ?_
          rintro e w11 ⟨vc1, vo1, rfl, hN⟩
          obtain ⟨Ac1, cc1, e3, _, _, _⟩ := hN.rowShape (i := 0) rfl
          obtain ⟨Ao1, co1, e6, _, _, _⟩ := hN.rowShape (i := 1) rfl
          subst e3 e6
          have HQ2 := hid (HQ1.out.join hN)
          clear hN
          refine hK (.agg #[.int .i64 nv, .slice Ac1 fcl.length cc1, .slice Ao1 order.length co1]) _ ⟨(HQ2.out.cell (i := 3) rfl 0 rfl).1, (HQ2.out.cell (i := 3) rfl 1 rfl).1, (HQ2.out.cell (i := 3) rfl 2 rfl).1⟩ ?_
          clear hK K
          simp only [Act.put, List.setIfInBounds_toArray, List.set_cons_zero, List.set_cons_succ]
          refine readyH [(3, some 26), (5, some 6)] (by kernel_rfl) (by simp) ⟨⟨_, (by rw [List.getElem?_toArray]; rfl), rfl, (by rfl), fun K hK => ?_⟩, ⟨_, (by rw [List.getElem?_toArray]; rfl), rfl, (by rfl), fun K hK => ?_⟩, trivial⟩
          · go_simp
            refine (RCopy_calls (S := S) (HC.out.chg HQ2.out.chg (fun _ _ => id)) (HO.out.chg HQ2.out.chg (fun _ _ => id)) HLL.out holl (by omega)).mono ?_
            rintro e w12 ⟨vc2, vo2, rfl, hN⟩
            obtain ⟨Ac2, cc2, e3, _, _, _⟩ := hN.rowShape (i := 0) rfl
            obtain ⟨Ao2, co2, e6, _, _, _⟩ := hN.rowShape (i := 1) rfl
            subst e3 e6
            have HQ3 := hid (HQ2.out.join hN)
            clear hN
            refine hK (.agg #[.int .i64 nv, .slice Ac2 fcl.length cc2, .slice Ao2 order.length co2]) _ ⟨(HQ3.out.cell (i := 5) rfl 0 rfl).1, (HQ3.out.cell (i := 5) rfl 1 rfl).1, (HQ3.out.cell (i := 5) rfl 2 rfl).1⟩ ?_
            clear hK K
            simp only [Act.put, List.setIfInBounds_toArray, List.set_cons_zero, List.set_cons_succ]
            refine readyH [(5, some 6)] (by kernel_rfl) (by simp) ⟨⟨_, (by rw [List.getElem?_toArray]; rfl), rfl, (by rfl), fun K hK => ?_⟩, trivial⟩
            · go_simp
              have HQ4 := hid (HQ3.out.boxc 28 [.int .i64 0, .slice none 0 0, .slice none 0 0])
              refine hK (.pointer (some ⟨w12.heap.size, 0, none⟩)) _ ⟨(HQ4.out.cell (i := 6) rfl 0 rfl).1, (HQ4.out.cell (i := 6) rfl 1 rfl).1, (HQ4.out.cell (i := 6) rfl 2 rfl).1⟩ ?_
              generalize w12.alloc (.cells #[.int .i64 0, .slice none 0 0, .slice none 0 0] 28) = w13 at *
              generalize w12.heap.size = g6 at *
              clear hK K
              simp only [Act.put, List.setIfInBounds_toArray, List.set_cons_zero, List.set_cons_succ]
              have HZ : Hid (Inv w NoM w13 [rowP cK 32 (.slice Ac1 fcl.length cc1) fcl, rowP Kind.int 3 (.slice Ao1 order.length co1) order, rowP cK 32 (.slice Ac2 fcl.length cc2) fcl, rowP Kind.int 3 (.slice Ao2 order.length co2) order, blkP g5 28 [.int .i64 0, .slice none 0 0, .slice none 0 0], blkP g6 28 [.int .i64 0, .slice none 0 0, .slice none 0 0], blkP w.heap.size 28 [.int .i64 nv, .slice Ac fcl.length cc, .slice Ao order.length co]]) := hid (inv_front 6 (inv_front 6 (inv_front 4 (inv_front 4 (inv_front 6 (inv_front 1 (inv_front 6 HQ4.out rfl) rfl) rfl) rfl) rfl) rfl) rfl)
              clear HQ4
              have q0 := (HZ.out.cell (i := 4) rfl 0 rfl).1
              have f0 := (HZ.out.cell (i := 4) rfl 0 rfl).2
              have q1 := (HZ.out.cell (i := 4) rfl 1 rfl).1
              have f1 := (HZ.out.cell (i := 4) rfl 1 rfl).2
              have q2 := (HZ.out.cell (i := 4) rfl 2 rfl).1
              have f2 := (HZ.out.cell (i := 4) rfl 2 rfl).2
              refine callH (i := 6) none (by rw [List.getElem?_toArray]; rfl) rfl (by kernel_rfl) (by rfl) fun K hK => ?_
              go_simp
              have HZs := hid (((HZ.out.set (i := 4) rfl 0 (.int .i64 nv)).set (i := 4) rfl 1 (.slice Ac1 fcl.length cc1)).set (i := 4) rfl 2 (.slice Ao1 order.length co1))
              clear HZ
              refine hK undef _ ⟨(HZs.out.cell (i := 6) rfl 0 rfl).1, (HZs.out.cell (i := 6) rfl 1 rfl).1, (HZs.out.cell (i := 6) rfl 2 rfl).1⟩ ?_
              clear hK K q0 q1 q2 f0 f1 f2
              generalize (((w13.setCell ⟨g5, 0, none⟩ (.int .i64 nv)).setCell ⟨g5, 1, none⟩ (.slice Ac1 fcl.length cc1)).setCell ⟨g5, 2, none⟩ (.slice Ao1 order.length co1)) = v6 at *
              simp only [Act.put]
              have q0 := (HZs.out.cell (i := 5) rfl 0 rfl).1
              have f0 := (HZs.out.cell (i := 5) rfl 0 rfl).2
              have q1 := (HZs.out.cell (i := 5) rfl 1 rfl).1
              have f1 := (HZs.out.cell (i := 5) rfl 1 rfl).2
              have q2 := (HZs.out.cell (i := 5) rfl 2 rfl).1
              have f2 := (HZs.out.cell (i := 5) rfl 2 rfl).2
              refine callH (i := 7) none (by rw [List.getElem?_toArray]; rfl) rfl (by kernel_rfl) (by rfl) fun K hK => ?_
              go_simp
              have HZss := hid (((HZs.out.set (i := 5) rfl 0 (.int .i64 nv)).set (i := 5) rfl 1 (.slice Ac2 fcl.length cc2)).set (i := 5) rfl 2 (.slice Ao2 order.length co2))
              clear HZs
              refine hK undef _ ⟨(HZss.out.cell (i := 6) rfl 0 rfl).1, (HZss.out.cell (i := 6) rfl 1 rfl).1, (HZss.out.cell (i := 6) rfl 2 rfl).1⟩ ?_
              clear hK K q0 q1 q2 f0 f1 f2
              generalize (((v6.setCell ⟨g6, 0, none⟩ (.int .i64 nv)).setCell ⟨g6, 1, none⟩ (.slice Ac2 fcl.length cc2)).setCell ⟨g6, 2, none⟩ (.slice Ao2 order.length co2)) = v7 at *
              simp only [Act.put]
              refine wpAnyH_done (by kernel_rfl) ?_ _
              refine NoPanic.normal ?_
              go_wp2_with (fail)
              go_meet
              case rel => exact ⟨g5, g6, Ac1, cc1, Ao1, co1, Ac2, cc2, Ao2, co2, rfl, rfl, HZss⟩
          · go_simp
            have HQ3 := hid (HQ2.out.boxc 28 [.int .i64 0, .slice none 0 0, .slice none 0 0])
            refine hK (.pointer (some ⟨w11.heap.size, 0, none⟩)) _ ⟨(HQ3.out.cell (i := 4) rfl 0 rfl).1, (HQ3.out.cell (i := 4) rfl 1 rfl).1, (HQ3.out.cell (i := 4) rfl 2 rfl).1⟩ ?_
            generalize w11.alloc (.cells #[.int .i64 0, .slice none 0 0, .slice none 0 0] 28) = w12 at *
            generalize w11.heap.size = g6 at *
            clear hK K
            simp only [Act.put, List.setIfInBounds_toArray, List.set_cons_zero, List.set_cons_succ]
            refine readyH [(3, some 26)] (by kernel_rfl) (by simp) ⟨⟨_, (by rw [List.getElem?_toArray]; rfl), rfl, (by rfl), fun K hK => ?_⟩, trivial⟩
            · go_simp
              refine (RCopy_calls (S := S) (HC.out.chg HQ3.out.chg (fun _ _ => id)) (HO.out.chg HQ3.out.chg (fun _ _ => id)) HLL.out holl (by omega)).mono ?_
              rintro e w13 ⟨vc2, vo2, rfl, hN⟩
              obtain ⟨Ac2, cc2, e3, _, _, _⟩ := hN.rowShape (i := 0) rfl
              obtain ⟨Ao2, co2, e6, _, _, _⟩ := hN.rowShape (i := 1) rfl
              subst e3 e6
              have HQ4 := hid (HQ3.out.join hN)
              clear hN
              refine hK (.agg #[.int .i64 nv, .slice Ac2 fcl.length cc2, .slice Ao2 order.length co2]) _ ⟨(HQ4.out.cell (i := 6) rfl 0 rfl).1, (HQ4.out.cell (i := 6) rfl 1 rfl).1, (HQ4.out.cell (i := 6) rfl 2 rfl).1⟩ ?_
              clear hK K
              simp only [Act.put, List.setIfInBounds_toArray, List.set_cons_zero, List.set_cons_succ]
              have HZ : Hid (Inv w NoM w13 [rowP cK 32 (.slice Ac1 fcl.length cc1) fcl, rowP Kind.int 3 (.slice Ao1 order.length co1) order, rowP cK 32 (.slice Ac2 fcl.length cc2) fcl, rowP Kind.int 3 (.slice Ao2 order.length co2) order, blkP g5 28 [.int .i64 0, .slice none 0 0, .slice none 0 0], blkP g6 28 [.int .i64 0, .slice none 0 0, .slice none 0 0], blkP w.heap.size 28 [.int .i64 nv, .slice Ac fcl.length cc, .slice Ao order.length co]]) := hid (inv_front 6 (inv_front 6 (inv_front 4 (inv_front 4 (inv_front 6 (inv_front 3 (inv_front 6 HQ4.out rfl) rfl) rfl) rfl) rfl) rfl) rfl)
              clear HQ4
              have q0 := (HZ.out.cell (i := 4) rfl 0 rfl).1
              have f0 := (HZ.out.cell (i := 4) rfl 0 rfl).2
              have q1 := (HZ.out.cell (i := 4) rfl 1 rfl).1
              have f1 := (HZ.out.cell (i := 4) rfl 1 rfl).2
              have q2 := (HZ.out.cell (i := 4) rfl 2 rfl).1
              have f2 := (HZ.out.cell (i := 4) rfl 2 rfl).2
              refine callH (i := 6) none (by rw [List.getElem?_toArray]; rfl) rfl (by kernel_rfl) (by rfl) fun K hK => ?_
              go_simp
              have HZs := hid (((HZ.out.set (i := 4) rfl 0 (.int .i64 nv)).set (i := 4) rfl 1 (.slice Ac1 fcl.length cc1)).set (i := 4) rfl 2 (.slice Ao1 order.length co1))
              clear HZ
              refine hK undef _ ⟨(HZs.out.cell (i := 6) rfl 0 rfl).1, (HZs.out.cell (i := 6) rfl 1 rfl).1, (HZs.out.cell (i := 6) rfl 2 rfl).1⟩ ?_
              clear hK K q0 q1 q2 f0 f1 f2
              generalize (((w13.setCell ⟨g5, 0, none⟩ (.int .i64 nv)).setCell ⟨g5, 1, none⟩ (.slice Ac1 fcl.length cc1)).setCell ⟨g5, 2, none⟩ (.slice Ao1 order.length co1)) = v6 at *
              simp only [Act.put]
              have q0 := (HZs.out.cell (i := 5) rfl 0 rfl).1
              have f0 := (HZs.out.cell (i := 5) rfl 0 rfl).2
              have q1 := (HZs.out.cell (i := 5) rfl 1 rfl).1
              have f1 := (HZs.out.cell (i := 5) rfl 1 rfl).2
              have q2 := (HZs.out.cell (i := 5) rfl 2 rfl).1
              have f2 := (HZs.out.cell (i := 5) rfl 2 rfl).2
              refine callH (i := 7) none (by rw [List.getElem?_toArray]; rfl) rfl (by kernel_rfl) (by rfl) fun K hK => ?_
              go_simp
              have HZss := hid (((HZs.out.set (i := 5) rfl 0 (.int .i64 nv)).set (i := 5) rfl 1 (.slice Ac2 fcl.length cc2)).set (i := 5) rfl 2 (.slice Ao2 order.length co2))
              clear HZs
              refine hK undef _ ⟨(HZss.out.cell (i := 6) rfl 0 rfl).1, (HZss.out.cell (i := 6) rfl 1 rfl).1, (HZss.out.cell (i := 6) rfl 2 rfl).1⟩ ?_
              clear hK K q0 q1 q2 f0 f1 f2
              generalize (((v6.setCell ⟨g6, 0, none⟩ (.int .i64 nv)).setCell ⟨g6, 1, none⟩ (.slice Ac2 fcl.length cc2)).setCell ⟨g6, 2, none⟩ (.slice Ao2 order.length co2)) = v7 at *
              simp only [Act.put]
              refine wpAnyH_done (by kernel_rfl) ?_ _
              refine NoPanic.normal ?_
              go_wp2_with (fail)
              go_meet
              case rel => exact ⟨g5, g6, Ac1, cc1, Ao1, co1, Ac2, cc2, Ao2, co2, rfl, rfl, HZss⟩
        · go_simp
          have HQ2 := hid (HQ1.out.boxc 28 [.int .i64 0, .slice none 0 0, .slice none 0 0])
          refine hK (.pointer (some ⟨w10.heap.size, 0, none⟩)) _ ⟨(HQ2.out.cell (i := 2) rfl 0 rfl).1, (HQ2.out.cell (i := 2) rfl 1 rfl).1, (HQ2.out.cell (i := 2) rfl 2 rfl).1⟩ ?_
          generalize w10.alloc (.cells #[.int .i64 0, .slice none 0 0, .slice none 0 0] 28) = w11 at *
          generalize w10.heap.size = g6 at *
          clear hK K
          simp only [Act.put, List.setIfInBounds_toArray, List.set_cons_zero, List.set_cons_succ]
          refine readyH [(1, some 24)] (by kernel_rfl) (by simp) ⟨⟨_, (by rw [List.getElem?_toArray]; rfl), rfl, (by rfl), fun K hK => ?_⟩, trivial⟩
          · go_simp
            refine (RCopy_calls (S := S) (HC.out.chg HQ2.out.chg (fun _ _ => id)) (HO.out.chg HQ2.out.chg (fun _ _ => id)) HLL.out holl (by omega)).mono ?_
            rintro e w12 ⟨vc1, vo1, rfl, hN⟩
            obtain ⟨Ac1, cc1, e3, _, _, _⟩ := hN.rowShape (i := 0) rfl
            obtain ⟨Ao1, co1, e6, _, _, _⟩ := hN.rowShape (i := 1) rfl
            subst e3 e6
            have HQ3 := hid (HQ2.out.join hN)
            clear hN
            refine hK (.agg #[.int .i64 nv, .slice Ac1 fcl.length cc1, .slice Ao1 order.length co1]) _ ⟨(HQ3.out.cell (i := 4) rfl 0 rfl).1, (HQ3.out.cell (i := 4) rfl 1 rfl).1, (HQ3.out.cell (i := 4) rfl 2 rfl).1⟩ ?_
            clear hK K
            simp only [Act.put, List.setIfInBounds_toArray, List.set_cons_zero, List.set_cons_succ]
            refine readyH [(3, some 26)] (by kernel_rfl) (by simp) ⟨⟨_, (by rw [List.getElem?_toArray]; rfl), rfl, (by rfl), fun K hK => ?_⟩, trivial⟩
            · go_simp
              refine (RCopy_calls (S := S) (HC.out.chg HQ3.out.chg (fun _ _ => id)) (HO.out.chg HQ3.out.chg (fun _ _ => id)) HLL.out holl (by omega)).mono ?_
              rintro e w13 ⟨vc2, vo2, rfl, hN⟩
              obtain ⟨Ac2, cc2, e3, _, _, _⟩ := hN.rowShape (i := 0) rfl
              obtain ⟨Ao2, co2, e6, _, _, _⟩ := hN.rowShape (i := 1) rfl
              subst e3 e6
              have HQ4 := hid (HQ3.out.join hN)
              clear hN
              refine hK (.agg #[.int .i64 nv, .slice Ac2 fcl.length cc2, .slice Ao2 order.length co2]) _ ⟨(HQ4.out.cell (i := 6) rfl 0 rfl).1, (HQ4.out.cell (i := 6) rfl 1 rfl).1, (HQ4.out.cell (i := 6) rfl 2 rfl).1⟩ ?_
              clear hK K
              simp only [Act.put, List.setIfInBounds_toArray, List.set_cons_zero, List.set_cons_succ]
              have HZ : Hid (Inv w NoM w13 [rowP cK 32 (.slice Ac1 fcl.length cc1) fcl, rowP Kind.int 3 (.slice Ao1 order.length co1) order, rowP cK 32 (.slice Ac2 fcl.length cc2) fcl, rowP Kind.int 3 (.slice Ao2 order.length co2) order, blkP g5 28 [.int .i64 0, .slice none 0 0, .slice none 0 0], blkP g6 28 [.int .i64 0, .slice none 0 0, .slice none 0 0], blkP w.heap.size 28 [.int .i64 nv, .slice Ac fcl.length cc, .slice Ao order.length co]]) := hid (inv_front 6 (inv_front 6 (inv_front 4 (inv_front 4 (inv_front 6 (inv_front 5 (inv_front 6 HQ4.out rfl) rfl) rfl) rfl) rfl) rfl) rfl)
              clear HQ4
              have q0 := (HZ.out.cell (i := 4) rfl 0 rfl).1
              have f0 := (HZ.out.cell (i := 4) rfl 0 rfl).2
              have q1 := (HZ.out.cell (i := 4) rfl 1 rfl).1
              have f1 := (HZ.out.cell (i := 4) rfl 1 rfl).2
              have q2 := (HZ.out.cell (i := 4) rfl 2 rfl).1
              have f2 := (HZ.out.cell (i := 4) rfl 2 rfl).2
              refine callH (i := 6) none (by rw [List.getElem?_toArray]; rfl) rfl (by kernel_rfl) (by rfl) fun K hK => ?_
              go_simp
              have HZs := hid (((HZ.out.set (i := 4) rfl 0 (.int .i64 nv)).set (i := 4) rfl 1 (.slice Ac1 fcl.length cc1)).set (i := 4) rfl 2 (.slice Ao1 order.length co1))
              clear HZ
              refine hK undef _ ⟨(HZs.out.cell (i := 6) rfl 0 rfl).1, (HZs.out.cell (i := 6) rfl 1 rfl).1, (HZs.out.cell (i := 6) rfl 2 rfl).1⟩ ?_
              clear hK K q0 q1 q2 f0 f1 f2
              generalize (((w13.setCell ⟨g5, 0, none⟩ (.int .i64 nv)).setCell ⟨g5, 1, none⟩ (.slice Ac1 fcl.length cc1)).setCell ⟨g5, 2, none⟩ (.slice Ao1 order.length co1)) = v6 at *
              simp only [Act.put]
              have q0 := (HZs.out.cell (i := 5) rfl 0 rfl).1
              have f0 := (HZs.out.cell (i := 5) rfl 0 rfl).2
              have q1 := (HZs.out.cell (i := 5) rfl 1 rfl).1
              have f1 := (HZs.out.cell (i := 5) rfl 1 rfl).2
              have q2 := (HZs.out.cell (i := 5) rfl 2 rfl).1
              have f2 := (HZs.out.cell (i := 5) rfl 2 rfl).2
              refine callH (i := 7) none (by rw [List.getElem?_toArray]; rfl) rfl (by kernel_rfl) (by rfl) fun K hK => ?_
              go_simp
              have HZss := hid (((HZs.out.set (i := 5) rfl 0 (.int .i64 nv)).set (i := 5) rfl 1 (.slice Ac2 fcl.length cc2)).set (i := 5) rfl 2 (.slice Ao2 order.length co2))
              clear HZs
              refine hK undef _ ⟨(HZss.out.cell (i := 6) rfl 0 rfl).1, (HZss.out.cell (i := 6) rfl 1 rfl).1, (HZss.out.cell (i := 6) rfl 2 rfl).1⟩ ?_
              clear hK K q0 q1 q2 f0 f1 f2
              generalize (((v6.setCell ⟨g6, 0, none⟩ (.int .i64 nv)).setCell ⟨g6, 1, none⟩ (.slice Ac2 fcl.length cc2)).setCell ⟨g6, 2, none⟩ (.slice Ao2 order.length co2)) = v7 at *
              simp only [Act.put]
              refine wpAnyH_done (by kernel_rfl) ?_ _
              refine NoPanic.normal ?_
              go_wp2_with (fail)
              go_meet
              case rel => exact ⟨g5, g6, Ac1, cc1, Ao1, co1, Ac2, cc2, Ao2, co2, rfl, rfl, HZss⟩
      · go_simp
        have HQ1 := hid (HQ0.out.boxc 28 [.int .i64 0, .slice none 0 0, .slice none 0 0])
        refine hK (.pointer (some ⟨w9.heap.size, 0, none⟩)) _ ⟨(HQ1.out.cell (i := 1) rfl 0 rfl).1, (HQ1.out.cell (i := 1) rfl 1 rfl).1, (HQ1.out.cell (i := 1) rfl 2 rfl).1⟩ ?_
        generalize w9.alloc (.cells #[.int .i64 0, .slice none 0 0, .slice none 0 0] 28) = w10 at *
        generalize w9.heap.size = g6 at *
        clear hK K
        simp only [Act.put, List.setIfInBounds_toArray, List.set_cons_zero, List.set_cons_succ]
        refine readyH [(1, some 24), (4, some 5)] (by kernel_rfl) (by simp) ⟨⟨_, (by rw [List.getElem?_toArray]; rfl), rfl, (by rfl), fun K hK => ?_⟩, ⟨_, (by rw [List.getElem?_toArray]; rfl), rfl, (by rfl), fun K hK => ?_⟩, trivial⟩
        · go_simp
          refine (RCopy_calls (S := S) (HC.out.chg HQ1.out.chg (fun _ _ => id)) (HO.out.chg HQ1.out.chg (fun _ _ => id)) HLL.out holl (by omega)).mono ?_
          rintro e w11 ⟨vc1, vo1, rfl, hN⟩
          obtain ⟨Ac1, cc1, e3, _, _, _⟩ := hN.rowShape (i := 0) rfl
          obtain ⟨Ao1, co1, e6, _, _, _⟩ := hN.rowShape (i := 1) rfl
          subst e3 e6
          have HQ2 := hid (HQ1.out.join hN)
          clear hN
          refine hK (.agg #[.int .i64 nv, .slice Ac1 fcl.length cc1, .slice Ao1 order.length co1]) _ ⟨(HQ2.out.cell (i := 3) rfl 0 rfl).1, (HQ2.out.cell (i := 3) rfl 1 rfl).1, (HQ2.out.cell (i := 3) rfl 2 rfl).1⟩ ?_
          clear hK K
          simp only [Act.put, List.setIfInBounds_toArray, List.set_cons_zero, List.set_cons_succ]
          refine readyH [(3, some 26), (4, some 5)] (by kernel_rfl) (by simp) ⟨⟨_, (by rw [List.getElem?_toArray]; rfl), rfl, (by rfl), fun K hK => ?_⟩, ⟨_, (by rw [List.getElem?_toArray]; rfl), rfl, (by rfl), fun K hK => ?_⟩, trivial⟩
          · go_simp
            refine (RCopy_calls (S := S) (HC.out.chg HQ2.out.chg (fun _ _ => id)) (HO.out.chg HQ2.out.chg (fun _ _ => id)) HLL.out holl (by omega)).mono ?_
            rintro e w12 ⟨vc2, vo2, rfl, hN⟩
            obtain ⟨Ac2, cc2, e3, _, _, _⟩ := hN.rowShape (i := 0) rfl
            obtain ⟨Ao2, co2, e6, _, _, _⟩ := hN.rowShape (i := 1) rfl
            subst e3 e6
            have HQ3 := hid (HQ2.out.join hN)
            clear hN
            refine hK (.agg #[.int .i64 nv, .slice Ac2 fcl.length cc2, .slice Ao2 order.length co2]) _ ⟨(HQ3.out.cell (i := 5) rfl 0 rfl).1, (HQ3.out.cell (i := 5) rfl 1 rfl).1, (HQ3.out.cell (i := 5) rfl 2 rfl).1⟩ ?_
            clear hK K
            simp only [Act.put, List.setIfInBounds_toArray, List.set_cons_zero, List.set_cons_succ]
            refine readyH [(4, some 5)] (by kernel_rfl) (by simp) ⟨⟨_, (by rw [List.getElem?_toArray]; rfl), rfl, (by rfl), fun K hK => ?_⟩, trivial⟩
            · go_simp
              have HQ4 := hid (HQ3.out.boxc 28 [.int .i64 0, .slice none 0 0, .slice none 0 0])
              refine hK (.pointer (some ⟨w12.heap.size, 0, none⟩)) _ ⟨(HQ4.out.cell (i := 6) rfl 0 rfl).1, (HQ4.out.cell (i := 6) rfl 1 rfl).1, (HQ4.out.cell (i := 6) rfl 2 rfl).1⟩ ?_
              generalize w12.alloc (.cells #[.int .i64 0, .slice none 0 0, .slice none 0 0] 28) = w13 at *
              generalize w12.heap.size = g5 at *
              clear hK K
              simp only [Act.put, List.setIfInBounds_toArray, List.set_cons_zero, List.set_cons_succ]
              have HZ : Hid (Inv w NoM w13 [rowP cK 32 (.slice Ac1 fcl.length cc1) fcl, rowP Kind.int 3 (.slice Ao1 order.length co1) order, rowP cK 32 (.slice Ac2 fcl.length cc2) fcl, rowP Kind.int 3 (.slice Ao2 order.length co2) order, blkP g5 28 [.int .i64 0, .slice none 0 0, .slice none 0 0], blkP g6 28 [.int .i64 0, .slice none 0 0, .slice none 0 0], blkP w.heap.size 28 [.int .i64 nv, .slice Ac fcl.length cc, .slice Ao order.length co]]) := hid (inv_front 6 (inv_front 6 (inv_front 4 (inv_front 4 (inv_front 2 (inv_front 6 (inv_front 6 HQ4.out rfl) rfl) rfl) rfl) rfl) rfl) rfl)
              clear HQ4
              have q0 := (HZ.out.cell (i := 4) rfl 0 rfl).1
              have f0 := (HZ.out.cell (i := 4) rfl 0 rfl).2
              have q1 := (HZ.out.cell (i := 4) rfl 1 rfl).1
              have f1 := (HZ.out.cell (i := 4) rfl 1 rfl).2
              have q2 := (HZ.out.cell (i := 4) rfl 2 rfl).1
              have f2 := (HZ.out.cell (i := 4) rfl 2 rfl).2
              refine callH (i := 6) none (by rw [List.getElem?_toArray]; rfl) rfl (by kernel_rfl) (by rfl) fun K hK => ?_
              go_simp
              have HZs := hid (((HZ.out.set (i := 4) rfl 0 (.int .i64 nv)).set (i := 4) rfl 1 (.slice Ac1 fcl.length cc1)).set (i := 4) rfl 2 (.slice Ao1 order.length co1))
              clear HZ
              refine hK undef _ ⟨(HZs.out.cell (i := 6) rfl 0 rfl).1, (HZs.out.cell (i := 6) rfl 1 rfl).1, (HZs.out.cell (i := 6) rfl 2 rfl).1⟩ ?_
              clear hK K q0 q1 q2 f0 f1 f2
              generalize (((w13.setCell ⟨g5, 0, none⟩ (.int .i64 nv)).setCell ⟨g5, 1, none⟩ (.slice Ac1 fcl.length cc1)).setCell ⟨g5, 2, none⟩ (.slice Ao1 order.length co1)) = v6 at *
              simp only [Act.put]
              have q0 := (HZs.out.cell (i := 5) rfl 0 rfl).1
              have f0 := (HZs.out.cell (i := 5) rfl 0 rfl).2
              have q1 := (HZs.out.cell (i := 5) rfl 1 rfl).1
              have f1 := (HZs.out.cell (i := 5) rfl 1 rfl).2
              have q2 := (HZs.out.cell (i := 5) rfl 2 rfl).1
              have f2 := (HZs.out.cell (i := 5) rfl 2 rfl).2
              refine callH (i := 7) none (by rw [List.getElem?_toArray]; rfl) rfl (by kernel_rfl) (by rfl) fun K hK => ?_
              go_simp
              have HZss := hid (((HZs.out.set (i := 5) rfl 0 (.int .i64 nv)).set (i := 5) rfl 1 (.slice Ac2 fcl.length cc2)).set (i := 5) rfl 2 (.slice Ao2 order.length co2))
              clear HZs
              refine hK undef _ ⟨(HZss.out.cell (i := 6) rfl 0 rfl).1, (HZss.out.cell (i := 6) rfl 1 rfl).1, (HZss.out.cell (i := 6) rfl 2 rfl).1⟩ ?_
              clear hK K q0 q1 q2 f0 f1 f2
              generalize (((v6.setCell ⟨g6, 0, none⟩ (.int .i64 nv)).setCell ⟨g6, 1, none⟩ (.slice Ac2 fcl.length cc2)).setCell ⟨g6, 2, none⟩ (.slice Ao2 order.length co2)) = v7 at *
              simp only [Act.put]
              refine wpAnyH_done (by kernel_rfl) ?_ _
              refine NoPanic.normal ?_
              go_wp2_with (fail)
              go_meet
              case rel => exact ⟨g5, g6, Ac1, cc1, Ao1, co1, Ac2, cc2, Ao2, co2, rfl, rfl, HZss⟩
          · go_simp
            have HQ3 := hid (HQ2.out.boxc 28 [.int .i64 0, .slice none 0 0, .slice none 0 0])
            refine hK (.pointer (some ⟨w11.heap.size, 0, none⟩)) _ ⟨(HQ3.out.cell (i := 4) rfl 0 rfl).1, (HQ3.out.cell (i := 4) rfl 1 rfl).1, (HQ3.out.cell (i := 4) rfl 2 rfl).1⟩ ?_
            generalize w11.alloc (.cells #[.int .i64 0, .slice none 0 0, .slice none 0 0] 28) = w12 at *
            generalize w11.heap.size = g5 at *
            clear hK K
            simp only [Act.put, List.setIfInBounds_toArray, List.set_cons_zero, List.set_cons_succ]
            refine readyH [(3, some 26)] (by kernel_rfl) (by simp) ⟨⟨_, (by rw [List.getElem?_toArray]; rfl), rfl, (by rfl), fun K hK => ?_⟩, trivial⟩
            · go_simp
              refine (RCopy_calls (S := S) (HC.out.chg HQ3.out.chg (fun _ _ => id)) (HO.out.chg HQ3.out.chg (fun _ _ => id)) HLL.out holl (by omega)).mono ?_
              rintro e w13 ⟨vc2, vo2, rfl, hN⟩
              obtain ⟨Ac2, cc2, e3, _, _, _⟩ := hN.rowShape (i := 0) rfl
              obtain ⟨Ao2, co2, e6, _, _, _⟩ := hN.rowShape (i := 1) rfl
              subst e3 e6
              have HQ4 := hid (HQ3.out.join hN)
              clear hN
              refine hK (.agg #[.int .i64 nv, .slice Ac2 fcl.length cc2, .slice Ao2 order.length co2]) _ ⟨(HQ4.out.cell (i := 6) rfl 0 rfl).1, (HQ4.out.cell (i := 6) rfl 1 rfl).1, (HQ4.out.cell (i := 6) rfl 2 rfl).1⟩ ?_
              clear hK K
              simp only [Act.put, List.setIfInBounds_toArray, List.set_cons_zero, List.set_cons_succ]
              have HZ : Hid (Inv w NoM w13 [rowP cK 32 (.slice Ac1 fcl.length cc1) fcl, rowP Kind.int 3 (.slice Ao1 order.length co1) order, rowP cK 32 (.slice Ac2 fcl.length cc2) fcl, rowP Kind.int 3 (.slice Ao2 order.length co2) order, blkP g5 28 [.int .i64 0, .slice none 0 0, .slice none 0 0], blkP g6 28 [.int .i64 0, .slice none 0 0, .slice none 0 0], blkP w.heap.size 28 [.int .i64 nv, .slice Ac fcl.length cc, .slice Ao order.length co]]) := hid (inv_front 6 (inv_front 6 (inv_front 4 (inv_front 4 (inv_front 4 (inv_front 6 (inv_front 6 HQ4.out rfl) rfl) rfl) rfl) rfl) rfl) rfl)
              clear HQ4
              have q0 := (HZ.out.cell (i := 4) rfl 0 rfl).1
              have f0 := (HZ.out.cell (i := 4) rfl 0 rfl).2
              have q1 := (HZ.out.cell (i := 4) rfl 1 rfl).1
              have f1 := (HZ.out.cell (i := 4) rfl 1 rfl).2
              have q2 := (HZ.out.cell (i := 4) rfl 2 rfl).1
              have f2 := (HZ.out.cell (i := 4) rfl 2 rfl).2
              refine callH (i := 6) none (by rw [List.getElem?_toArray]; rfl) rfl (by kernel_rfl) (by rfl) fun K hK => ?_
              go_simp
              have HZs := hid (((HZ.out.set (i := 4) rfl 0 (.int .i64 nv)).set (i := 4) rfl 1 (.slice Ac1 fcl.length cc1)).set (i := 4) rfl 2 (.slice Ao1 order.length co1))
              clear HZ
              refine hK undef _ ⟨(HZs.out.cell (i := 6) rfl 0 rfl).1, (HZs.out.cell (i := 6) rfl 1 rfl).1, (HZs.out.cell (i := 6) rfl 2 rfl).1⟩ ?_
              clear hK K q0 q1 q2 f0 f1 f2
              generalize (((w13.setCell ⟨g5, 0, none⟩ (.int .i64 nv)).setCell ⟨g5, 1, none⟩ (.slice Ac1 fcl.length cc1)).setCell ⟨g5, 2, none⟩ (.slice Ao1 order.length co1)) = v6 at *
              simp only [Act.put]
              have q0 := (HZs.out.cell (i := 5) rfl 0 rfl).1
              have f0 := (HZs.out.cell (i := 5) rfl 0 rfl).2
              have q1 := (HZs.out.cell (i := 5) rfl 1 rfl).1
              have f1 := (HZs.out.cell (i := 5) rfl 1 rfl).2
              have q2 := (HZs.out.cell (i := 5) rfl 2 rfl).1
              have f2 := (HZs.out.cell (i := 5) rfl 2 rfl).2
              refine callH (i := 7) none (by rw [List.getElem?_toArray]; rfl) rfl (by kernel_rfl) (by rfl) fun K hK => ?_
              go_simp
              have HZss := hid (((HZs.out.set (i := 5) rfl 0 (.int .i64 nv)).set (i := 5) rfl 1 (.slice Ac2 fcl.length cc2)).set (i := 5) rfl 2 (.slice Ao2 order.length co2))
              clear HZs
              refine hK undef _ ⟨(HZss.out.cell (i := 6) rfl 0 rfl).1, (HZss.out.cell (i := 6) rfl 1 rfl).1, (HZss.out.cell (i := 6) rfl 2 rfl).1⟩ ?_
              clear hK K q0 q1 q2 f0 f1 f2
              generalize (((v6.setCell ⟨g6, 0, none⟩ (.int .i64 nv)).setCell ⟨g6, 1, none⟩ (.slice Ac2 fcl.length cc2)).setCell ⟨g6, 2, none⟩ (.slice Ao2 order.length co2)) = v7 at *
              simp only [Act.put]
              refine wpAnyH_done (by kernel_rfl) ?_ _
              refine NoPanic.normal ?_
              go_wp2_with (fail)
              go_meet
              case rel => exact ⟨g5, g6, Ac1, cc1, Ao1, co1, Ac2, cc2, Ao2, co2, rfl, rfl, HZss⟩
        · go_simp
          have HQ2 := hid (HQ1.out.boxc 28 [.int .i64 0, .slice none 0 0, .slice none 0 0])
          refine hK (.pointer (some ⟨w10.heap.size, 0, none⟩)) _ ⟨(HQ2.out.cell (i := 2) rfl 0 rfl).1, (HQ2.out.cell (i := 2) rfl 1 rfl).1, (HQ2.out.cell (i := 2) rfl 2 rfl).1⟩ ?_
          generalize w10.alloc (.cells #[.int .i64 0, .slice none 0 0, .slice none 0 0] 28) = w11 at *
          generalize w10.heap.size = g5 at *
          clear hK K
          simp only [Act.put, List.setIfInBounds_toArray, List.set_cons_zero, List.set_cons_succ]
          refine readyH [(1, some 24)] (by kernel_rfl) (by simp) ⟨⟨_, (by rw [List.getElem?_toArray]; rfl), rfl, (by rfl), fun K hK => ?_⟩, trivial⟩
          · go_simp
            refine (RCopy_calls (S := S) (HC.out.chg HQ2.out.chg (fun _ _ => id)) (HO.out.chg HQ2.out.chg (fun _ _ => id)) HLL.out holl (by omega)).mono ?_
            rintro e w12 ⟨vc1, vo1, rfl, hN⟩
            obtain ⟨Ac1, cc1, e3, _, _, _⟩ := hN.rowShape (i := 0) rfl
            obtain ⟨Ao1, co1, e6, _, _, _⟩ := hN.rowShape (i := 1) rfl
            subst e3 e6
            have HQ3 := hid (HQ2.out.join hN)
            clear hN
            refine hK (.agg #[.int .i64 nv, .slice Ac1 fcl.length cc1, .slice Ao1 order.length co1]) _ ⟨(HQ3.out.cell (i := 4) rfl 0 rfl).1, (HQ3.out.cell (i := 4) rfl 1 rfl).1, (HQ3.out.cell (i := 4) rfl 2 rfl).1⟩ ?_
            clear hK K
            simp only [Act.put, List.setIfInBounds_toArray, List.set_cons_zero, List.set_cons_succ]
            refine readyH [(3, some 26)] (by kernel_rfl) (by simp) ⟨⟨_, (by rw [List.getElem?_toArray]; rfl), rfl, (by rfl), fun K hK => ?_⟩, trivial⟩
            · go_simp
              refine (RCopy_calls (S := S) (HC.out.chg HQ3.out.chg (fun _ _ => id)) (HO.out.chg HQ3.out.chg (fun _ _ => id)) HLL.out holl (by omega)).mono ?_
              rintro e w13 ⟨vc2, vo2, rfl, hN⟩
              obtain ⟨Ac2, cc2, e3, _, _, _⟩ := hN.rowShape (i := 0) rfl
              obtain ⟨Ao2, co2, e6, _, _, _⟩ := hN.rowShape (i := 1) rfl
              subst e3 e6
              have HQ4 := hid (HQ3.out.join hN)
              clear hN
              refine hK (.agg #[.int .i64 nv, .slice Ac2 fcl.length cc2, .slice Ao2 order.length co2]) _ ⟨(HQ4.out.cell (i := 6) rfl 0 rfl).1, (HQ4.out.cell (i := 6) rfl 1 rfl).1, (HQ4.out.cell (i := 6) rfl 2 rfl).1⟩ ?_
              clear hK K
              simp only [Act.put, List.setIfInBounds_toArray, List.set_cons_zero, List.set_cons_succ]
              have HZ : Hid (Inv w NoM w13 [rowP cK 32 (.slice Ac1 fcl.length cc1) fcl, rowP Kind.int 3 (.slice Ao1 order.length co1) order, rowP cK 32 (.slice Ac2 fcl.length cc2) fcl, rowP Kind.int 3 (.slice Ao2 order.length co2) order, blkP g5 28 [.int .i64 0, .slice none 0 0, .slice none 0 0], blkP g6 28 [.int .i64 0, .slice none 0 0, .slice none 0 0], blkP w.heap.size 28 [.int .i64 nv, .slice Ac fcl.length cc, .slice Ao order.length co]]) := hid (inv_front 6 (inv_front 6 (inv_front 4 (inv_front 4 (inv_front 6 (inv_front 6 (inv_front 6 HQ4.out rfl) rfl) rfl) rfl) rfl) rfl) rfl)
              clear HQ4
              have q0 := (HZ.out.cell (i := 4) rfl 0 rfl).1
              have f0 := (HZ.out.cell (i := 4) rfl 0 rfl).2
              have q1 := (HZ.out.cell (i := 4) rfl 1 rfl).1
              have f1 := (HZ.out.cell (i := 4) rfl 1 rfl).2
              have q2 := (HZ.out.cell (i := 4) rfl 2 rfl).1
              have f2 := (HZ.out.cell (i := 4) rfl 2 rfl).2
              refine callH (i := 6) none (by rw [List.getElem?_toArray]; rfl) rfl (by kernel_rfl) (by rfl) fun K hK => ?_
              go_simp
              have HZs := hid (((HZ.out.set (i := 4) rfl 0 (.int .i64 nv)).set (i := 4) rfl 1 (.slice Ac1 fcl.length cc1)).set (i := 4) rfl 2 (.slice Ao1 order.length co1))
              clear HZ
              refine hK undef _ ⟨(HZs.out.cell (i := 6) rfl 0 rfl).1, (HZs.out.cell (i := 6) rfl 1 rfl).1, (HZs.out.cell (i := 6) rfl 2 rfl).1⟩ ?_
              clear hK K q0 q1 q2 f0 f1 f2
              generalize (((w13.setCell ⟨g5, 0, none⟩ (.int .i64 nv)).setCell ⟨g5, 1, none⟩ (.slice Ac1 fcl.length cc1)).setCell ⟨g5, 2, none⟩ (.slice Ao1 order.length co1)) = v6 at *
              simp only [Act.put]
              have q0 := (HZs.out.cell (i := 5) rfl 0 rfl).1
              have f0 := (HZs.out.cell (i := 5) rfl 0 rfl).2
              have q1 := (HZs.out.cell (i := 5) rfl 1 rfl).1
              have f1 := (HZs.out.cell (i := 5) rfl 1 rfl).2
              have q2 := (HZs.out.cell (i := 5) rfl 2 rfl).1
              have f2 := (HZs.out.cell (i := 5) rfl 2 rfl).2
              refine callH (i := 7) none (by rw [List.getElem?_toArray]; rfl) rfl (by kernel_rfl) (by rfl) fun K hK => ?_
              go_simp
              have HZss := hid (((HZs.out.set (i := 5) rfl 0 (.int .i64 nv)).set (i := 5) rfl 1 (.slice Ac2 fcl.length cc2)).set (i := 5) rfl 2 (.slice Ao2 order.length co2))
              clear HZs
              refine hK undef _ ⟨(HZss.out.cell (i := 6) rfl 0 rfl).1, (HZss.out.cell (i := 6) rfl 1 rfl).1, (HZss.out.cell (i := 6) rfl 2 rfl).1⟩ ?_
              clear hK K q0 q1 q2 f0 f1 f2
              generalize (((v6.setCell ⟨g6, 0, none⟩ (.int .i64 nv)).setCell ⟨g6, 1, none⟩ (.slice Ac2 fcl.length cc2)).setCell ⟨g6, 2, none⟩ (.slice Ao2 order.length co2)) = v7 at *
              simp only [Act.put]
              refine wpAnyH_done (by kernel_rfl) ?_ _
              refine NoPanic.normal ?_
              go_wp2_with (fail)
              go_meet
              case rel => exact ⟨g5, g6, Ac1, cc1, Ao1, co1, Ac2, cc2, Ao2, co2, rfl, rfl, HZss⟩
    case rest =>
      obtain ⟨g5, g6, Ac1, cc1, Ao1, co1, Ac2, cc2, Ao2, co2, rfl, rfl, HZ⟩ := hcut
      clear HFT H0 H2 H3
      obtain ⟨rs, hrs, hrl⟩ := raws_of HC.out
      have hrn : rs.length = fcl.length := hrl.len
      have HRS := hid hrs
      have HRL := hid hrl
      clear hrs hrl
      have hg1 := HZ.out.cell (i := 4) rfl 1 rfl
      have HA : Hid (YLib.Inv w NoM (wc.setCell ⟨g5, 1, none⟩ (.slice none 0 0)) [rowP rawK 32 (.slice none 0 0) [], rowP Kind.int 3 (.slice Ao1 order.length co1) order, rowP cK 32 (.slice Ac2 fcl.length cc2) fcl, rowP Kind.int 3 (.slice Ao2 order.length co2) order, blkP g5 28 [.int .i64 nv, .slice none 0 0, .slice Ao1 order.length co1], blkP g6 28 [.int .i64 nv, .slice Ac2 fcl.length cc2, .slice Ao2 order.length co2], blkP w.heap.size 28 [.int .i64 nv, .slice Ac fcl.length cc, .slice Ao order.length co]]) := hid (((HZ.out.set (i := 4) rfl 1 (.slice none 0 0)).tail).nilRow rawK 32)
      go_upto_region 5 with (fail)
      generalize wc.setCell ⟨g5, 1, none⟩ (.slice none 0 0) = wd at *
      clear hg1 HZ
      have hf1 := (HA.out.cell (i := 6) rfl 1 rfl).1
      have hw1 : IntKind.i64.wrap ((fcl.length : Int) - 1) = (fcl.length : Int) - 1 := IntWalk.i64_in _ (by omega)
      go_wp2
      go_loopg [7] (fcl.length + 1) (fun kq v7 wr => ∃ (i : Int) (k : Nat) (vv : Value), v7 = .int .i64 i ∧ -1 ≤ i ∧ k ≤ fcl.length ∧ Hid (i + 1 + k = fcl.length) ∧ Hid (kq + k = fcl.length + 1) ∧ Hid (YLib.Inv w NoM wr [rowP rawK 32 vv (rs.reverse.take k), rowP Kind.int 3 (.slice Ao1 order.length co1) order, rowP cK 32 (.slice Ac2 fcl.length cc2) fcl, rowP Kind.int 3 (.slice Ao2 order.length co2) order, blkP g5 28 [.int .i64 nv, vv, .slice Ao1 order.length co1], blkP g6 28 [.int .i64 nv, .slice Ac2 fcl.length cc2, .slice Ao2 order.length co2], blkP w.heap.size 28 [.int .i64 nv, .slice Ac fcl.length cc, .slice Ao order.length co]]))
      case atStart => exact ⟨_, 0, _, rfl, by omega, by omega, hid (by omega), hid (by omega), HA⟩
      case round =>
        clear HA hf1 hw1
        obtain ⟨i, k, vv, rfl, hi0, hk, HK, HI, H⟩ := hrel
        have hf1 := (H.out.cell (i := 6) rfl 1 rfl).1
        by_cases hlt : 0 ≤ i
        · obtain ⟨j, rfl⟩ := Int.eq_ofNat_of_zero_le hlt
          have hjn : j < rs.length := by have := HK.out; omega
          obtain ⟨r, hr⟩ : ∃ r, rs[j]? = some r := ⟨_, List.getElem?_eq_getElem hjn⟩
          obtain ⟨cb, cof, rfl, hc1, hc2⟩ := rawAt (HRS.out.chg H.out.chg (fun _ _ => id)) hr
          have hk1 : k < fcl.length := by have := HK.out; omega
          have hkl : (rs.reverse.take k).length = k := by rw [List.length_take, List.length_reverse]; omega
          have HTK : Hid (rs.reverse.take k ++ [r] = rs.reverse.take (k + 1)) := hid (by
            rw [List.take_add_one, List.getElem?_reverse (by omega), show rs.length - 1 - k = j by have := HK.out; omega, hr]; rfl)
          have hg1 := (H.out.cell (i := 4) rfl 1 rfl).1
          have hjn2 : (j : Int) < (fcl.length : Int) := by omega
          have hw2 : IntKind.i64.wrap ((j : Int) - 1) = (j : Int) - 1 := IntWalk.i64_in _ (by omega)
          clear hr hlt
          have hlt : (j : Int) ≥ 0 := by omega
          go_upto_region 8 with (fail)
          have hl5 : g5 < wr.heap.size := World.block_lt_of_cell? _ _ hg1
          have hlF : w.heap.size < wr.heap.size := World.block_lt_of_cell? _ _ hf1
          have hlb : cb < wr.heap.size := World.block_lt_of_cell? _ _ hc1
          go_region_law (first
            | (refine step_of_wp rfl ?_; refine wp_append_inv (d := rawK) _ _ 25 rfl Try.underlying25 infoCl rfl (by decide) 0 vv (rs.reverse.take k) [r] (H.out.drew.alloc _) rfl rfl ⟨wr.heap.size, 0, none⟩ 1 1 rfl [.slice r.A r.n r.c, .int .i64 r.tag] rfl (World.news_of_block (heap_alloc_new _ _)) ⟨_, _, rfl, rfl, rfl⟩ (by omega) (by omega) (by omega) ?_; intro g1 cap1 w2 h4; rw [hkl, HTK.out] at h4; rw [hkl]; obtain ⟨hc3, hc4⟩ := h4.cell (i := 4) rfl 1 rfl; have H4 := hid h4; clear h4))
          all_goals
            go_wp2
            go_roundg (gk - 1)
            case measure => have := HI.out; omega
            case rel => exact ⟨_, k + 1, _, rfl, by omega, by omega, hid (by have := HK.out; omega), hid (by have := HI.out; omega), hid (H4.out.set (i := 4) rfl 1 _)⟩
        · obtain rfl : i = -1 := by omega
          obtain rfl : k = fcl.length := by have := HK.out; omega
          rw [List.take_of_length_le (by rw [List.length_reverse]; omega)] at H
          clear HK HI hi0 hk hf1 hlt
          obtain ⟨Av, cv, hvv, _, _, _⟩ := H.out.rowShape (i := 0) rfl
          rw [List.length_reverse, hrn] at hvv
          subst hvv
          obtain ⟨rs2, hN⟩ := inv_raw (inv_front 2 H.out rfl)
          have hrn2 : rs2.length = fcl.length := by obtain ⟨_, hS, _⟩ := hN.get (i := 1) rfl; exact litsAt.len hS
          have H5 := hid hN
          clear H hN
          have hg1 := (H5.out.cell (i := 6) rfl 1 rfl).1
          have hl6 : g6 < wr.heap.size := World.block_lt_of_cell? _ _ hg1
          go_upto_region 10 with (at_builtin; refine wpList_of_wp rfl fun K hK => ?_; go_loud (refine wp_append_inv (d := rawK) _ _ 25 rfl Try.underlying25 infoCl rfl (by decide) 0 (.slice Ac2 fcl.length cc2) rs2 [⟨Am, more.length, cm, 0⟩] (H5.out.alloc _) rfl rfl ⟨wr.heap.size, 0, none⟩ 1 1 rfl [.slice Am more.length cm, .int .i64 0] rfl (World.news_of_block (heap_alloc_new _ _)) ⟨_, _, rfl, rfl, rfl⟩ (by omega) (by omega) (by omega) ?_); intro g2 cap2 w6 h6; rw [hrn2] at h6; rw [hrn2]; obtain ⟨hc3, hc4⟩ := h6.cell (i := 6) rfl 1 rfl; have H6 := hid h6; clear h6; refine hK _ _ ?_; clear hK K)
          have H7 := hid (H6.out.set (i := 6) rfl 1 (.slice (some ⟨g2, 0, none⟩) (fcl.length + 1) cap2))
          generalize w6.setCell ⟨g6, 1, none⟩ (.slice (some ⟨g2, 0, none⟩) (fcl.length + 1) cap2) = w7 at *
          clear hc3 hc4 hg1 hl6 H5 H6
          have hv14n : nv ≤ 14 := by omega
          have HS1 := hid (fun (W : World) (hW : Chg NoM w W) => SolveA_calls (w := W) (cc := cc) (co := co) HFI.out hv14n (HC.out.chg hW (fun _ _ => id)) (HO.out.chg hW (fun _ _ => id)))
          have hF0 := (H7.out.cell (i := 7) rfl 0 rfl).1
          have hF1 := (H7.out.cell (i := 7) rfl 1 rfl).1
          have hF2 := (H7.out.cell (i := 7) rfl 2 rfl).1
          go_upto_region 11 with (go_at_call 11; refine (HS1.out _ H7.out.chg).mono ?_; rintro e w8 ⟨r1, m1, lg1, vm1, vg1, st1, rfl, hA1, h8⟩; obtain ⟨Am1, cm1, e1, _, _, _⟩ := h8.rowShape (i := 0) rfl; obtain ⟨Ag1, cg1, e2, _, _, _⟩ := h8.rowShape (i := 1) rfl; subst e1 e2; have H8 := hid ((H7.out.join h8).boxc 35 [.int .i64 r1, .slice Am1 m1.length cm1, .slice Ag1 lg1.length cg1, .int .i64 st1]); have HA1 := hid hA1; clear h8 hA1)
          generalize w8.alloc _ = w9 at *
          generalize w8.heap.size = B1 at *
          clear hF0 hF1 hF2 H7
          have hG0 := (H8.out.cell (i := 8) rfl 0 rfl).1
          have hG1 := (H8.out.cell (i := 8) rfl 1 rfl).1
          have hG2 := (H8.out.cell (i := 8) rfl 2 rfl).1
          obtain ⟨SR, hRV⟩ := rev_row H8.out H8.out.chg (i := 5) rfl HRL.out
          obtain ⟨_, _, eo, _, _, hO1⟩ := H8.out.rowShape (i := 6) rfl
          cases eo
          have hS2 := SolveA_calls (cc := cv) (co := co1) (fitF_reverse HFI.out) hv14n (hRV.mono (fun _ _ => trivial)) hO1
          rw [List.length_reverse] at hS2
          have HS2 := hid hS2
          clear hS2 hRV hO1
          go_upto_region 12 with (go_at_call 11; refine HS2.out.mono ?_; rintro e w10 ⟨r2, m2, lg2, vm2, vg2, st2, rfl, hA2, h10⟩; obtain ⟨Am2, cm2, e1, _, _, _⟩ := h10.rowShape (i := 0) rfl; obtain ⟨Ag2, cg2, e2, _, _, _⟩ := h10.rowShape (i := 1) rfl; subst e1 e2; have H10 := hid ((H8.out.join h10).boxc 35 [.int .i64 r2, .slice Am2 m2.length cm2, .slice Ag2 lg2.length cg2, .int .i64 st2]); have HA2 := hid hA2; clear h10 hA2)
          generalize w10.alloc _ = w11 at *
          generalize w10.heap.size = B2 at *
          clear hG0 hG1 hG2 H8 HS2
          obtain ⟨hr12, hm12⟩ := answer_same (fun x hx => HFI.out.2.2.2.2.1 x hx) (fun c => by simp) HA2.out HA1.out
          subst hr12 hm12
          clear HA2
          have hx0 := (H10.out.cell (i := 3) rfl 0 rfl).1
          have hx1 := (H10.out.cell (i := 3) rfl 1 rfl).1
          have hy0 := (H10.out.cell (i := 0) rfl 0 rfl).1
          have hy1 := (H10.out.cell (i := 0) rfl 1 rfl).1
          obtain ⟨_, _, e3, _, _, hM1⟩ := H10.out.rowShape (i := 4) rfl
          cases e3
          obtain ⟨_, _, e3, _, hM63, hM2⟩ := H10.out.rowShape (i := 1) rfl
          cases e3
          have HI : Hid (Calls Try.prog 12 #[.slice Am1 m2.length cm1, .slice Am2 m2.length cm2] w11 fun e w' => e = .returned (.bool true) ∧ ∃ q, w' = w11.drewN q) := hid ((Ints_same (hid hM1) (hid hM2) (hid rfl) (hid rfl) hM63).mono (fun e w' ⟨h1, h2⟩ => ⟨by rw [h1]; simp, h2⟩))
          clear hM1 hM2 hM63
          go_upto_region 14 with (go_at_call 12; refine HI.out.mono ?_; rintro e w12 ⟨rfl, q, rfl⟩)
          have H12 := hid (H10.out.drewN q)
          generalize w11.drewN q = w12 at *
          clear hx0 hx1 hy0 hy1 HI H10
          have hG0 := (H12.out.cell (i := 12) rfl 0 rfl).1
          have hG1 := (H12.out.cell (i := 12) rfl 1 rfl).1
          have hG2 := (H12.out.cell (i := 12) rfl 2 rfl).1
          obtain ⟨SM, hMR⟩ := more_row H12.out H12.out.chg (i := 6) (j := 7) rfl rfl HMO.out hmc
          obtain ⟨_, _, eo, _, _, hO2⟩ := H12.out.rowShape (i := 10) rfl
          cases eo
          have hmr := hMR.mono (S' := fun _ => True) (fun _ _ => trivial)
          have hF2 := RFit_calls (w := w12) (cc := cap2) (co := co2) (vars := (nv : Int)) hmr hO2 (fun c hc => by
            rcases List.mem_append.1 hc with h | h
            · exact HL.out c h
            · rw [List.mem_singleton.1 h]; exact hml) hol (by rw [List.length_append, List.length_singleton]; omega)
          rw [List.length_append, List.length_singleton] at hF2
          have HF2 := hid hF2
          have HMR := hid hmr
          have HO2 := hid hO2
          clear hF2 hmr hMR hO2
          by_cases hfit2 : fitF nv (fcl ++ [⟨more, 0⟩]) order
          · have HFI2 := hid hfit2
            clear hfit2
            go_upto_region 16 with (go_at_call 8; refine HF2.out.mono ?_; rintro e w13 ⟨⟨bb, rfl, hbb⟩, h13⟩; have hbt := hbb.2 HFI2.out; subst hbt; clear hbb; have H13 := hid (H12.out.join h13); have HC13 := hid h13.chg; clear h13)
            clear hG0 hG1 hG2 HF2 H12
            have hG0 := (H13.out.cell (i := 12) rfl 0 rfl).1
            have hG1 := (H13.out.cell (i := 12) rfl 1 rfl).1
            have hG2 := (H13.out.cell (i := 12) rfl 2 rfl).1
            have hS3 := SolveA_calls (cc := cap2) (co := co2) HFI2.out hv14n (HMR.out.chg HC13.out (fun _ _ => id)) (HO2.out.chg HC13.out (fun _ _ => id))
            rw [List.length_append, List.length_singleton] at hS3
            have HS3 := hid hS3
            clear hS3 HMR HO2 HC13
            go_upto_region 17 with (go_at_call 11; refine HS3.out.mono ?_; rintro e w14 ⟨r3, m3, lg3, vm3, vg3, st3, rfl, hA3, h14⟩; obtain ⟨Am3, cm3, e1, _, _, _⟩ := h14.rowShape (i := 0) rfl; obtain ⟨Ag3, cg3, e2, _, _, _⟩ := h14.rowShape (i := 1) rfl; subst e1 e2; have H14 := hid ((H13.out.join h14).boxc 35 [.int .i64 r3, .slice Am3 m3.length cm3, .slice Ag3 lg3.length cg3, .int .i64 st3]); have HA3 := hid hA3; clear h14 hA3)
            generalize w14.alloc _ = w15 at *
            generalize w14.heap.size = B3 at *
            clear hG0 hG1 hG2 H13 HS3
            by_cases hr3 : r3 = 1
            · obtain ⟨hr1, hmm, hna⟩ := answer_more (fun c hc => by
                obtain ⟨x, hx, rfl⟩ := List.mem_map.1 hc
                exact List.mem_map.2 ⟨x, List.mem_append_left _ hx, rfl⟩) HA1.out HA3.out hr3
              subst hr3 hr1
              obtain ⟨hl3, _⟩ := answer_len HA3.out rfl
              obtain ⟨hl2, hm2⟩ := answer_len HA1.out rfl
              have HMM := hid hmm
              have HNA := hid hna
              have HM2 := hid hm2
              have HL3 := hid hl3
              have HL2 := hid hl2
              clear hmm hna hm2 hl3 hl2 HA1 HA3
              have hz0 := (H14.out.cell (i := 0) rfl 0 rfl).1
              have hz1 := (H14.out.cell (i := 0) rfl 1 rfl).1
              have hx0 := (H14.out.cell (i := 6) rfl 0 rfl).1
              have hF0 := (H14.out.cell (i := 16) rfl 0 rfl).1
              have hF1 := (H14.out.cell (i := 16) rfl 1 rfl).1
              have hF2 := (H14.out.cell (i := 16) rfl 2 rfl).1
              obtain ⟨_, _, e3, _, _, hM3⟩ := H14.out.rowShape (i := 1) rfl
              cases e3
              have HH1 := hid (RHolds_calls (w := w15) (cc := cc) (co := co) (k1 := cm3) HFI.out (HC.out.chg H14.out.chg (fun _ _ => id)) (HO.out.chg H14.out.chg (fun _ _ => id)) HL.out hol hM3 HL3.out (model_row HL3.out HMM.out) (model_any HMM.out))
              clear hM3
              go_wp2_with (first
                | (go_at_call 13; refine HH2.out.mono ?_; rintro e w17 ⟨rfl, h17⟩; have H17 := hid (H16.out.join h17); have s0 := (H17.out.cell (i := 16) rfl 0 rfl).1; have s1 := (H17.out.cell (i := 16) rfl 1 rfl).1; have s2 := (H17.out.cell (i := 16) rfl 2 rfl).1; have s3 := (H17.out.cell (i := 6) rfl 1 rfl).1; have s4 := (H17.out.cell (i := 0) rfl 1 rfl).1; obtain ⟨_, _, e3, _, _, hM1⟩ := H17.out.rowShape (i := 7) rfl; cases e3; obtain ⟨_, _, e3, _, _, hM3⟩ := H17.out.rowShape (i := 1) rfl; cases e3; have HAH := hid (RAhead_calls (w := w17) (Ac := Ac) (nc := fcl.length) (cc := cc) (co := co) (k1 := cm3) (k2 := cm1) (by omega) holl (HO.out.chg H17.out.chg (fun _ _ => id)) HFI.out.2.2.2.2.1 hM3 hM1 HL3.out HL2.out HNA.out); clear h17 hM1 hM3)
                | (go_at_call 13; refine HH1.out.mono ?_; rintro e w16 ⟨rfl, h16⟩; have H16 := hid (H14.out.join h16); have p0 := (H16.out.cell (i := 16) rfl 0 rfl).1; have p1 := (H16.out.cell (i := 16) rfl 1 rfl).1; have p2 := (H16.out.cell (i := 16) rfl 2 rfl).1; have p3 := (H16.out.cell (i := 6) rfl 1 rfl).1; obtain ⟨_, _, e3, _, _, hM1⟩ := H16.out.rowShape (i := 7) rfl; cases e3; have HH2 := hid (RHolds_calls (w := w16) (cc := cc) (co := co) (k1 := cm1) HFI.out (HC.out.chg H16.out.chg (fun _ _ => id)) (HO.out.chg H16.out.chg (fun _ _ => id)) HL.out hol hM1 HL2.out (model_row HL2.out HM2.out) (model_any HM2.out)); clear h16 hM1)
                | (go_at_call 14; refine HAH.out.mono ?_; rintro e w18 ⟨rfl, h18⟩; have H18 := hid (H17.out.join h18); clear h18)
                | (go_at_call 7; refine (awake_calls _).mono ?_; rintro e w19 ⟨rfl, h4⟩; have H19 := hid (H18.out.join h4); clear h4))
              go_ret
              exact ⟨rfl, H19.out.init (cs := [])⟩
            · have hr3 := answer_kind HA3.out hr3
              subst hr3
              have hz0 := (H14.out.cell (i := 0) rfl 0 rfl).1
              go_wp2_with (go_at_call 7; refine (awake_calls _).mono ?_; rintro e w3 ⟨rfl, h4⟩; have H15 := hid (H14.out.join h4); clear h4)
              go_ret
              exact ⟨rfl, H15.out.init (cs := [])⟩
          · have HFI2 := hid hfit2
            clear hfit2
            go_wp2_with (first
              | (go_at_call 8; refine HF2.out.mono ?_; rintro e w13 ⟨⟨bb, rfl, hbb⟩, h13⟩; have hbt : bb = false := (by cases bb with | false => rfl | true => exact absurd (hbb.1 rfl) HFI2.out); subst hbt; clear hbb; have H13 := hid (H12.out.join h13); clear h13)
              | (go_at_call 7; refine (awake_calls _).mono ?_; rintro e w14 ⟨rfl, h4⟩; have H14 := hid (H13.out.join h4); clear h4))
            go_ret
            exact ⟨rfl, H14.out.init (cs := [])⟩
  · have HF := hid hf
    clear hf
    go_enter Try.func4, Try.ntmps4
    by_cases hfit : fitF vars fcl order
    · have hnl : decide (vars ≤ 14 ∧ fcl.length ≤ 80) = false := decide_eq_false fun h => HF.out ⟨hfit, h⟩
      have HFI := hid hfit
      clear hfit
      go_wp2_with (first
        | (go_at_call 8; refine HFT.out.mono ?_; rintro e w1 ⟨⟨bb, rfl, hbb⟩, h2⟩; have hbt := hbb.2 HFI.out; subst hbt; clear hbb; have H2 := hid (H0.out.join h2); have hf0 := (H2.out.cell (i := 0) rfl 0 rfl).1; have hf1 := (H2.out.cell (i := 0) rfl 1 rfl).1; have hf2 := (H2.out.cell (i := 0) rfl 2 rfl).1; clear h2)
        | (go_at_call 9; refine light_calls.mono ?_; rintro e w2 ⟨rfl, h3⟩; rw [hnl]; have H3 := hid (H2.out.join h3); clear h3)
        | (go_at_call 7; refine (awake_calls _).mono ?_; rintro e w3 ⟨rfl, h4⟩; have H4 := hid (H3.out.join h4); clear h4))
      go_ret
      exact ⟨rfl, H4.out.tail⟩
    · have HFI := hid hfit
      clear hfit
      go_wp2_with (first
        | (go_at_call 8; refine HFT.out.mono ?_; rintro e w1 ⟨⟨bb, rfl, hbb⟩, h2⟩; have hbt : bb = false := (by cases bb with | false => rfl | true => exact absurd (hbb.1 rfl) HFI.out); subst hbt; clear hbb; have H2 := hid (H0.out.join h2); clear h2)
        | (go_at_call 7; refine (awake_calls _).mono ?_; rintro e w3 ⟨rfl, h4⟩; have H4 := hid (H2.out.join h4); clear h4))
      go_ret
      exact ⟨rfl, H4.out.tail⟩
end Go.Proofs.Ytcglokippflioaa
