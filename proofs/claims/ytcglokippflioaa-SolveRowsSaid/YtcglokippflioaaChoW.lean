import Derived.Test.YtcglokippflioaaBeginW
import Derived.Test.YtcglokippflioaaRangeL
/-! choices. -/
namespace Go.Proofs.Ytcglokippflioaa
open Go Go.RowKit Go.Shelf YLib
attribute [local go_sem] Oper.semAt_some
theorem skip_fn {F : Fence} {q : Prop} : ((∀ f : FuncId, (none : Option FuncId) = some f → F.fn f) ∧ q) ↔ q := ⟨fun h => h.2, fun h => ⟨fun f h => (by cases h), h⟩⟩
/-- What choices reads. -/
def ChoRO (B b : Nat) (vars : Nat) (Ao : Option Addr) (co gv cv : Nat) (order val : List Int) (W : World) : Prop :=
  W.cell? ⟨B, 0, none⟩ = some (.pointer (some ⟨b, 0, none⟩)) ∧ W.cell? ⟨b, 0, none⟩ = some (.int .i64 vars) ∧ W.cell? ⟨b, 2, none⟩ = some (.slice Ao order.length co) ∧
  W.cell? ⟨b, 5, none⟩ = some (.slice (some ⟨gv, 0, none⟩) val.length cv) ∧ RowAt Kind.int W (fun _ => True) Ao order ∧ RowAt Kind.int W (fun _ => True) (some ⟨gv, 0, none⟩) val
theorem negs_succ (k : Nat) : negs (k + 1) = negs k ++ [-((k : Int) + 1)] := by unfold negs; rw [List.range_succ]; simp
theorem rowL_split2 {val : List Int} (order : List Int) {vars k : Nat} (hk : k < vars) (hp : opn val (-((k : Int) + 1)) = true) :
    ∃ post, rowL order vars val = (order.filter (opn val) ++ (negs k).filter (opn val)) ++ (-((k : Int) + 1)) :: post := by
  have h : ∀ n, k < n → ∃ post, (negs n).filter (opn val) = (negs k).filter (opn val) ++ (-((k : Int) + 1)) :: post := by
    intro n
    induction n with
    | zero => intro h; omega
    | succ n ih =>
      intro h
      rw [negs_succ, List.filter_append]
      by_cases hn : k = n
      · subst hn; exact ⟨[], by rw [List.filter_cons, if_pos hp]; rfl⟩
      · obtain ⟨post, e⟩ := ih (by omega)
        exact ⟨post ++ [-((n : Int) + 1)].filter (opn val), by rw [e]; simp⟩
  obtain ⟨post, e⟩ := h vars hk
  exact ⟨post, by unfold rowL; rw [e]; simp⟩
theorem gi_of {xs : List Int} {i : Int} {x : Int} (h : xs[i.toNat]? = some x) : gi xs i = x := by unfold gi; rw [List.getD_eq_getElem?_getD, h]; rfl
theorem filter_split {p : Int → Bool} {xs : List Int} {k : Nat} {x : Int} (hx : xs[k]? = some x) (hp : p x = true) : xs.filter p = (xs.take k).filter p ++ x :: (xs.drop (k + 1)).filter p := by
  obtain ⟨hk, hxx⟩ := List.getElem?_eq_some_iff.1 hx
  conv => lhs; rw [← List.take_append_drop k xs]
  rw [List.filter_append, List.drop_eq_getElem_cons hk, List.filter_cons, hxx, if_pos hp]
theorem rowL_split {order val : List Int} (vars : Nat) {k : Nat} {x : Int} (hx : order[k]? = some x) (hp : opn val x = true) :
    rowL order vars val = (order.take k).filter (opn val) ++ x :: ((order.drop (k + 1)).filter (opn val) ++ (negs vars).filter (opn val)) := by
  unfold rowL; rw [filter_split hx hp]; simp
set_option maxRecDepth 100000 in
set_option maxHeartbeats 4000000 in
theorem choices_iter (B b : Nat) (vars : Nat) (Ao : Option Addr) (co gv cv : Nat) (order val : List Int) (hvl : val.length = vars + 1) (hv1 : vars < LIM) (ho : order.length ≤ LIM) (hok : ∀ x ∈ order, 0 ≤ size x ∧ size x < val.length) :
    Iter Try.prog 38 #[.pointer (some ⟨B, 0, none⟩)] (fun x => #[.int .i64 x]) (rowL order vars val) (ChoRO B b vars Ao co gv cv order val) := by
  intro l J Jx W hJ hJx hJR hY h0
  unfold LIM at hv1 ho
  have HJ := hid hJ; clear hJ
  have HJx := hid hJx; clear hJx
  have HRO := hid hJR; clear hJR
  have HY := hid hY; clear hY
  have HOK := hid hok; clear hok
  have H0 := hid h0
  obtain ⟨hB, hb0, hb2, hb5, hro, hrv⟩ := HRO.out _ _ h0
  clear hro hrv h0 hb5
  have HVL := hid hvl; clear hvl
  refine (callsIn_wide (n := 0)).1 ?_
  refine callsIn_of_wp Try.func38 rfl trivial ?_ rfl
  simp only [Try.ntmps38, List.size_toArray, List.length_cons, List.length_nil, Nat.reduceAdd, Nat.reduceSub, Array.replicate_succ, Array.replicate_zero, List.push_toArray, List.append_toArray, List.nil_append, List.cons_append]
  gi_wp2
  clear hB hb0 hb2
  gi_loopw [12] (fun v12 wr => ∃ (k : Nat), v12 = .int .i64 k ∧ k ≤ order.length ∧ Hid (J ((order.take k).filter (opn val)) wr)) (fun v12 _ => order.length - (intOf v12).toNat)
  case atStart => exact ⟨0, rfl, by omega, H0⟩
  case round =>
    clear H0
    obtain ⟨k, rfl, hk, HJk⟩ := hrel
    obtain ⟨hB, hb0, hb2, hb5, hro, hrv⟩ := HRO.out _ _ HJk.out
    by_cases hlt : k < order.length
    · obtain ⟨x, hx⟩ : ∃ x, order[k]? = some x := ⟨_, List.getElem?_eq_getElem hlt⟩
      obtain ⟨ho1, ho2⟩ := HOK.out x (List.mem_of_getElem? hx)
      obtain ⟨ob, oo, rfl, hxc⟩ := intAt hro hx
      obtain ⟨v, hv⟩ : ∃ v, val[(size x).toNat]? = some v := ⟨_, List.getElem?_eq_getElem (by omega)⟩
      obtain ⟨_, _, hA, hvc⟩ := intAt hrv hv
      injection hA with hA
      injection hA with hA hA2
      subst hA hA2
      rw [Nat.zero_add] at hvc
      have hgi : gi val (size x) = v := gi_of hv
      have HQ := hid (fun W => (callsIn_wide (n := 0)).2 (size_any x W (size_bd ho1 ho2 (by have := HVL.out; omega))))
      have hop : opn val x = (v == 0) := by unfold opn; rw [hgi]
      have htk : (order.take (k + 1)).filter (opn val) = (order.take k).filter (opn val) ++ (if v == 0 then [x] else []) := by
        rw [List.take_add_one, hx, List.filter_append]; simp [List.filter_cons, hop]
      clear hv hrv hro hgi
      have HTK := hid htk; clear htk
      have hmo : Try.prog.follows .mixedOrders = true := by kernel_rfl
      have hdr : Below wr.heap.size wr wr.drew := (Below.refl _ _).drew
      by_cases hv0 : v = 0
      · subst hv0
        obtain ⟨f1, t1, a1, b1, hy1, hR1⟩ := HY.out ((order.take k).filter (opn val)) x ((order.drop (k+1)).filter (opn val) ++ (negs vars).filter (opn val)) wr.drew (rowL_split vars hx (by simp [hop])) (HJ.out _ _ _ HJk.out hdr)
        have hR2 := hR1.mono (R' := fun e W' => ∃ r : Bool, e = .returned (.bool r) ∧ (if r then J ((order.take (k+1)).filter (opn val)) W' else Jx W')) (by
          rintro e W' (⟨rfl, h⟩ | ⟨rfl, h⟩)
          · exact ⟨true, rfl, by rw [HTK.out]; simpa using h⟩
          · exact ⟨false, rfl, by simpa using h⟩)
        have HR := hid hR2; clear hR1 hR2
        generalize size x = sz at *
        have hs3 : sz < (val.length : Int) := ho2
        gi_wp2
        first | (gi_region_with_o (first | (refine skip_fn.2 ?_) | (refine ⟨trivial, rfl, ?_⟩; refine (HQ.out _).mono ?_; rintro e w' ⟨rfl, rfl⟩) | (refine ⟨rfl, ?_⟩; refine HR.out.mono ?_; rintro e W1 ⟨r, rfl, hr⟩))) | fail
        all_goals gi_wp2
        all_goals first
          | (cases r
             · refine bodyPost_ret (results_none rfl _ _ _) rfl ?_
               exact ⟨⟨_, rfl⟩, .inr (by simpa using hr)⟩
             · contradiction)
          | (cases r
             · contradiction
             · exact ⟨⟨k + 1, by simp, by omega, hid (by simpa using hr)⟩, by simp [intOf]; omega⟩)
      · have hd : (v == 0) = false := by simpa using hv0
        generalize size x = sz at *
        have hs3 : sz < (val.length : Int) := ho2
        gi_wp2
        first | (gi_region_with_o (first | (refine skip_fn.2 ?_) | (refine ⟨trivial, rfl, ?_⟩; refine (HQ.out _).mono ?_; rintro e w' ⟨rfl, rfl⟩))) | fail
        all_goals gi_wp2
        all_goals exact ⟨⟨k + 1, by simp, by omega, hid (by rw [HTK.out, if_neg (by simpa using hd)]; simpa using HJ.out _ _ _ HJk.out hdr)⟩, by simp [intOf]; omega⟩
    · have hkk : k = order.length := by omega
      subst hkk
      rw [List.take_length] at HJk
      have hmo : Try.prog.follows .mixedOrders = true := by kernel_rfl
      clear hB hb0 hb2 hb5 hro hrv
      gi_wp2
      gi_loopw [5] (fun v5 wr => ∃ (k : Nat) (m : Int), v5 = .int .i64 m ∧ m = (k : Int) + 1 ∧ k ≤ vars ∧ Hid (J (order.filter (opn val) ++ (negs k).filter (opn val)) wr)) (fun v5 _ => vars + 1 - (intOf v5).toNat)
      case atStart => exact ⟨0, 1, rfl, by omega, by omega, hid (by simpa [negs] using HJk.out)⟩
      case round =>
        clear HJk
        obtain ⟨k, m, rfl, hm, hk2, HJk⟩ := hrel
        obtain ⟨hB, hb0, hb2, hb5, hro, hrv⟩ := HRO.out _ _ HJk.out
        clear hro hb2
        by_cases hlt : m ≤ vars
        · obtain ⟨v, hv⟩ : ∃ v, val[m.toNat]? = some v := ⟨_, List.getElem?_eq_getElem (by have := HVL.out; omega)⟩
          obtain ⟨_, _, hA, hvc⟩ := intAt hrv hv
          injection hA with hA
          injection hA with hA hA2
          subst hA hA2
          rw [Nat.zero_add] at hvc
          have hsm : size (-m) = m := by unfold size; rw [Int.neg_neg]; omega
          have hop : opn val (-m) = (v == 0) := by unfold opn; rw [hsm, gi_of hv]
          have hng : (negs (k + 1)).filter (opn val) = (negs k).filter (opn val) ++ (if v == 0 then [-m] else []) := by
            rw [negs_succ, List.filter_append, ← hm]; simp [List.filter_cons, hop]
          have HNG := hid hng
          have HM := hid hm
          have hw1 : IntKind.i64.wrap (m + 1) = m + 1 := IntWalk.i64_in _ (by omega)
          have hw2 : IntKind.i64.wrap (-m) = -m := IntWalk.i64_in _ (by omega)
          have hm0 : 0 ≤ m := by omega
          have hs3 : m < (val.length : Int) := by have := HVL.out; omega
          have hdr : Below wr.heap.size wr wr.drew := (Below.refl _ _).drew
          clear hrv hsm hng hm hv
          by_cases hv0 : v = 0
          · subst hv0
            obtain ⟨post, hpost⟩ := rowL_split2 (val := val) order (k := k) (vars := vars) (by have := HM.out; omega) (by rw [← HM.out]; simp [hop])
            rw [← HM.out] at hpost
            obtain ⟨f1, t1, a1, b1, hy1, hR1⟩ := HY.out _ (-m) post wr hpost HJk.out
            have hR2 := hR1.mono (R' := fun e W' => ∃ r : Bool, e = .returned (.bool r) ∧ (if r then J (order.filter (opn val) ++ (negs (k + 1)).filter (opn val)) W' else Jx W')) (by
              rintro e W' (⟨rfl, h⟩ | ⟨rfl, h⟩)
              · exact ⟨true, rfl, by rw [HNG.out]; simpa using h⟩
              · exact ⟨false, rfl, by simpa using h⟩)
            have HR := hid hR2; clear hR1 hR2 hpost
            gi_wp2_with (refine ⟨rfl, ?_⟩; refine HR.out.mono ?_; rintro e W1 ⟨r, rfl, hr⟩)
            all_goals first
              | (cases r
                 · refine bodyPost_ret (results_none rfl _ _ _) rfl ?_
                   exact ⟨⟨_, rfl⟩, .inr (by simpa using hr)⟩
                 · contradiction)
              | (cases r
                 · contradiction
                 · exact ⟨⟨k + 1, m + 1, rfl, by have := HM.out; omega, by have := HM.out; omega, hid (by simpa using hr)⟩, by simp [intOf]; omega⟩)
          · have hd : (v == 0) = false := by simpa using hv0
            gi_wp2
            refine skip_fn.2 ?_
            gi_wp2
            exact ⟨⟨k + 1, m + 1, rfl, by have := HM.out; omega, by have := HM.out; omega, hid (by rw [HNG.out, if_neg (by simpa using hd)]; simpa using HJk.out)⟩, by simp [intOf]; omega⟩
        · gi_wp2
          have hkk : k = vars := by omega
          subst hkk
          go_end0
          exact ⟨⟨_, rfl⟩, .inl HJk.out⟩
end Go.Proofs.Ytcglokippflioaa
