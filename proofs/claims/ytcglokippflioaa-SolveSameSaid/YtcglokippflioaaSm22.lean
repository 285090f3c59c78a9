/- SolveSame: for every formula and every further clause, the answer does not hang on the order of clauses, and with the clause more the first model never comes earlier; no condition. -/
import Derived.Test.YtcglokippflioaaRows
import Derived.Test.YtcglokippflioaaSm14
import Derived.Test.YtcglokippflioaaSm21

namespace Go.Proofs.Ytcglokippflioaa
open Go.ChangeShapes Go.WideShapes Go.ChangeAt Go.RowKit YLib
set_option maxRecDepth 100000 in
theorem solveSame_lifted (os : Os) (started : os.Started) (H : Type) (enc : TypeId × Value → H) :
    ReturnsInHanded {} Try.checked os 4 .any (Rows.solveSameSpec.pre6 enc Try.prog Try.f4 Rows.solveSameRow.domain false) (Rows.solveSameSpec.post enc Try.prog Try.f4 false true false false) := by
  refine returnsInHanded_of_change (C := Try.checked) own_knob started (by kernel_rfl) Try.func4
    (ChangeSpec.witness6 (enc := enc) (C := Try.checked) false ⟨#[], #[.agg #[.int .i64 0, .slice none 0 0, .slice none 0 0], .slice none 0 0], []⟩ 8 (by kernel_rfl) (by kernel_rfl) (by kernel_rfl) (by kernel_rfl)) ?_
  intro W base args ds gs before hval0 hW hcnd _
  have hval : ∀ (j : Nat) t v, Try.f4.params[j]? = some t → args[j]? = some v → Value.okWide Try.prog W .any base t v := hval0
  have hW' := hW
  obtain ⟨p, q, hA0, hV, rfl, hfz, hnd⟩ := hW
  have hA : DataW.TrodAll enc Try.prog W 0 (fun _ => true) true Try.f4.params.toList args.toList ds p := hA0
  have hAll := hA
  rw [Try.params4] at hA hval
  obtain ⟨v0, vs0, d0, ds0, p0, q0, hargs, rfl, rfl, h0, r0⟩ := trodAll_cons hA
  obtain ⟨v1, vs1, d1, ds1, p1, q1, rfl, rfl, rfl, h1, r1⟩ := trodAll_cons r0
  obtain ⟨rfl, rfl, rfl⟩ := trodAll_nil r1
  obtain rfl : args = #[v0, v1] := by cases args; simp_all
  obtain ⟨rfl, rfl⟩ := trodVars_none hV
  obtain ⟨vars, Ac, Ao, cc, co, fcl, order, rfl, hc, ho, hl, hcn, hol, _, _, _, _, _⟩ := open_formula (hval 0 28 v0 rfl rfl) h0
  obtain ⟨Am, cm, more, rfl, hmc, hm63, hm, _⟩ := open_ints_arg (hval 1 26 v1 rfl rfl) h1
  clear hA0 hval0 hA
  refine (same_walk hc ho hm hl hol hcn (Nat.le_trans hmc hm63) hmc).mono fun e W' ⟨he, hg⟩ => ?_
  subst he
  have hlt := hW'.lt
  simp only [List.append_nil] at hW' hlt hAll
  exact ⟨_, rfl, post_below (pa := p0 ++ p1) (pv := []) hW' hg.belowOf (by simp) (fun sp hsp => trodAll_stays (kids_rows laidOut rowed) fullSlices hg.belowOf hAll (by rw [Try.params4]; intro t ht; have : t = 28 ∨ t = 26 := (by simpa using ht); rcases this with rfl | rfl <;> exact of_decide_eq_true (by kernel_rfl)) hlt hsp) (fun _ _ => rfl)
    (fun _ _ _ => (trodAll_cons_mk (shut_bool Try.underlying4 _) trodAll_mk0)) (ok_one (by kernel_rfl) rfl (okWide_bool_mk Try.underlying4 _))⟩
theorem solveSame_holds : Rows.SolveSameSaid :=
  OpenClaim.holds_of_wide 4 Try.f4 rfl rfl rfl rfl rfl rfl rfl ⟨rfl, rfl, rfl, rfl, rfl⟩ rfl rfl rfl rfl rfl (by kernel_rfl) Try.func4 (by kernel_rfl)
    (of_decide_eq_true (by kernel_rfl)) (by unfold Func.isWrapper; first | (rw [if_pos (by decide +kernel)]; kernel_rfl) | (rw [if_neg (by decide +kernel)]; exact ⟨rfl, rfl⟩))
    (fun os started H enc _ => solveSame_lifted os started H enc)
#print axioms solveSame_holds
end Go.Proofs.Ytcglokippflioaa
