import Derived.Test.YtcglokippflioaaBri
import Derived.Deep.DeepCutAuto
/-! add. -/
namespace Go.Proofs.Ytcglokippflioaa
open Go Go.RowKit YLib
section
variable {w0 w : World} {T : Nat → Prop} {b m : Nat} {fc fo vc vv vt vl : Value} {s : St} {rest : List HP}
set_option maxRecDepth 100000 in
set_option maxHeartbeats 2000000 in
theorem add_calls (h : Inv w0 T w (sP b fc fo vc vv vt vl m s ++ rest)) {S : Nat → Prop} {A : Option Addr} {cc : Nat} {c : List Int} (hc : RowAt Kind.int w S A c) (hb : c.length ≤ LIM) (hl : s.cls.length < LIM) (ha : 0 ≤ s.act s.cls.length ∧ s.act s.cls.length ≤ 1) :
    Calls Try.prog 23 #[.pointer (some ⟨b, 0, none⟩), .slice A c.length cc] w fun e w' => e = .returned (.int .i64 s.cls.length) ∧
      ∃ vc', Inv w0 T w' (sP b fc fo vc' vv vt vl m { s with cls := s.cls ++ [c], act := fun j => if j = s.cls.length then s.act j + 1 else s.act j } ++ rest) := by
  have HC := hid (fun W => Clone_calls (w := W) (S := fun _ => True) (A := A) (cc := cc) (c := c))
  have HB := hid hb
  have HR : Hid (RowAt Kind.int w (fun _ => True) A c) := hid (hc.mono (fun _ _ => trivial))
  clear hc
  unfold LIM at hl
  have hc3 := (h.cell (i := 0) rfl 3 rfl).1
  have H := hid h; clear h
  go_enter Try.func23, Try.ntmps23
  have hlt : b < w.heap.size := by obtain ⟨S, hS, _⟩ := H.out.get (i := 0) rfl; exact heap_lt hS.1
  go_upto_region 1 with (fail)
  go_cut [] (fun wx => ∃ g1 cap1, Hid (YLib.Inv w0 T wx (sPn s.cls.length b fc fo (.slice (some ⟨g1, 0, none⟩) (s.cls.length + 1) cap1) vv vt vl m { s with cls := s.cls ++ [c] } ++ rest)))
  case first =>
    go_region_law (first
      | (go_simp; go_at_call 33; refine (HC.out _ (by exact HR.out) HB.out).mono ?_; rintro e w1 ⟨A', c', rfl, hbl, hn⟩; have hc3' := (hbl.cell (p := ⟨b, 3, none⟩) hlt).trans hc3; have hlt1 : b < w1.heap.size := Nat.lt_of_lt_of_le hlt hbl.size; have H1 := hid ((H.out.drew).cons hbl hn); clear hbl hn)
      | (refine step_of_wp rfl ?_; refine wp_append_inv2 _ _ 33 rfl Try.underlying33 infoInts rfl (by decide) 4 0 (by decide) vc s.cls [c] _ (H1.out.alloc _) rfl rfl rfl ⟨w1.heap.size, 0, none⟩ 1 1 rfl [.slice A' c.length c'] rfl (World.news_of_block (heap_alloc_new w1 _)) (fun S2 h => ⟨[.slice A' c.length c'], [], rfl, Owned.rd (d := Kind.int) h, rfl⟩) (by omega) (by omega) (by omega) ?_; intro g1 cap1 w2 h4; obtain ⟨hc1, hc2⟩ := h4.cell (i := 1) rfl 3 rfl; have H4 := hid h4; clear h4))
    all_goals
      go_wp2_with (fail)
      go_meet
      case rel => exact ⟨_, _, hid ((H4.out.set (i := 1) rfl 3 _).tail)⟩
  case rest =>
    obtain ⟨g1, cap1, H1⟩ := hcut
    clear hc3 H
    have h1 := H1.out.drew
    have hc2 := (H1.out.cell (i := 0) rfl 4 rfl).1
    have hc3 := (H1.out.cell (i := 0) rfl 3 rfl).1
    have hk : (Lit.int .i64 (s.cls.length : Int)).wf = true := YLib.wf_i64 (by omega)
    obtain ⟨ha0, ha1⟩ := ha
    have hlk := (h1.mapGet Try.underlying50 Try.underlying3 Try.underlying3 (fun w => by kernel_rfl) (i := 5) rfl hk).1
    obtain ⟨w3, hup, h3⟩ := h1.mapPut Try.underlying50 Try.underlying3 Try.underlying3 (i := 5) rfl (by omega) hk (YLib.wf_i64 (x := s.act s.cls.length + 1) (by omega))
    have hc3' := (h3.cell (i := 0) rfl 3 rfl).1
    have hfun : (fun j => if j = (s.cls.length : Int) then s.act s.cls.length + 1 else s.act j) = (fun j => if j = (s.cls.length : Int) then s.act j + 1 else s.act j) := by
      funext j
      split
      · rename_i hj; rw [hj]
      · rfl
    rw [hfun] at h3
    clear hfun
    have H3 := hid h3
    clear h1 h3 hk
    generalize s.act s.cls.length = a0 at *
    have hs1 : IntKind.i64.wrap ((s.cls.length : Int) + 1 - 1) = s.cls.length := by rw [Int.add_sub_cancel]; exact IntWalk.i64_in _ (by omega)
    have hs2 : IntKind.i64.wrap (s.cls.length : Int) = s.cls.length := IntWalk.i64_in _ (by omega)
    have hs3 : IntKind.i64.wrap (a0 + 1) = a0 + 1 := IntWalk.i64_in _ (by omega)
    go_wp2
    go_region
    go_wp2
    go_ret
    exact ⟨rfl, _, H3.out.weaken (c' := mapP Try.prog 3 3 m (s.cls ++ [c]).length _) (i := 5) rfl (fun S h => by rw [List.length_append, List.length_singleton]; exact h)⟩
end
end Go.Proofs.Ytcglokippflioaa
