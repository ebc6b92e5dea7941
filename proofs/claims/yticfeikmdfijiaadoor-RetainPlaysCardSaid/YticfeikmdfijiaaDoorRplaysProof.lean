/- RetainPlays returns true at every input, under the row's own condition on two library tables; the card. -/
import Derived.Test.YticfeikmdfijiaaDoorOpenActs
import Derived.Test.YticfeikmdfijiaaDoorRetRow
import Derived.Lay
namespace Go.Proofs.YticfeikmdfijiaaDoor
open Go Go.ChangeShapes Go.WideShapes Go.ChangeAt Go.RowKit

set_option maxRecDepth 100000 in
set_option maxHeartbeats 2000000 in
theorem retainPlays_lifted (os : Os) (started : os.Started) (H : Type) (enc : TypeId × Value → H) :
    ReturnsInHanded {} Tryd.checked os 10 .any (fun w args => (Rows.retainPlaysSpec.pre enc Tryd.prog Tryd.f10 [] false w args ∧ laidMetH Tryd.prog Rows.retainPlaysRow.laid w) ∧ sizedMet enc Tryd.prog Tryd.f10 (OpenSpec.ofChange Rows.retainPlaysSpec) false w args)
      (Rows.retainPlaysSpec.post enc Tryd.prog Tryd.f10 false true false false) := by
  refine of_change_and_shaped (C := Tryd.checked) (X := fun w _ => laidMetH Tryd.prog Rows.retainPlaysRow.laid w) (fun _ _ _ hh h => h.of_heap hh) own started (by kernel_rfl) Tryd.func10
    (ChangeSpec.witness_shaped (enc := enc) (C := Tryd.checked) (os := os) (X := fun w _ => laidMetH Tryd.prog Rows.retainPlaysRow.laid w) false (World.laidAll Tryd.prog os Rows.retainPlaysRow.laid) #[.int .i64 0, .slice none 0 0] 8 (World.laidAll_os _ _ _) (World.shaped_of_ZipB (by kernel_rfl) (by kernel_rfl)) (by kernel_rfl) (by kernel_rfl) (by kernel_rfl)
      (by rw [MakeChecks.laidMetH_plain _ _ _ (by kernel_rfl)]; exact laidMet_laidAll _ (by kernel_rfl) (by kernel_rfl))) ?_
  intro W base args ds gs before hval0 hW _ _ _ hsh _
  have hval : ∀ (j : Nat) t v, Tryd.f10.params[j]? = some t → args[j]? = some v → Value.okWide Tryd.prog W .any base t v := hval0
  have hW' := hW
  obtain ⟨p, q, hA0, hV, rfl, hfz, hnd⟩ := hW
  have hA : DataW.TrodAll enc Tryd.prog W 0 (fun _ => true) true Tryd.f10.params.toList args.toList ds p := hA0
  rw [Tryd.params10] at hA hval
  obtain ⟨v0, vs0, d0, ds0, p0, q0, hargs, rfl, rfl, h0, r0⟩ := trodAll_cons hA
  obtain ⟨v1, vs1, d1, ds1, p1, q1, rfl, rfl, rfl, h1, r1⟩ := trodAll_cons r0
  obtain ⟨rfl, rfl, rfl⟩ := trodAll_nil r1
  obtain rfl : args = #[v0, v1] := by cases args; simp_all
  obtain ⟨rfl, rfl⟩ := trodVars_none hV
  obtain ⟨a0, rfl, rfl, rfl, w0⟩ := open_int Tryd.underlying3 (hval 0 3 v0 rfl rfl) h0
  have hv1 := hval 1 95 v1 rfl rfl
  have h1k := h1
  obtain ⟨fuel1, hf1⟩ := h1
  obtain ⟨l1, x1, hcs1, hms1⟩ := open_acts hf1
  have hm1 : v1 = x1 := slice_v Tryd.underlying95 hv1 hcs1
  subst hm1
  clear hcs1
  clear hA0
  simp only [List.append_nil, List.nil_append] at hW'
  have hlt1 : ∀ y ∈ p1, y.block < W.heap.size := fun y hy => hW'.lt y (by simp [hy])
  refine (rplays_call W a0 v1 l1 hms1 (intAt_of hsh)).mono fun e W' he => ?_
  obtain ⟨rfl, hg⟩ := he
  refine ⟨_, _, _, [], p1, [], hW', ?_, ?_, ?_, kept_of hg _, fun h => by cases h⟩
  · exact trodAll_cons_mk (shut_bool Tryd.underlying4 true) trodAll_mk0
  · have hx := trodAll_cons_mk (shut_int Tryd.underlying3 w0) (trodAll_cons_mk (hg.below.trod laidOut (by kernel_rfl) (of_decide_eq_true (by kernel_rfl)) h1k hlt1) trodAll_mk0)
    simp only [List.append_nil, List.nil_append] at hx
    exact hx
  · rfl

theorem retainPlays_row : Rows.RetainPlaysSaid :=
  OpenClaim.holds_of_wide 10 Tryd.f10 rfl rfl rfl rfl rfl rfl rfl ⟨rfl, rfl, rfl, rfl, rfl⟩ rfl rfl rfl rfl rfl (by kernel_rfl) Tryd.func10 (by kernel_rfl)
    (of_decide_eq_true (by kernel_rfl)) (by unfold Func.isWrapper; first | (rw [if_pos (by decide +kernel)]; kernel_rfl) | (rw [if_neg (by decide +kernel)]; exact ⟨rfl, rfl⟩))
    (fun os started H enc _ => retainPlays_lifted os started H enc)

theorem retainPlays_card : Rows.RetainPlaysCardSaid :=
  Claim7.holds_tied_plain_at .later [] [.data, .pinned] true (true, "c59d1125d28c1f510542370e9044050aedb862f50b10b67cb108a87e5e8b879a") true
    retainPlays_row (fun _ h => by cases h) (by kernel_rfl) (fun _ h => by cases h) retainPlays_row_tie rfl ⟨rfl, rfl⟩ (by kernel_rfl) rfl
    (fun f fn hf hfn => by
      obtain rfl : f = 10 := Option.some.inj ((show Tryd.prog.funcNamed "switchboard/switchboardlaw12.RetainPlays" = some 10 by kernel_rfl).symm.trans hf) |>.symm
      obtain rfl : fn = Tryd.f10 := (Option.some.inj (Tryd.func10.symm.trans hfn)).symm
      exact ⟨by kernel_rfl, fun j t ht => by
        rw [Tryd.params10] at ht
        have hm : t ∈ [3, 95] := by simpa using Array.mem_of_getElem? ht
        have hall : ([3, 95].all fun u => !Tryd.prog.wantsStandIn u) = true := by kernel_rfl
        exact (show Tryd.prog.wantsStandIn t = false by simpa using List.all_eq_true.1 hall t hm)⟩)
    (by kernel_rfl)
#print axioms retainPlays_card

end Go.Proofs.YticfeikmdfijiaaDoor
