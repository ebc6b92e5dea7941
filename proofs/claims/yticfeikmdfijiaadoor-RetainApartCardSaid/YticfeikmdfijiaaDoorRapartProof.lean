/- RetainApart returns true at every input, under the row's own condition on two library tables; the card. -/
import Derived.Test.YticfeikmdfijiaaDoorRapart
import Derived.Test.YticfeikmdfijiaaDoorRetRow
import Derived.Lay
namespace Go.Proofs.YticfeikmdfijiaaDoor
open Go Go.ChangeShapes Go.WideShapes Go.ChangeAt Go.RowKit

set_option maxRecDepth 100000 in
theorem retainApart_lifted (os : Os) (started : os.Started) (H : Type) (enc : TypeId × Value → H) :
    ReturnsInHanded {} Tryd.checked os 8 .any (fun w args => (Rows.retainApartSpec.pre enc Tryd.prog Tryd.f8 [] false w args ∧ laidMetH Tryd.prog Rows.retainApartRow.laid w) ∧ sizedMet enc Tryd.prog Tryd.f8 (OpenSpec.ofChange Rows.retainApartSpec) false w args)
      (Rows.retainApartSpec.post enc Tryd.prog Tryd.f8 false true false false) := by
  refine of_change_and_shaped (C := Tryd.checked) (X := fun w _ => laidMetH Tryd.prog Rows.retainApartRow.laid w) (fun _ _ _ hh h => h.of_heap hh) own started (by kernel_rfl) Tryd.func8
    (ChangeSpec.witness_shaped (enc := enc) (C := Tryd.checked) (os := os) (X := fun w _ => laidMetH Tryd.prog Rows.retainApartRow.laid w) false (World.laidAll Tryd.prog os Rows.retainApartRow.laid) #[.agg #[.string ⟨#[]⟩, .int .i64 0, .int .u8 0, .bool false, .slice none 0 0, .string ⟨#[]⟩, .string ⟨#[]⟩], .string ⟨#[]⟩] 8 (World.laidAll_os _ _ _) (World.shaped_of_ZipB (by kernel_rfl) (by kernel_rfl)) (by kernel_rfl) (by kernel_rfl) (by kernel_rfl)
      (by rw [MakeChecks.laidMetH_plain _ _ _ (by kernel_rfl)]; exact laidMet_laidAll _ (by kernel_rfl) (by kernel_rfl))) ?_
  intro W base args ds gs before hval0 hW _ _ _ hsh _
  have hval : ∀ (j : Nat) t v, Tryd.f8.params[j]? = some t → args[j]? = some v → Value.okWide Tryd.prog W .any base t v := hval0
  have hW' := hW
  obtain ⟨p, q, hA0, hV, rfl, hfz, hnd⟩ := hW
  have hA : DataW.TrodAll enc Tryd.prog W 0 (fun _ => true) true Tryd.f8.params.toList args.toList ds p := hA0
  rw [Tryd.params8] at hA hval
  obtain ⟨v0, vs0, d0, ds0, p0, q0, hargs, rfl, rfl, h0, r0⟩ := trodAll_cons hA
  obtain ⟨v1, vs1, d1, ds1, p1, q1, rfl, rfl, rfl, h1, r1⟩ := trodAll_cons r0
  obtain ⟨rfl, rfl, rfl⟩ := trodAll_nil r1
  obtain rfl : args = #[v0, v1] := by cases args; simp_all
  obtain ⟨rfl, rfl⟩ := trodVars_none hV
  obtain ⟨a1, rfl, rfl, rfl, w1⟩ := Go.ChangeMaps.open_string Tryd.underlying9 (hval 1 9 v1 rfl rfl) h1
  have hv0 := hval 0 58 v0 rfl rfl
  have h0k := h0
  obtain ⟨fuel0, hf0⟩ := h0
  obtain ⟨m0, pv0, hcs0, hsl0, hn0⟩ := open_msg hf0
  have hm0 : v0 = m0.v pv0 := msg_v hv0 hcs0
  subst hm0
  clear hcs0
  clear hA0
  simp only [List.append_nil, List.nil_append] at hW'
  have hlt0 : ∀ y ∈ p0, y.block < W.heap.size := fun y hy => hW'.lt y (by simp [hy])
  refine (rapart_call W m0 pv0 a1 hsl0 hn0 (intAt_of hsh)).mono fun e W' he => ?_
  obtain ⟨rfl, hg⟩ := he
  refine ⟨_, _, _, [], p0, [], hW', ?_, ?_, ?_, kept_of hg _, fun h => by cases h⟩
  · exact trodAll_cons_mk (shut_bool Tryd.underlying4 true) trodAll_mk0
  · have hx := trodAll_cons_mk (hg.below.trod laidOut (by kernel_rfl) (of_decide_eq_true (by kernel_rfl)) h0k hlt0) (trodAll_cons_mk (Go.ChangeMaps.shut_string Tryd.underlying9 w1) trodAll_mk0)
    simp only [List.append_nil, List.nil_append] at hx
    exact hx
  · rfl

theorem retainApart_row : Rows.RetainApartSaid :=
  OpenClaim.holds_of_wide 8 Tryd.f8 rfl rfl rfl rfl rfl rfl rfl ⟨rfl, rfl, rfl, rfl, rfl⟩ rfl rfl rfl rfl rfl (by kernel_rfl) Tryd.func8 (by kernel_rfl)
    (of_decide_eq_true (by kernel_rfl)) (by unfold Func.isWrapper; first | (rw [if_pos (by decide +kernel)]; kernel_rfl) | (rw [if_neg (by decide +kernel)]; exact ⟨rfl, rfl⟩))
    (fun os started H enc _ => retainApart_lifted os started H enc)

theorem retainApart_card : Rows.RetainApartCardSaid :=
  Claim7.holds_tied_plain_at .later [] [.data, .pinned] true (true, "c59d1125d28c1f510542370e9044050aedb862f50b10b67cb108a87e5e8b879a") true
    retainApart_row (fun _ h => by cases h) (by kernel_rfl) (fun _ h => by cases h) retainApart_row_tie rfl ⟨rfl, rfl⟩ (by kernel_rfl) rfl
    (fun f fn hf hfn => by
      obtain rfl : f = 8 := Option.some.inj ((show Tryd.prog.funcNamed "switchboard/switchboardlaw12.RetainApart" = some 8 by kernel_rfl).symm.trans hf) |>.symm
      obtain rfl : fn = Tryd.f8 := (Option.some.inj (Tryd.func8.symm.trans hfn)).symm
      exact ⟨by kernel_rfl, fun j t ht => by
        rw [Tryd.params8] at ht
        have hm : t ∈ [58, 9] := by simpa using Array.mem_of_getElem? ht
        have hall : ([58, 9].all fun u => !Tryd.prog.wantsStandIn u) = true := by kernel_rfl
        exact (show Tryd.prog.wantsStandIn t = false by simpa using List.all_eq_true.1 hall t hm)⟩)
    (by kernel_rfl)
#print axioms retainApart_card

end Go.Proofs.YticfeikmdfijiaaDoor
