/- RetainLeft returns true at every input, under the row's own condition on two library tables; the card. -/
import Derived.Test.YticfeikmdfijiaaDoorRleft
import Derived.Test.YticfeikmdfijiaaDoorRetRow
import Derived.Lay
namespace Go.Proofs.YticfeikmdfijiaaDoor
open Go Go.ChangeShapes Go.WideShapes Go.ChangeAt Go.RowKit

set_option maxRecDepth 100000 in
theorem rleft_lifted (os : Os) (started : os.Started) (H : Type) (enc : TypeId × Value → H) :
    ReturnsInHanded {} Tryd.checked os 5 .any (fun w args => (Rows.retainLeftSpec.pre enc Tryd.prog Tryd.f5 [] false w args ∧ laidMetH Tryd.prog Rows.retainLeftRow.laid w) ∧ sizedMet enc Tryd.prog Tryd.f5 (OpenSpec.ofChange Rows.retainLeftSpec) false w args)
      (Rows.retainLeftSpec.post enc Tryd.prog Tryd.f5 false true false false) := by
  refine of_change_and_shaped (C := Tryd.checked) (X := fun w _ => laidMetH Tryd.prog Rows.retainLeftRow.laid w) (fun _ _ _ hh h => h.of_heap hh) own started (by kernel_rfl) Tryd.func5
    (ChangeSpec.witness_shaped (enc := enc) (C := Tryd.checked) (os := os) (X := fun w _ => laidMetH Tryd.prog Rows.retainLeftRow.laid w) false (World.laidAll Tryd.prog os Rows.retainLeftRow.laid) #[.agg #[.string ⟨#[]⟩, .int .i64 0, .int .u8 0, .bool false, .slice none 0 0, .string ⟨#[]⟩, .string ⟨#[]⟩], .int .u32 0, .int .i64 0] 8 (World.laidAll_os _ _ _) (World.shaped_of_ZipB (by kernel_rfl) (by kernel_rfl)) (by kernel_rfl) (by kernel_rfl) (by kernel_rfl)
      (by rw [MakeChecks.laidMetH_plain _ _ _ (by kernel_rfl)]; exact laidMet_laidAll _ (by kernel_rfl) (by kernel_rfl))) ?_
  intro W base args ds gs before hval0 hW _ _ _ hsh _
  have hval : ∀ (j : Nat) t v, Tryd.f5.params[j]? = some t → args[j]? = some v → Value.okWide Tryd.prog W .any base t v := hval0
  have hW' := hW
  obtain ⟨p, q, hA0, hV, rfl, hfz, hnd⟩ := hW
  have hA : DataW.TrodAll enc Tryd.prog W 0 (fun _ => true) true Tryd.f5.params.toList args.toList ds p := hA0
  rw [Tryd.params5] at hA hval
  obtain ⟨v0, vs0, d0, ds0, p0, q0, hargs, rfl, rfl, h0, r0⟩ := trodAll_cons hA
  obtain ⟨v1, vs1, d1, ds1, p1, q1, rfl, rfl, rfl, h1, r1⟩ := trodAll_cons r0
  obtain ⟨v2, vs2, d2, ds2, p2, q2, rfl, rfl, rfl, h2, r2⟩ := trodAll_cons r1
  obtain ⟨rfl, rfl, rfl⟩ := trodAll_nil r2
  obtain rfl : args = #[v0, v1, v2] := by cases args; simp_all
  obtain ⟨rfl, rfl⟩ := trodVars_none hV
  obtain ⟨a1, rfl, rfl, rfl, w1⟩ := open_int Tryd.underlying22 (hval 1 22 v1 rfl rfl) h1
  obtain ⟨a2, rfl, rfl, rfl, w2⟩ := open_int Tryd.underlying3 (hval 2 3 v2 rfl rfl) h2
  have hv0 := hval 0 58 v0 rfl rfl
  have h0k := h0
  obtain ⟨fuel0, hf0⟩ := h0
  obtain ⟨m, pv, hcs, hsl, hn⟩ := open_msg hf0
  have hm : v0 = m.v pv := msg_v hv0 hcs
  subst hm
  clear hA0 hval0 hval hf0 hcs hv0
  simp only [List.append_nil] at hW'
  have e1 : IntKind.u32.min = 0 := rfl
  have e2 : IntKind.u32.max = 4294967295 := rfl
  have wb := w1
  simp only [Lit.wf, Bool.and_eq_true, decide_eq_true_eq, e1, e2] at wb
  have hlt : ∀ y ∈ p0, y.block < W.heap.size := fun y hy => by simpa using hW'.lt y hy
  refine (rleft_call W m pv a1 a2 hsl hn wb.1 wb.2 (intAt_of hsh)).mono fun e W' he => ?_
  obtain ⟨rfl, hg⟩ := he
  refine ⟨_, _, _, [], p0, [], hW', ?_, ?_, ?_, kept_of hg _, fun h => by cases h⟩
  · exact trodAll_cons_mk (shut_bool Tryd.underlying4 true) trodAll_mk0
  · have hx := trodAll_cons_mk (hg.below.trod laidOut (by kernel_rfl) (of_decide_eq_true (by kernel_rfl)) h0k hlt) (trodAll_cons_mk (shut_int Tryd.underlying22 w1) (trodAll_cons_mk (shut_int Tryd.underlying3 w2) trodAll_mk0))
    simp only [List.append_nil] at hx
    exact hx
  · rfl

theorem retainLeft_row : Rows.RetainLeftSaid :=
  OpenClaim.holds_of_wide 5 Tryd.f5 rfl rfl rfl rfl rfl rfl rfl ⟨rfl, rfl, rfl, rfl, rfl⟩ rfl rfl rfl rfl rfl (by kernel_rfl) Tryd.func5 (by kernel_rfl)
    (of_decide_eq_true (by kernel_rfl)) (by unfold Func.isWrapper; first | (rw [if_pos (by decide +kernel)]; kernel_rfl) | (rw [if_neg (by decide +kernel)]; exact ⟨rfl, rfl⟩))
    (fun os started H enc _ => rleft_lifted os started H enc)

theorem retainLeft_card : Rows.RetainLeftCardSaid :=
  Claim7.holds_tied_plain_at .later [] [.data, .pinned] true (true, "c59d1125d28c1f510542370e9044050aedb862f50b10b67cb108a87e5e8b879a") true
    retainLeft_row (fun _ h => by cases h) (by kernel_rfl) (fun _ h => by cases h) retainLeft_row_tie rfl ⟨rfl, rfl⟩ (by kernel_rfl) rfl
    (fun f fn hf hfn => by
      obtain rfl : f = 5 := Option.some.inj ((show Tryd.prog.funcNamed "switchboard/switchboardlaw12.RetainLeft" = some 5 by kernel_rfl).symm.trans hf) |>.symm
      obtain rfl : fn = Tryd.f5 := (Option.some.inj (Tryd.func5.symm.trans hfn)).symm
      exact ⟨by kernel_rfl, fun j t ht => by
        rw [Tryd.params5] at ht
        have hm : t ∈ [58, 22, 3] := by simpa using Array.mem_of_getElem? ht
        have hall : ([58, 22, 3].all fun u => !Tryd.prog.wantsStandIn u) = true := by kernel_rfl
        exact (show Tryd.prog.wantsStandIn t = false by simpa using List.all_eq_true.1 hall t hm)⟩)
    (by kernel_rfl)
#print axioms retainLeft_card

end Go.Proofs.YticfeikmdfijiaaDoor
