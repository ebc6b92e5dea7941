/- A publish of short texts. -/
import Derived.Test.YticfeikmdfijiaaDoorOfs
import Derived.Deep.Cut
import Derived.Lib.Hide
namespace Go.Proofs.YticfeikmdfijiaaDoor
open Go Go.RowKit

def fewPub (p : PubR) : PubR := ⟨p.dup, p.ret, p.qos, p.id, fewPs p.props, cutS p.topic 30, cutS p.payload 50⟩

set_option maxHeartbeats 4000000 in
theorem few07_call (w : World) (p : PubR) (pp : Value) (h : ArgSl w pp p.props) :
    Gives Tryd.prog 32 #[p.v pp] w fun r w' => ∃ pv', r = (fewPub p).v pv' ∧ w'.ownsRow w.heap.size 62 4 pv' (fewPs p.props).length ((fewPs p.props).flatMap PropR.cells) ∧ Ch [] w w' := by
  have hf : ∀ w', Ch [] w w' → _ := fun w' (hc : Ch [] w w') => fewP_call w' pp p.props (h.keep hc)
  obtain ⟨dup, ret, qos, id, l, tp, py⟩ := p
  simp only at h hf
  obtain ⟨ao, cap, rfl⟩ := h.shape'
  generalize l.length = n at hf ⊢
  obtain ⟨k, hk⟩ : ∃ k, k = (fewPs l).length := ⟨_, rfl⟩
  rw [← hk] at hf
  have HK : Hid (k = (fewPs l).length) := hk
  have HF := Lib.hid hf
  clear hf h hk
  simp only [PubR.v]
  have hc2 : Ch [] w ((w.alloc (.cells #[.bool dup, .bool ret, .int .u8 qos, .int .u32 id, .slice ao n cap, .string tp, .string py] 29)).alloc (.cells #[.bool false, .bool false, .int .u8 0, .int .u32 0, .slice none 0 0, .string ⟨#[]⟩, .string ⟨#[]⟩] 29)) := ((Ch.refl [] w).alloc _).alloc _
  have hbP := heap_old (heap_new w (.cells #[.bool dup, .bool ret, .int .u8 qos, .int .u32 id, .slice ao n cap, .string tp, .string py] 29)) (.cells #[.bool false, .bool false, .int .u8 0, .int .u32 0, .slice none 0 0, .string ⟨#[]⟩, .string ⟨#[]⟩] 29)
  have hbR := heap_new (w.alloc (.cells #[.bool dup, .bool ret, .int .u8 qos, .int .u32 id, .slice ao n cap, .string tp, .string py] 29)) (.cells #[.bool false, .bool false, .int .u8 0, .int .u32 0, .slice none 0 0, .string ⟨#[]⟩, .string ⟨#[]⟩] 29)
  have e1 : (w.alloc (.cells #[.bool dup, .bool ret, .int .u8 qos, .int .u32 id, .slice ao n cap, .string tp, .string py] 29)).heap.size = w.heap.size + 1 := by simp
  have e2 : (((w.alloc (.cells #[.bool dup, .bool ret, .int .u8 qos, .int .u32 id, .slice ao n cap, .string tp, .string py] 29)).alloc (.cells #[.bool false, .bool false, .int .u8 0, .int .u32 0, .slice none 0 0, .string ⟨#[]⟩, .string ⟨#[]⟩] 29))).heap.size = w.heap.size + 2 := by simp
  rw [e1] at hbR
  go_enter Tryd.func32, Tryd.ntmps32
  go_upto_region 1 with fail
  clear e1
  generalize ((w.alloc (.cells #[.bool dup, .bool ret, .int .u8 qos, .int .u32 id, .slice ao n cap, .string tp, .string py] 29)).alloc (.cells #[.bool false, .bool false, .int .u8 0, .int .u32 0, .slice none 0 0, .string ⟨#[]⟩, .string ⟨#[]⟩] 29)) = w2 at hc2 hbP hbR e2 ⊢
  have hsz2 : w.heap.size + 2 ≤ w2.heap.size := by omega
  clear e2
  obtain ⟨c0, c1, c2, c3, c4, c5, c6⟩ := cells7 hbP
  go_wp2_with fail
  refine Calls.mono (HF.out w2 hc2) ?_
  rintro e w3 ⟨v, rfl, hrow, hk3⟩
  obtain ⟨q1, q3, rfl⟩ := row_shape hrow
  clear c0 c1 c2 c3 c4 c5 c6
  have hbP3 := hk3.keep hbP (by simp)
  have hbR3 := hk3.keep hbR (by simp)
  have hplt := lt_of_heap hbP3
  obtain ⟨c0, c1, c2, c3, c4, c5, c6⟩ := cells7 hbP3
  obtain ⟨f0, f1, f2, f3, f4, f5, f6⟩ := frees7 hbP3
  go_upto_region 2 with fail
  clear c0 c1 c2 c3 c4 c5 c6 f0 f1 f2 f3 f4 f5 f6
  have hbP4 := heap_set1 4 (.slice q1 k q3) (cs := [.bool dup, .bool ret, .int .u8 qos, .int .u32 id, .slice ao n cap, .string tp, .string py]) hbP3
  have hbR4 := heap_setCell_ne hbR3 (p := ⟨w.heap.size, 4, none⟩) (show w.heap.size + 1 ≠ w.heap.size by omega) (.slice q1 k q3)
  have hk4 : Ch [w.heap.size] w3 (w3.setCell ⟨w.heap.size, 4, none⟩ (.slice q1 k q3)) := (Ch.refl _ w3).setCell _ _ (.inl (by simp))
  simp only [List.set_cons_succ, List.set_cons_zero] at hbP4
  generalize w3.setCell ⟨w.heap.size, 4, none⟩ (.slice q1 k q3) = w4' at hbP4 hbR4 hk4 ⊢
  refine wp_region_flow (Ch [] w4') 7 [(true, 0), (true, 1), (true, 3), (true, 4), (false, 2), (true, 6), (false, 5)] (by kernel_rfl) (by kernel_rfl) (Ch.refl [] w4').drew ?_
  intro hS hne
  have f5 := wd_cell hbP4 5 rfl
  have f6 := wd_cell hbP4 6 rfl
  repeat (refine flow_q (by rfl) ?_; go_big_quiet_step (fail); refine flow_n ?_)
  refine flow_l (by rfl) ?_
  go_wp2_with fail
  refine Calls.mono (cut_call _ _ 30 (by omega)) ?_
  rintro e w' ⟨v, rfl, rfl, rfl⟩
  go_wp2
  refine ⟨hS, ?_⟩
  repeat (refine flow_q (by rfl) ?_; go_big_quiet_step (fail); refine flow_n ?_)
  refine flow_l (by rfl) ?_
  go_wp2_with fail
  refine Calls.mono (cut_call _ _ 50 (by omega)) ?_
  rintro e w' ⟨v, rfl, rfl, rfl⟩
  go_wp2
  refine ⟨hS, ?_⟩
  refine flow_t ?_
  clear f5 f6 hne
  simp only [List.drop_succ_cons, List.drop_zero]
  have hbPd := hS.keep hbP4 (by simp)
  have hbRd := hS.keep hbR4 (by simp)
  have hk4d := hk4.trans hS (fun x hx => by cases hx)
  generalize w4'.drew = w4 at hbPd hbRd hk4d ⊢
  have hplt4 := lt_of_heap hbPd
  obtain ⟨c0, c1, c2, c3, c4, c5, c6⟩ := cells7 hbPd
  obtain ⟨f0, f1, f2, f3, f4, f5, f6⟩ := frees7 hbPd
  go_wp2
  refine shut0_normal ?_
  clear c0 c1 c2 c3 c4 c5 c6 f0 f1 f2 f3 f4 f5 f6
  have hbP5 := heap_set1 6 (.string (cutS py 50)) (cs := [.bool dup, .bool ret, .int .u8 qos, .int .u32 id, .slice q1 k q3, .string (cutS tp 30), .string py]) (heap_set1 5 (.string (cutS tp 30)) (cs := [.bool dup, .bool ret, .int .u8 qos, .int .u32 id, .slice q1 k q3, .string tp, .string py]) hbPd)
  have hbR5 := heap_setCell_ne (heap_setCell_ne hbRd (p := ⟨w.heap.size, 5, none⟩) (show w.heap.size + 1 ≠ w.heap.size by omega) (.string (cutS tp 30))) (p := ⟨w.heap.size, 6, none⟩) (show w.heap.size + 1 ≠ w.heap.size by omega) (.string (cutS py 50))
  have hk5 : Ch [w.heap.size] w3 ((w4.setCell ⟨w.heap.size, 5, none⟩ (.string (cutS tp 30))).setCell ⟨w.heap.size, 6, none⟩ (.string (cutS py 50))) := (hk4d.setCell ⟨w.heap.size, 5, none⟩ _ (.inl (by simp))).setCell ⟨w.heap.size, 6, none⟩ _ (.inl (by simp))
  simp only [List.set_cons_succ, List.set_cons_zero] at hbP5
  generalize ((w4.setCell ⟨w.heap.size, 5, none⟩ (.string (cutS tp 30))).setCell ⟨w.heap.size, 6, none⟩ (.string (cutS py 50))) = w5 at hbP5 hbR5 hk5 ⊢
  obtain ⟨c0, c1, c2, c3, c4, c5, c6⟩ := cells7 hbP5
  obtain ⟨d0, d1, d2, d3, d4, d5, d6⟩ := cells7 hbR5
  obtain ⟨f0, f1, f2, f3, f4, f5, f6⟩ := frees7 hbR5
  go_wp2
  have hW := heap_set7 (v0 := .bool dup) (v1 := .bool ret) (v2 := .int .u8 qos) (v3 := .int .u32 id) (v4 := .slice q1 k q3) (v5 := .string (cutS tp 30)) (v6 := .string (cutS py 50)) hbR5
  have hk7 : Ch [w.heap.size, w.heap.size + 1] w3 (((((((w5.setCell ⟨w.heap.size + 1, 0, none⟩ (.bool dup)).setCell ⟨w.heap.size + 1, 1, none⟩ (.bool ret)).setCell ⟨w.heap.size + 1, 2, none⟩ (.int .u8 qos)).setCell ⟨w.heap.size + 1, 3, none⟩ (.int .u32 id)).setCell ⟨w.heap.size + 1, 4, none⟩ (.slice q1 k q3)).setCell ⟨w.heap.size + 1, 5, none⟩ (.string (cutS tp 30))).setCell ⟨w.heap.size + 1, 6, none⟩ (.string (cutS py 50))) := (hk5.mono (fun x hx => by simp only [List.mem_singleton] at hx; simp [hx])).set7 (b := w.heap.size + 1) (v0 := .bool dup) (v1 := .bool ret) (v2 := .int .u8 qos) (v3 := .int .u32 id) (v4 := .slice q1 k q3) (v5 := .string (cutS tp 30)) (v6 := .string (cutS py 50)) (.inl (by simp))
  clear c0 c1 c2 c3 c4 c5 c6 d0 d1 d2 d3 d4 d5 d6 f0 f1 f2 f3 f4 f5 f6
  generalize (((((((w5.setCell ⟨w.heap.size + 1, 0, none⟩ (.bool dup)).setCell ⟨w.heap.size + 1, 1, none⟩ (.bool ret)).setCell ⟨w.heap.size + 1, 2, none⟩ (.int .u8 qos)).setCell ⟨w.heap.size + 1, 3, none⟩ (.int .u32 id)).setCell ⟨w.heap.size + 1, 4, none⟩ (.slice q1 k q3)).setCell ⟨w.heap.size + 1, 5, none⟩ (.string (cutS tp 30))).setCell ⟨w.heap.size + 1, 6, none⟩ (.string (cutS py 50))) = w7 at hW hk7 ⊢
  obtain ⟨x0, x1, x2, x3, x4, x5, x6⟩ := cells7 hW
  refine bodyPost_ret (v := .agg #[.bool dup, .bool ret, .int .u8 qos, .int .u32 id, .slice q1 k q3, .string (cutS tp 30), .string (cutS py 50)]) (by simp [results, Tryd.f32, go_sem, x0, x1, x2, x3, x4, x5, x6]) rfl ?_
  refine ⟨_, rfl, .slice q1 k q3, rfl, ?_, (hc2.thenNil hk3).trans hk7 (fun x hx => .inr (by simp only [List.mem_cons, List.not_mem_nil, or_false] at hx; omega))⟩
  rw [← HK.out]
  exact row_base (row_keep hrow hk7 (fun b hb => by have := (ownBlock_lt hrow hb).1; simp only [List.mem_cons, List.not_mem_nil, or_false]; omega)) (by omega)

end Go.Proofs.YticfeikmdfijiaaDoor
