/- The document's message, the document's publish. -/
import Derived.Test.YticfeikmdfijiaaDoorOfs
namespace Go.Proofs.YticfeikmdfijiaaDoor
open Go Go.RowKit

set_option maxHeartbeats 4000000 in
theorem told12_call (w : World) (m : MsgR) (pv : Value) (h : ArgSl w pv m.props) (hl : m.props.length ≤ 100000) :
    Gives Tryd.prog 35 #[m.v pv] w fun r w' => ∃ pv', r = m.v pv' ∧ w'.ownsRow w.heap.size 150 4 pv' m.props.length (m.props.flatMap PropR.cells) ∧ Ch [] w w' := by
  obtain ⟨fr, at_, qos, ret, l, tp, py⟩ := m
  simp only at h hl
  obtain ⟨n, hn⟩ : ∃ n, n = l.length := ⟨_, rfl⟩
  obtain ⟨ao, cap, hv⟩ := h.shape'
  rw [← hn] at hv
  subst hv
  have HN : Hid (n = l.length) := hn
  clear hn
  have hc2 : Ch [] w ((w.alloc (.cells #[.string fr, .int .i64 at_, .int .u8 qos, .bool ret, .slice ao n cap, .string tp, .string py] 58)).alloc (.cells #[.string ⟨#[]⟩, .int .i64 0, .int .u8 0, .bool false, .slice none 0 0, .string ⟨#[]⟩, .string ⟨#[]⟩] 84)) := ((Ch.refl [] w).alloc _).alloc _
  have hbP := heap_old (heap_new w (.cells #[.string fr, .int .i64 at_, .int .u8 qos, .bool ret, .slice ao n cap, .string tp, .string py] 58)) (.cells #[.string ⟨#[]⟩, .int .i64 0, .int .u8 0, .bool false, .slice none 0 0, .string ⟨#[]⟩, .string ⟨#[]⟩] 84)
  have hbR := heap_new (w.alloc (.cells #[.string fr, .int .i64 at_, .int .u8 qos, .bool ret, .slice ao n cap, .string tp, .string py] 58)) (.cells #[.string ⟨#[]⟩, .int .i64 0, .int .u8 0, .bool false, .slice none 0 0, .string ⟨#[]⟩, .string ⟨#[]⟩] 84)
  have e1 : (w.alloc (.cells #[.string fr, .int .i64 at_, .int .u8 qos, .bool ret, .slice ao n cap, .string tp, .string py] 58)).heap.size = w.heap.size + 1 := by simp
  have e2 : (((w.alloc (.cells #[.string fr, .int .i64 at_, .int .u8 qos, .bool ret, .slice ao n cap, .string tp, .string py] 58)).alloc (.cells #[.string ⟨#[]⟩, .int .i64 0, .int .u8 0, .bool false, .slice none 0 0, .string ⟨#[]⟩, .string ⟨#[]⟩] 84))).heap.size = w.heap.size + 2 := by simp
  rw [e1] at hbR
  simp only [MsgR.v]
  go_enter Tryd.func35, Tryd.ntmps35
  go_upto_region 1 with fail
  clear e1
  generalize ((w.alloc (.cells #[.string fr, .int .i64 at_, .int .u8 qos, .bool ret, .slice ao n cap, .string tp, .string py] 58)).alloc (.cells #[.string ⟨#[]⟩, .int .i64 0, .int .u8 0, .bool false, .slice none 0 0, .string ⟨#[]⟩, .string ⟨#[]⟩] 84)) = w2 at hc2 hbP hbR e2 ⊢
  have hsz : w.heap.size + 2 ≤ w2.heap.size := by omega
  clear e2
  refine wp_region_flow (Ch [] w2) 16 [(true, 0), (true, 1), (true, 2), (true, 3), (true, 4), (true, 5), (true, 6), (true, 7), (true, 8), (true, 9), (true, 11), (true, 12), (true, 13), (true, 14), (false, 10), (true, 15)] (by kernel_rfl) (by kernel_rfl) (Ch.refl [] w2).drew ?_
  intro hS hne
  have f0 := wd_cell hbP 0 rfl
  have f1 := wd_cell hbP 1 rfl
  have f2 := wd_cell hbP 2 rfl
  have f3 := wd_cell hbP 3 rfl
  have f4 := wd_cell hbP 4 rfl
  have f5 := wd_cell hbP 5 rfl
  have f6 := wd_cell hbP 6 rfl
  repeat (refine flow_q (by rfl) ?_; go_big_quiet_step (fail); refine flow_n ?_)
  refine flow_l (by rfl) ?_
  go_wp2_with fail
  have ht := told3_call w2.drew (.slice ao n cap) l (h.keep hc2.drew) hl
  rw [← HN.out] at ht
  refine Calls.mono ht ?_
  rintro e w3 ⟨v, rfl, hrow, hk3⟩
  obtain ⟨q1, q3, rfl⟩ := row_shape hrow
  have hS3 : Ch [] w2 w3 := hS.thenNil hk3
  clear ht
  go_wp2
  refine ⟨hS3, ?_⟩
  repeat (refine flow_q (by rfl) ?_; go_big_quiet_step (fail); refine flow_n ?_)
  refine flow_t ?_
  clear f0 f1 f2 f3 f4 f5 f6 hne
  simp only [List.drop_succ_cons, List.drop_zero]
  have hbR3 := hS3.keep hbR (by simp)
  obtain ⟨d0, d1, d2, d3, d4, d5, d6⟩ := cells7 hbR3
  obtain ⟨f0, f1, f2, f3, f4, f5, f6⟩ := frees7 hbR3
  go_wp2
  refine shut0_normal ?_
  go_wp2
  have hW := heap_set7 (v0 := .string fr) (v1 := .int .i64 at_) (v2 := .int .u8 qos) (v3 := .bool ret) (v4 := .slice q1 n q3) (v5 := .string tp) (v6 := .string py) hbR3
  have hk7 : Ch [w.heap.size + 1] w3 (((((((w3.setCell ⟨w.heap.size + 1, 0, none⟩ (.string fr)).setCell ⟨w.heap.size + 1, 1, none⟩ (.int .i64 at_)).setCell ⟨w.heap.size + 1, 2, none⟩ (.int .u8 qos)).setCell ⟨w.heap.size + 1, 3, none⟩ (.bool ret)).setCell ⟨w.heap.size + 1, 4, none⟩ (.slice q1 n q3)).setCell ⟨w.heap.size + 1, 5, none⟩ (.string tp)).setCell ⟨w.heap.size + 1, 6, none⟩ (.string py)) := (Ch.refl _ w3).set7 (b := w.heap.size + 1) (v0 := .string fr) (v1 := .int .i64 at_) (v2 := .int .u8 qos) (v3 := .bool ret) (v4 := .slice q1 n q3) (v5 := .string tp) (v6 := .string py) (.inl (by simp))
  clear d0 d1 d2 d3 d4 d5 d6 f0 f1 f2 f3 f4 f5 f6
  generalize (((((((w3.setCell ⟨w.heap.size + 1, 0, none⟩ (.string fr)).setCell ⟨w.heap.size + 1, 1, none⟩ (.int .i64 at_)).setCell ⟨w.heap.size + 1, 2, none⟩ (.int .u8 qos)).setCell ⟨w.heap.size + 1, 3, none⟩ (.bool ret)).setCell ⟨w.heap.size + 1, 4, none⟩ (.slice q1 n q3)).setCell ⟨w.heap.size + 1, 5, none⟩ (.string tp)).setCell ⟨w.heap.size + 1, 6, none⟩ (.string py)) = w7 at hW hk7 ⊢
  obtain ⟨q0', q1', q2', q3', q4', q5', q6'⟩ := cells7 hW
  refine bodyPost_ret (v := .agg #[.string fr, .int .i64 at_, .int .u8 qos, .bool ret, .slice q1 n q3, .string tp, .string py]) (by simp [results, Tryd.f35, go_sem, q0', q1', q2', q3', q4', q5', q6']) rfl ?_
  refine ⟨_, rfl, .slice q1 n q3, rfl, ?_, (hc2.thenNil hS3).trans hk7 (fun x hx => .inr (by simp only [List.mem_singleton] at hx; omega))⟩
  show w7.ownsRow _ _ _ _ l.length _
  rw [← HN.out]
  refine row_base (row_keep hrow hk7 (fun b hb => ?_)) (show w.heap.size ≤ w2.drew.heap.size from by have : w2.drew.heap.size = w2.heap.size := rfl; omega)
  have h1 := (ownBlock_lt hrow hb).1
  have h2 : w2.drew.heap.size = w2.heap.size := rfl
  simp only [List.mem_singleton]
  omega

set_option maxHeartbeats 4000000 in
theorem told07_call (w : World) (m : PubR) (pv : Value) (h : ArgSl w pv m.props) (hl : m.props.length ≤ 100000) :
    Gives Tryd.prog 38 #[m.v pv] w fun r w' => ∃ pv', r = m.v pv' ∧ w'.ownsRow w.heap.size 150 4 pv' m.props.length (m.props.flatMap PropR.cells) ∧ Ch [] w w' := by
  obtain ⟨dup, ret, qos, id, l, tp, py⟩ := m
  simp only at h hl
  obtain ⟨n, hn⟩ : ∃ n, n = l.length := ⟨_, rfl⟩
  obtain ⟨ao, cap, hv⟩ := h.shape'
  rw [← hn] at hv
  subst hv
  have HN : Hid (n = l.length) := hn
  clear hn
  have hc2 : Ch [] w ((w.alloc (.cells #[.bool dup, .bool ret, .int .u8 qos, .int .u32 id, .slice ao n cap, .string tp, .string py] 29)).alloc (.cells #[.bool false, .bool false, .int .u8 0, .int .u32 0, .slice none 0 0, .string ⟨#[]⟩, .string ⟨#[]⟩] 89)) := ((Ch.refl [] w).alloc _).alloc _
  have hbP := heap_old (heap_new w (.cells #[.bool dup, .bool ret, .int .u8 qos, .int .u32 id, .slice ao n cap, .string tp, .string py] 29)) (.cells #[.bool false, .bool false, .int .u8 0, .int .u32 0, .slice none 0 0, .string ⟨#[]⟩, .string ⟨#[]⟩] 89)
  have hbR := heap_new (w.alloc (.cells #[.bool dup, .bool ret, .int .u8 qos, .int .u32 id, .slice ao n cap, .string tp, .string py] 29)) (.cells #[.bool false, .bool false, .int .u8 0, .int .u32 0, .slice none 0 0, .string ⟨#[]⟩, .string ⟨#[]⟩] 89)
  have e1 : (w.alloc (.cells #[.bool dup, .bool ret, .int .u8 qos, .int .u32 id, .slice ao n cap, .string tp, .string py] 29)).heap.size = w.heap.size + 1 := by simp
  have e2 : (((w.alloc (.cells #[.bool dup, .bool ret, .int .u8 qos, .int .u32 id, .slice ao n cap, .string tp, .string py] 29)).alloc (.cells #[.bool false, .bool false, .int .u8 0, .int .u32 0, .slice none 0 0, .string ⟨#[]⟩, .string ⟨#[]⟩] 89))).heap.size = w.heap.size + 2 := by simp
  rw [e1] at hbR
  simp only [PubR.v]
  go_enter Tryd.func38, Tryd.ntmps38
  go_upto_region 1 with fail
  clear e1
  generalize ((w.alloc (.cells #[.bool dup, .bool ret, .int .u8 qos, .int .u32 id, .slice ao n cap, .string tp, .string py] 29)).alloc (.cells #[.bool false, .bool false, .int .u8 0, .int .u32 0, .slice none 0 0, .string ⟨#[]⟩, .string ⟨#[]⟩] 89)) = w2 at hc2 hbP hbR e2 ⊢
  have hsz : w.heap.size + 2 ≤ w2.heap.size := by omega
  clear e2
  refine wp_region_flow (Ch [] w2) 16 [(true, 0), (true, 1), (true, 2), (true, 3), (true, 4), (true, 5), (true, 6), (true, 7), (true, 8), (true, 9), (true, 11), (true, 12), (true, 13), (true, 14), (false, 10), (true, 15)] (by kernel_rfl) (by kernel_rfl) (Ch.refl [] w2).drew ?_
  intro hS hne
  have f0 := wd_cell hbP 0 rfl
  have f1 := wd_cell hbP 1 rfl
  have f2 := wd_cell hbP 2 rfl
  have f3 := wd_cell hbP 3 rfl
  have f4 := wd_cell hbP 4 rfl
  have f5 := wd_cell hbP 5 rfl
  have f6 := wd_cell hbP 6 rfl
  repeat (refine flow_q (by rfl) ?_; go_big_quiet_step (fail); refine flow_n ?_)
  refine flow_l (by rfl) ?_
  go_wp2_with fail
  have ht := told3_call w2.drew (.slice ao n cap) l (h.keep hc2.drew) hl
  rw [← HN.out] at ht
  refine Calls.mono ht ?_
  rintro e w3 ⟨v, rfl, hrow, hk3⟩
  obtain ⟨q1, q3, rfl⟩ := row_shape hrow
  have hS3 : Ch [] w2 w3 := hS.thenNil hk3
  clear ht
  go_wp2
  refine ⟨hS3, ?_⟩
  repeat (refine flow_q (by rfl) ?_; go_big_quiet_step (fail); refine flow_n ?_)
  refine flow_t ?_
  clear f0 f1 f2 f3 f4 f5 f6 hne
  simp only [List.drop_succ_cons, List.drop_zero]
  have hbR3 := hS3.keep hbR (by simp)
  obtain ⟨d0, d1, d2, d3, d4, d5, d6⟩ := cells7 hbR3
  obtain ⟨f0, f1, f2, f3, f4, f5, f6⟩ := frees7 hbR3
  go_wp2
  refine shut0_normal ?_
  go_wp2
  have hW := heap_set7 (v0 := .bool dup) (v1 := .bool ret) (v2 := .int .u8 qos) (v3 := .int .u32 id) (v4 := .slice q1 n q3) (v5 := .string tp) (v6 := .string py) hbR3
  have hk7 : Ch [w.heap.size + 1] w3 (((((((w3.setCell ⟨w.heap.size + 1, 0, none⟩ (.bool dup)).setCell ⟨w.heap.size + 1, 1, none⟩ (.bool ret)).setCell ⟨w.heap.size + 1, 2, none⟩ (.int .u8 qos)).setCell ⟨w.heap.size + 1, 3, none⟩ (.int .u32 id)).setCell ⟨w.heap.size + 1, 4, none⟩ (.slice q1 n q3)).setCell ⟨w.heap.size + 1, 5, none⟩ (.string tp)).setCell ⟨w.heap.size + 1, 6, none⟩ (.string py)) := (Ch.refl _ w3).set7 (b := w.heap.size + 1) (v0 := .bool dup) (v1 := .bool ret) (v2 := .int .u8 qos) (v3 := .int .u32 id) (v4 := .slice q1 n q3) (v5 := .string tp) (v6 := .string py) (.inl (by simp))
  clear d0 d1 d2 d3 d4 d5 d6 f0 f1 f2 f3 f4 f5 f6
  generalize (((((((w3.setCell ⟨w.heap.size + 1, 0, none⟩ (.bool dup)).setCell ⟨w.heap.size + 1, 1, none⟩ (.bool ret)).setCell ⟨w.heap.size + 1, 2, none⟩ (.int .u8 qos)).setCell ⟨w.heap.size + 1, 3, none⟩ (.int .u32 id)).setCell ⟨w.heap.size + 1, 4, none⟩ (.slice q1 n q3)).setCell ⟨w.heap.size + 1, 5, none⟩ (.string tp)).setCell ⟨w.heap.size + 1, 6, none⟩ (.string py)) = w7 at hW hk7 ⊢
  obtain ⟨q0', q1', q2', q3', q4', q5', q6'⟩ := cells7 hW
  refine bodyPost_ret (v := .agg #[.bool dup, .bool ret, .int .u8 qos, .int .u32 id, .slice q1 n q3, .string tp, .string py]) (by simp [results, Tryd.f38, go_sem, q0', q1', q2', q3', q4', q5', q6']) rfl ?_
  refine ⟨_, rfl, .slice q1 n q3, rfl, ?_, (hc2.thenNil hS3).trans hk7 (fun x hx => .inr (by simp only [List.mem_singleton] at hx; omega))⟩
  show w7.ownsRow _ _ _ _ l.length _
  rw [← HN.out]
  refine row_base (row_keep hrow hk7 (fun b hb => ?_)) (show w.heap.size ≤ w2.drew.heap.size from by have : w2.drew.heap.size = w2.heap.size := rfl; omega)
  have h1 := (ownBlock_lt hrow hb).1
  have h2 : w2.drew.heap.size = w2.heap.size := rfl
  simp only [List.mem_singleton]
  omega

end Go.Proofs.YticfeikmdfijiaaDoor
