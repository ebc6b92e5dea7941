/- RetainLeft. -/
import Derived.Test.YticfeikmdfijiaaDoorRawake
namespace Go.Proofs.YticfeikmdfijiaaDoor
open Go Go.RowKit

set_option maxHeartbeats 4000000 in
theorem rleft_call (w : World) (m : MsgR) (pv : Value) (n now0 : Int) (h : ArgSl w pv m.props) (hn : NumsR m.props) (hn0 : 0 ≤ n) (hn1 : n ≤ 4294967295) (hi : IntAt w) :
    Gives Tryd.prog 5 #[m.v pv, .int .u32 n, .int .i64 now0] w fun r w' => r = .bool true ∧ Ch [] w w' := by
  obtain ⟨p1, p3, hpv⟩ := h.shape'
  have hfew := fun w' (hc : Ch [] w w') => fewM_call w' m pv (h.keep hc) hn
  obtain ⟨fr, at_, qos, ret, props, topic, payload⟩ := m
  simp only at h hn hpv
  generalize hp2 : props.length = p2 at hpv
  subst hpv
  simp only [MsgR.v] at hfew ⊢
  generalize fewM ⟨fr, at_, qos, ret, props, topic, payload⟩ = mf at hfew
  obtain ⟨ffr, fat, fqos, fret, fprops, ftopic, fpay⟩ := mf
  have hc0 : Ch [] w (w.alloc (.cells #[.string fr, .int .i64 at_, .int .u8 qos, .bool ret, .slice p1 p2 p3, .string topic, .string payload] 58)) := (Ch.refl [] w).alloc _
  have hb0 := heap_new w (.cells #[.string fr, .int .i64 at_, .int .u8 qos, .bool ret, .slice p1 p2 p3, .string topic, .string payload] 58)
  have hf0 := hfew _ hc0
  clear hfew hp2 h hn
  go_enter Tryd.func5, Tryd.ntmps5
  go_wp2_with fail
  refine Calls.mono hf0 ?_
  rintro e w2 ⟨v, rfl, pv', rfl, hfr, hM2, hk2⟩
  have ha0 := hM2.at0
  have ha1 := hM2.at1
  simp only at ha0 ha1
  obtain ⟨r1, r3, hpv⟩ := hM2.sl.shape'
  simp only at hpv
  generalize hr2 : fprops.length = r2 at hpv
  subst hpv
  clear hr2 hf0 hfr hM2
  have hb2 := hk2.keep hb0 (by simp)
  have hc2 : Ch [] w w2 := hc0.thenNil hk2
  have c0 : w2.cell? ⟨w.heap.size, 0, none⟩ = some (.string fr) := cell_of_heap hb2 0
  have cf0 : w2.frozen? ⟨w.heap.size, 0, none⟩ = false := free_of_heap hb2 0
  have c1 : w2.cell? ⟨w.heap.size, 1, none⟩ = some (.int .i64 at_) := cell_of_heap hb2 1
  have cf1 : w2.frozen? ⟨w.heap.size, 1, none⟩ = false := free_of_heap hb2 1
  have c2 : w2.cell? ⟨w.heap.size, 2, none⟩ = some (.int .u8 qos) := cell_of_heap hb2 2
  have cf2 : w2.frozen? ⟨w.heap.size, 2, none⟩ = false := free_of_heap hb2 2
  have c3 : w2.cell? ⟨w.heap.size, 3, none⟩ = some (.bool ret) := cell_of_heap hb2 3
  have cf3 : w2.frozen? ⟨w.heap.size, 3, none⟩ = false := free_of_heap hb2 3
  have c4 : w2.cell? ⟨w.heap.size, 4, none⟩ = some (.slice p1 p2 p3) := cell_of_heap hb2 4
  have cf4 : w2.frozen? ⟨w.heap.size, 4, none⟩ = false := free_of_heap hb2 4
  have c5 : w2.cell? ⟨w.heap.size, 5, none⟩ = some (.string topic) := cell_of_heap hb2 5
  have cf5 : w2.frozen? ⟨w.heap.size, 5, none⟩ = false := free_of_heap hb2 5
  have c6 : w2.cell? ⟨w.heap.size, 6, none⟩ = some (.string payload) := cell_of_heap hb2 6
  have cf6 : w2.frozen? ⟨w.heap.size, 6, none⟩ = false := free_of_heap hb2 6
  go_wp2_with fail
  have hb4 := (heap_setCell_at (i := 6) (heap_setCell_at (i := 5) (heap_setCell_at (i := 4) (heap_setCell_at (i := 3) (heap_setCell_at (i := 2) (heap_setCell_at (i := 1) (heap_setCell_at (i := 0) hb2 (.string ffr)) (.int .i64 fat)) (.int .u8 fqos)) (.bool fret)) (.slice r1 r2 r3)) (.string ftopic)) (.string fpay))
  simp only [List.setIfInBounds_toArray, List.set_cons_zero, List.set_cons_succ] at hb4
  have hc4 := (((((((hc2.setCell ⟨w.heap.size, 0, none⟩ (.string ffr) (.inr (by simp))).setCell ⟨w.heap.size, 1, none⟩ (.int .i64 fat) (.inr (by simp))).setCell ⟨w.heap.size, 2, none⟩ (.int .u8 fqos) (.inr (by simp))).setCell ⟨w.heap.size, 3, none⟩ (.bool fret) (.inr (by simp))).setCell ⟨w.heap.size, 4, none⟩ (.slice r1 r2 r3) (.inr (by simp))).setCell ⟨w.heap.size, 5, none⟩ (.string ftopic) (.inr (by simp))).setCell ⟨w.heap.size, 6, none⟩ (.string fpay) (.inr (by simp)))
  generalize (((((((w2.setCell ⟨w.heap.size, 0, none⟩ (.string ffr)).setCell ⟨w.heap.size, 1, none⟩ (.int .i64 fat)).setCell ⟨w.heap.size, 2, none⟩ (.int .u8 fqos)).setCell ⟨w.heap.size, 3, none⟩ (.bool fret)).setCell ⟨w.heap.size, 4, none⟩ (.slice r1 r2 r3)).setCell ⟨w.heap.size, 5, none⟩ (.string ftopic)).setCell ⟨w.heap.size, 6, none⟩ (.string fpay)) = w4 at hb4 hc4 ⊢
  clear c0 cf0 c1 cf1 c2 cf2 c3 cf3 c4 cf4 c5 cf5 c6 cf6
  refine Calls.mono (tick_call _ _) ?_
  rintro e w4 ⟨v, rfl, rfl, rfl⟩
  obtain ⟨t0, t1⟩ := tickS_range now0
  generalize tickS now0 = now at t0 t1
  have hb5 := heap_old hb4 (.cells #[.int .i64 2, .int .u32 n, .string ⟨#[]⟩, .string ⟨#[]⟩] 62)
  have hc5 := hc4.alloc (.cells #[.int .i64 2, .int .u32 n, .string ⟨#[]⟩, .string ⟨#[]⟩] 62)
  have hp5 := sl_new w4 [.int .i64 2, .int .u32 n, .string ⟨#[]⟩, .string ⟨#[]⟩] 62 4 1 rfl (le_maxLen (by omega))
  have c0 : w4.cell? ⟨w.heap.size, 0, none⟩ = some (.string ffr) := cell_of_heap hb4 0
  have c1 : w4.cell? ⟨w.heap.size, 1, none⟩ = some (.int .i64 fat) := cell_of_heap hb4 1
  have c2 : w4.cell? ⟨w.heap.size, 2, none⟩ = some (.int .u8 fqos) := cell_of_heap hb4 2
  have c3 : w4.cell? ⟨w.heap.size, 3, none⟩ = some (.bool fret) := cell_of_heap hb4 3
  have c4 : w4.cell? ⟨w.heap.size, 4, none⟩ = some (.slice r1 r2 r3) := cell_of_heap hb4 4
  have c5 : w4.cell? ⟨w.heap.size, 5, none⟩ = some (.string ftopic) := cell_of_heap hb4 5
  have c6 : w4.cell? ⟨w.heap.size, 6, none⟩ = some (.string fpay) := cell_of_heap hb4 6
  have d0 : (w4.alloc (.cells #[.int .i64 2, .int .u32 n, .string ⟨#[]⟩, .string ⟨#[]⟩] 62)).cell? ⟨w.heap.size, 0, none⟩ = some (.string ffr) := cell_of_heap hb5 0
  have df0 : (w4.alloc (.cells #[.int .i64 2, .int .u32 n, .string ⟨#[]⟩, .string ⟨#[]⟩] 62)).frozen? ⟨w.heap.size, 0, none⟩ = false := free_of_heap hb5 0
  have d1 : (w4.alloc (.cells #[.int .i64 2, .int .u32 n, .string ⟨#[]⟩, .string ⟨#[]⟩] 62)).cell? ⟨w.heap.size, 1, none⟩ = some (.int .i64 fat) := cell_of_heap hb5 1
  have df1 : (w4.alloc (.cells #[.int .i64 2, .int .u32 n, .string ⟨#[]⟩, .string ⟨#[]⟩] 62)).frozen? ⟨w.heap.size, 1, none⟩ = false := free_of_heap hb5 1
  have d2 : (w4.alloc (.cells #[.int .i64 2, .int .u32 n, .string ⟨#[]⟩, .string ⟨#[]⟩] 62)).cell? ⟨w.heap.size, 2, none⟩ = some (.int .u8 fqos) := cell_of_heap hb5 2
  have df2 : (w4.alloc (.cells #[.int .i64 2, .int .u32 n, .string ⟨#[]⟩, .string ⟨#[]⟩] 62)).frozen? ⟨w.heap.size, 2, none⟩ = false := free_of_heap hb5 2
  have d3 : (w4.alloc (.cells #[.int .i64 2, .int .u32 n, .string ⟨#[]⟩, .string ⟨#[]⟩] 62)).cell? ⟨w.heap.size, 3, none⟩ = some (.bool fret) := cell_of_heap hb5 3
  have df3 : (w4.alloc (.cells #[.int .i64 2, .int .u32 n, .string ⟨#[]⟩, .string ⟨#[]⟩] 62)).frozen? ⟨w.heap.size, 3, none⟩ = false := free_of_heap hb5 3
  have d4 : (w4.alloc (.cells #[.int .i64 2, .int .u32 n, .string ⟨#[]⟩, .string ⟨#[]⟩] 62)).cell? ⟨w.heap.size, 4, none⟩ = some (.slice r1 r2 r3) := cell_of_heap hb5 4
  have df4 : (w4.alloc (.cells #[.int .i64 2, .int .u32 n, .string ⟨#[]⟩, .string ⟨#[]⟩] 62)).frozen? ⟨w.heap.size, 4, none⟩ = false := free_of_heap hb5 4
  have d5 : (w4.alloc (.cells #[.int .i64 2, .int .u32 n, .string ⟨#[]⟩, .string ⟨#[]⟩] 62)).cell? ⟨w.heap.size, 5, none⟩ = some (.string ftopic) := cell_of_heap hb5 5
  have df5 : (w4.alloc (.cells #[.int .i64 2, .int .u32 n, .string ⟨#[]⟩, .string ⟨#[]⟩] 62)).frozen? ⟨w.heap.size, 5, none⟩ = false := free_of_heap hb5 5
  have d6 : (w4.alloc (.cells #[.int .i64 2, .int .u32 n, .string ⟨#[]⟩, .string ⟨#[]⟩] 62)).cell? ⟨w.heap.size, 6, none⟩ = some (.string fpay) := cell_of_heap hb5 6
  have df6 : (w4.alloc (.cells #[.int .i64 2, .int .u32 n, .string ⟨#[]⟩, .string ⟨#[]⟩] 62)).frozen? ⟨w.heap.size, 6, none⟩ = false := free_of_heap hb5 6
  have hlt4 := lt_of_heap hb4
  have hb6 := heap_old (heap_setCell_at (i := 4) hb4 (.slice (some ⟨w4.heap.size, 0, none⟩) 1 1)) (.cells #[.int .i64 2, .int .u32 n, .string ⟨#[]⟩, .string ⟨#[]⟩] 62)
  simp only [List.setIfInBounds_toArray, List.set_cons_zero, List.set_cons_succ] at hb6
  have hc6 := (hc4.setCell ⟨w.heap.size, 4, none⟩ (.slice (some ⟨w4.heap.size, 0, none⟩) 1 1) (.inr (by simp))).alloc (.cells #[.int .i64 2, .int .u32 n, .string ⟨#[]⟩, .string ⟨#[]⟩] 62)
  have hp6 := sl_new (w4.setCell ⟨w.heap.size, 4, none⟩ (.slice (some ⟨w4.heap.size, 0, none⟩) 1 1)) [.int .i64 2, .int .u32 n, .string ⟨#[]⟩, .string ⟨#[]⟩] 62 4 1 rfl (le_maxLen (by omega))
  have hsz : (w4.setCell ⟨w.heap.size, 4, none⟩ (.slice (some ⟨w4.heap.size, 0, none⟩) 1 1)).heap.size = w4.heap.size := by simp
  rw [hsz] at hp6
  replace hp6 : Sl ((w4.setCell ⟨w.heap.size, 4, none⟩ (.slice (some ⟨w4.heap.size, 0, none⟩) 1 1)).alloc (.cells #[.int .i64 2, .int .u32 n, .string ⟨#[]⟩, .string ⟨#[]⟩] 62)) (.slice (some ⟨w4.heap.size, 0, none⟩) 1 1) 4 1 [.int .i64 2, .int .u32 n, .string ⟨#[]⟩, .string ⟨#[]⟩] := hp6
  clear hp5 hsz
  set_option maxRecDepth 6000 in
  go_wp2_with fail
  generalize ((w4.setCell ⟨w.heap.size, 4, none⟩ (.slice (some ⟨w4.heap.size, 0, none⟩) 1 1)).alloc (.cells #[.int .i64 2, .int .u32 n, .string ⟨#[]⟩, .string ⟨#[]⟩] 62)) = w6 at hb6 hc6 hp6 ⊢
  clear c0 c1 c2 c3 c4 c5 c6 d0 d1 d2 d3 d4 d5 d6 df0 df1 df2 df3 df4 df5 df6 hb4 hc4 hb5 hc5
  have hM6 : MsgAt w6 ⟨ffr, fat, fqos, fret, [⟨2, n, ⟨#[]⟩, ⟨#[]⟩⟩], ftopic, fpay⟩ (.slice (some ⟨w4.heap.size, 0, none⟩) 1 1) := ⟨hp6, by simp, ha0, ha1, by simp; omega⟩
  refine Calls.mono (left_call w6 ⟨ffr, fat, fqos, fret, [⟨2, n, ⟨#[]⟩, ⟨#[]⟩⟩], ftopic, fpay⟩ _ now hM6 t0 (by omega)) ?_
  rintro e w7 ⟨v, rfl, hv, hk7⟩
  have hv1 : v = .tuple #[.int .i64 (fat + n - now), .bool true] := hv
  subst hv1
  have hb7 := hk7.keep hb6 (by simp)
  have g0 : w7.cell? ⟨w.heap.size, 0, none⟩ = some (.string ffr) := cell_of_heap hb7 0
  have g1 : w7.cell? ⟨w.heap.size, 1, none⟩ = some (.int .i64 fat) := cell_of_heap hb7 1
  have g2 : w7.cell? ⟨w.heap.size, 2, none⟩ = some (.int .u8 fqos) := cell_of_heap hb7 2
  have g3 : w7.cell? ⟨w.heap.size, 3, none⟩ = some (.bool fret) := cell_of_heap hb7 3
  have g4 : w7.cell? ⟨w.heap.size, 4, none⟩ = some (.slice (some ⟨w4.heap.size, 0, none⟩) 1 1) := cell_of_heap hb7 4
  have g5 : w7.cell? ⟨w.heap.size, 5, none⟩ = some (.string ftopic) := cell_of_heap hb7 5
  have g6 : w7.cell? ⟨w.heap.size, 6, none⟩ = some (.string fpay) := cell_of_heap hb7 6
  clear hv
  have x1 : IntKind.i64.wrap (now + 1) = now + 1 := by rw [IntKind.wrap_i64]; omega
  go_wp2_with fail
  refine Calls.mono (left_call w7 ⟨ffr, fat, fqos, fret, [⟨2, n, ⟨#[]⟩, ⟨#[]⟩⟩], ftopic, fpay⟩ _ (now + 1) (hM6.keep hk7) (by omega) (by omega)) ?_
  rintro e w8 ⟨v, rfl, hv, hk8⟩
  have hv1 : v = .tuple #[.int .i64 (fat + n - (now + 1)), .bool true] := hv
  subst hv1
  have hb8 := hk8.keep hb7 (by simp)
  clear hv g0 g1 g2 g3 g4 g5 g6
  have c0 : w8.cell? ⟨w.heap.size, 0, none⟩ = some (.string ffr) := cell_of_heap hb8 0
  have cf0 : w8.frozen? ⟨w.heap.size, 0, none⟩ = false := free_of_heap hb8 0
  have c1 : w8.cell? ⟨w.heap.size, 1, none⟩ = some (.int .i64 fat) := cell_of_heap hb8 1
  have cf1 : w8.frozen? ⟨w.heap.size, 1, none⟩ = false := free_of_heap hb8 1
  have c2 : w8.cell? ⟨w.heap.size, 2, none⟩ = some (.int .u8 fqos) := cell_of_heap hb8 2
  have cf2 : w8.frozen? ⟨w.heap.size, 2, none⟩ = false := free_of_heap hb8 2
  have c3 : w8.cell? ⟨w.heap.size, 3, none⟩ = some (.bool fret) := cell_of_heap hb8 3
  have cf3 : w8.frozen? ⟨w.heap.size, 3, none⟩ = false := free_of_heap hb8 3
  have c4 : w8.cell? ⟨w.heap.size, 4, none⟩ = some (.slice (some ⟨w4.heap.size, 0, none⟩) 1 1) := cell_of_heap hb8 4
  have cf4 : w8.frozen? ⟨w.heap.size, 4, none⟩ = false := free_of_heap hb8 4
  have c5 : w8.cell? ⟨w.heap.size, 5, none⟩ = some (.string ftopic) := cell_of_heap hb8 5
  have cf5 : w8.frozen? ⟨w.heap.size, 5, none⟩ = false := free_of_heap hb8 5
  have c6 : w8.cell? ⟨w.heap.size, 6, none⟩ = some (.string fpay) := cell_of_heap hb8 6
  have cf6 : w8.frozen? ⟨w.heap.size, 6, none⟩ = false := free_of_heap hb8 6
  have hc8 := (hc6.thenNil hk7).thenNil hk8
  have hb9 := heap_setCell_at (i := 4) hb8 (.slice none 0 0)
  simp only [List.setIfInBounds_toArray, List.set_cons_zero, List.set_cons_succ] at hb9
  have hc9 := hc8.setCell ⟨w.heap.size, 4, none⟩ (.slice none 0 0) (.inr (by simp))
  go_wp2_with fail
  generalize w8.setCell ⟨w.heap.size, 4, none⟩ (.slice none 0 0) = w9 at hb9 hc9 ⊢
  clear c0 cf0 c1 cf1 c2 cf2 c3 cf3 c4 cf4 c5 cf5 c6 cf6
  refine Calls.mono (rawake_call w9 (hi.keep hc9 (by simp))) ?_
  rintro e w10 ⟨v, rfl, rfl, hk10⟩
  have hb10 := hk10.keep hb9 (by simp)
  have x2 : IntKind.i64.wrap (fat + n - (now + 1) + 1) = fat + n - now := by rw [IntKind.wrap_i64]; omega
  have x3 : IntKind.i64.wrap (fat + n) = fat + n := by rw [IntKind.wrap_i64]; omega
  have x4 : IntKind.i64.wrap (fat + n - now) = fat + n - now := by rw [IntKind.wrap_i64]; omega
  have c0 : w10.cell? ⟨w.heap.size, 0, none⟩ = some (.string ffr) := cell_of_heap hb10 0
  have c1 : w10.cell? ⟨w.heap.size, 1, none⟩ = some (.int .i64 fat) := cell_of_heap hb10 1
  have c2 : w10.cell? ⟨w.heap.size, 2, none⟩ = some (.int .u8 fqos) := cell_of_heap hb10 2
  have c3 : w10.cell? ⟨w.heap.size, 3, none⟩ = some (.bool fret) := cell_of_heap hb10 3
  have c4 : w10.cell? ⟨w.heap.size, 4, none⟩ = some (.slice none 0 0) := cell_of_heap hb10 4
  have c5 : w10.cell? ⟨w.heap.size, 5, none⟩ = some (.string ftopic) := cell_of_heap hb10 5
  have c6 : w10.cell? ⟨w.heap.size, 6, none⟩ = some (.string fpay) := cell_of_heap hb10 6
  go_wp2_with fail
  have hM10 : MsgAt w10 ⟨ffr, fat, fqos, fret, [], ftopic, fpay⟩ (.slice none 0 0) := ⟨Sl.nil _ _, by simp, ha0, ha1, by simp⟩
  refine Calls.mono (gone_call w10 ⟨ffr, fat, fqos, fret, [], ftopic, fpay⟩ _ now hM10 t0 (by omega)) ?_
  rintro e w11 ⟨v, rfl, hv, hk11⟩
  have hv1 : v = .bool false := hv
  subst hv1
  have hb11 := hk11.keep hb10 (by simp)
  have g1 : w11.cell? ⟨w.heap.size, 1, none⟩ = some (.int .i64 fat) := cell_of_heap hb11 1
  clear hv c0 c1 c2 c3 c4 c5 c6
  go_wp2_with fail
  go_ret
  exact ⟨_, rfl, rfl, (hc9.thenNil hk10).thenNil hk11⟩

end Go.Proofs.YticfeikmdfijiaaDoor
