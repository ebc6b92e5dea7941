/- RetainMessages. -/
import Derived.Test.YticfeikmdfijiaaDoorRawake
import Derived.Test.YticfeikmdfijiaaDoorFew07
import Derived.Test.YticfeikmdfijiaaDoorRpub
namespace Go.Proofs.YticfeikmdfijiaaDoor
open Go Go.RowKit

theorem rowArg {w : World} {base e : Nat} {v : Value} {l : List PropR} (h : w.ownsRow base e 4 v l.length (l.flatMap PropR.cells)) : ArgSl w v l := (Sl.ofRow h).arg

set_option maxHeartbeats 8000000 in
theorem rmsg_call (w : World) (p : PubR) (pp : Value) (m : MsgR) (pv : Value) (name0 : ByteArray) (now0 : Int) (hp : ArgSl w pp p.props) (h : ArgSl w pv m.props) (hn : NumsR m.props) (hi : IntAt w) :
    Gives Tryd.prog 9 #[p.v pp, m.v pv, .string name0, .int .i64 now0] w fun r w' => r = .bool true ∧ Ch [] w w' := by
  have hfp : ∀ w', Ch [] w w' → _ := fun w' (hc : Ch [] w w') => few07_call w' p pp (hp.keep hc)
  have hfew : ∀ w', Ch [] w w' → _ := fun w' (hc : Ch [] w w') => fewM_call w' m pv (h.keep hc) hn
  obtain ⟨a1, a3, hpp⟩ := hp.shape'
  obtain ⟨p1, p3, hpv⟩ := h.shape'
  have hpl : (fewPub p).props.length ≤ 8 := fewPs_length _
  obtain ⟨dup, pret, pqos, pid, pprops, ptp, ppy⟩ := p
  obtain ⟨fr, at_, qos, ret, props, topic, payload⟩ := m
  simp only at hpv hpp
  generalize hp0 : pprops.length = n0 at hpp
  generalize hp2 : props.length = p2 at hpv
  subst hpp
  subst hpv
  simp only [MsgR.v, PubR.v, fewPub] at hfew hfp hpl ⊢
  generalize fewM ⟨fr, at_, qos, ret, props, topic, payload⟩ = mf at hfew
  obtain ⟨ffr, fat, fqos, fret, lm, ftopic, fpay⟩ := mf
  generalize fewPs pprops = l2 at hfp hpl
  generalize cutS ptp 30 = tp2 at hfp
  generalize cutS ppy 50 = py2 at hfp
  have HF := Lib.hid hfew
  have HP := Lib.hid hfp
  clear hfew hfp hp2 hp0 h hn hp
  have hc1 : Ch [] w ((w.alloc (.cells #[.bool dup, .bool pret, .int .u8 pqos, .int .u32 pid, .slice a1 n0 a3, .string ptp, .string ppy] 29)).alloc (.cells #[.string fr, .int .i64 at_, .int .u8 qos, .bool ret, .slice p1 p2 p3, .string topic, .string payload] 58)) := ((Ch.refl [] w).alloc _).alloc _
  have hbp := heap_old (heap_new w (.cells #[.bool dup, .bool pret, .int .u8 pqos, .int .u32 pid, .slice a1 n0 a3, .string ptp, .string ppy] 29)) (.cells #[.string fr, .int .i64 at_, .int .u8 qos, .bool ret, .slice p1 p2 p3, .string topic, .string payload] 58)
  have hbm := heap_new (w.alloc (.cells #[.bool dup, .bool pret, .int .u8 pqos, .int .u32 pid, .slice a1 n0 a3, .string ptp, .string ppy] 29)) (.cells #[.string fr, .int .i64 at_, .int .u8 qos, .bool ret, .slice p1 p2 p3, .string topic, .string payload] 58)
  have e1 : (w.alloc (.cells #[.bool dup, .bool pret, .int .u8 pqos, .int .u32 pid, .slice a1 n0 a3, .string ptp, .string ppy] 29)).heap.size = w.heap.size + 1 := by simp
  rw [e1] at hbm
  go_enter Tryd.func9, Tryd.ntmps9
  go_upto_region 1 with fail
  clear e1
  generalize ((w.alloc (.cells #[.bool dup, .bool pret, .int .u8 pqos, .int .u32 pid, .slice a1 n0 a3, .string ptp, .string ppy] 29)).alloc (.cells #[.string fr, .int .i64 at_, .int .u8 qos, .bool ret, .slice p1 p2 p3, .string topic, .string payload] 58)) = w1 at hc1 hbp hbm ⊢
  refine wp_region_flow (Ch [] w1) 4 [(true, 0), (true, 2), (false, 1), (false, 3)] (by kernel_rfl) (by kernel_rfl) (Ch.refl [] w1).drew ?_
  intro hS hne
  have f0 := wd_cell hbp 0 rfl
  have g0 := wd_cell hbm 0 rfl
  have f1 := wd_cell hbp 1 rfl
  have g1 := wd_cell hbm 1 rfl
  have f2 := wd_cell hbp 2 rfl
  have g2 := wd_cell hbm 2 rfl
  have f3 := wd_cell hbp 3 rfl
  have g3 := wd_cell hbm 3 rfl
  have f4 := wd_cell hbp 4 rfl
  have g4 := wd_cell hbm 4 rfl
  have f5 := wd_cell hbp 5 rfl
  have g5 := wd_cell hbm 5 rfl
  have f6 := wd_cell hbp 6 rfl
  have g6 := wd_cell hbm 6 rfl
  repeat (refine flow_q (by rfl) ?_; go_big_quiet_step (fail); refine flow_n ?_)
  refine flow_l (by rfl) ?_
  go_wp2_with fail
  refine Calls.mono (HP.out w1.drew hc1.drew) ?_
  rintro e w2 ⟨v, rfl, pv2, rfl, hrow2, hk2⟩
  obtain ⟨a2, c2, rfl⟩ := row_shape hrow2
  obtain ⟨n2, hn2⟩ : ∃ n2, n2 = l2.length := ⟨_, rfl⟩
  rw [← hn2] at hrow2 ⊢
  have HN2 : Hid (n2 = l2.length) := hn2
  clear hn2
  go_wp2
  refine ⟨hS.thenNil hk2, ?_⟩
  refine flow_l (by rfl) ?_
  go_wp2_with fail
  refine Calls.mono (HF.out w2 (hc1.drew.thenNil hk2)) ?_
  rintro e w3 ⟨v, rfl, pv', rfl, hfr, hM3, hk3⟩
  obtain ⟨r1, r3, hpv⟩ := hM3.sl.shape'
  simp only at hpv
  obtain ⟨nm, hnm⟩ : ∃ nm, nm = lm.length := ⟨_, rfl⟩
  rw [← hnm] at hpv
  subst hpv
  have HNM : Hid (nm = lm.length) := hnm
  clear hnm
  go_wp2
  refine ⟨(hS.thenNil hk2).thenNil hk3, ?_⟩
  refine flow_t ?_
  clear f0 f1 f2 f3 f4 f5 f6 g0 g1 g2 g3 g4 g5 g6 hne
  simp only [List.drop_succ_cons, List.drop_zero]
  have hS3 := (hS.thenNil hk2).thenNil hk3
  have hbp3 := hS3.keep hbp (by simp)
  have hbm3 := hS3.keep hbm (by simp)
  have hc3 := hc1.thenNil hS3
  have hplt := lt_of_heap hbp
  have hmlt := lt_of_heap hbm
  have hplt3 := lt_of_heap hbp3
  have hmlt3 := lt_of_heap hbm3
  obtain ⟨c0, c1, c2', c3, c4, c5, c6⟩ := cells7 hbp3
  obtain ⟨d0, d1, d2, d3, d4, d5, d6⟩ := cells7 hbm3
  obtain ⟨f0, f1, f2, f3, f4, f5, f6⟩ := frees7 hbp3
  obtain ⟨g0, g1, g2, g3, g4, g5, g6⟩ := frees7 hbm3
  go_wp2
  refine shut0_normal ?_
  clear c0 c1 c2' c3 c4 c5 c6 d0 d1 d2 d3 d4 d5 d6 f0 f1 f2 f3 f4 f5 f6 g0 g1 g2 g3 g4 g5 g6
  have hbp4 := heap_set7_ne (b := w.heap.size + 1) (v0 := .string ffr) (v1 := .int .i64 fat) (v2 := .int .u8 fqos) (v3 := .bool fret) (v4 := .slice r1 nm r3) (v5 := .string ftopic) (v6 := .string fpay) (heap_set7 (v0 := .bool dup) (v1 := .bool pret) (v2 := .int .u8 pqos) (v3 := .int .u32 pid) (v4 := .slice a2 n2 c2) (v5 := .string tp2) (v6 := .string py2) hbp3) (by omega)
  have hbm4 := heap_set7 (v0 := .string ffr) (v1 := .int .i64 fat) (v2 := .int .u8 fqos) (v3 := .bool fret) (v4 := .slice r1 nm r3) (v5 := .string ftopic) (v6 := .string fpay) (heap_set7_ne (b := w.heap.size) (v0 := .bool dup) (v1 := .bool pret) (v2 := .int .u8 pqos) (v3 := .int .u32 pid) (v4 := .slice a2 n2 c2) (v5 := .string tp2) (v6 := .string py2) hbm3 (by omega))
  have hk4 : Ch [w.heap.size, w.heap.size + 1] w3 ((((((((((((((w3.setCell ⟨w.heap.size, 0, none⟩ (.bool dup)).setCell ⟨w.heap.size, 1, none⟩ (.bool pret)).setCell ⟨w.heap.size, 2, none⟩ (.int .u8 pqos)).setCell ⟨w.heap.size, 3, none⟩ (.int .u32 pid)).setCell ⟨w.heap.size, 4, none⟩ (.slice a2 n2 c2)).setCell ⟨w.heap.size, 5, none⟩ (.string tp2)).setCell ⟨w.heap.size, 6, none⟩ (.string py2)).setCell ⟨w.heap.size + 1, 0, none⟩ (.string ffr)).setCell ⟨w.heap.size + 1, 1, none⟩ (.int .i64 fat)).setCell ⟨w.heap.size + 1, 2, none⟩ (.int .u8 fqos)).setCell ⟨w.heap.size + 1, 3, none⟩ (.bool fret)).setCell ⟨w.heap.size + 1, 4, none⟩ (.slice r1 nm r3)).setCell ⟨w.heap.size + 1, 5, none⟩ (.string ftopic)).setCell ⟨w.heap.size + 1, 6, none⟩ (.string fpay)) := ((Ch.refl _ w3).set7 (b := w.heap.size) (v0 := .bool dup) (v1 := .bool pret) (v2 := .int .u8 pqos) (v3 := .int .u32 pid) (v4 := .slice a2 n2 c2) (v5 := .string tp2) (v6 := .string py2) (.inl (by simp))).set7 (b := w.heap.size + 1) (v0 := .string ffr) (v1 := .int .i64 fat) (v2 := .int .u8 fqos) (v3 := .bool fret) (v4 := .slice r1 nm r3) (v5 := .string ftopic) (v6 := .string fpay) (.inl (by simp))
  generalize ((((((((((((((w3.setCell ⟨w.heap.size, 0, none⟩ (.bool dup)).setCell ⟨w.heap.size, 1, none⟩ (.bool pret)).setCell ⟨w.heap.size, 2, none⟩ (.int .u8 pqos)).setCell ⟨w.heap.size, 3, none⟩ (.int .u32 pid)).setCell ⟨w.heap.size, 4, none⟩ (.slice a2 n2 c2)).setCell ⟨w.heap.size, 5, none⟩ (.string tp2)).setCell ⟨w.heap.size, 6, none⟩ (.string py2)).setCell ⟨w.heap.size + 1, 0, none⟩ (.string ffr)).setCell ⟨w.heap.size + 1, 1, none⟩ (.int .i64 fat)).setCell ⟨w.heap.size + 1, 2, none⟩ (.int .u8 fqos)).setCell ⟨w.heap.size + 1, 3, none⟩ (.bool fret)).setCell ⟨w.heap.size + 1, 4, none⟩ (.slice r1 nm r3)).setCell ⟨w.heap.size + 1, 5, none⟩ (.string ftopic)).setCell ⟨w.heap.size + 1, 6, none⟩ (.string fpay)) = w4 at hbp4 hbm4 hk4 ⊢
  have hsz2 : w1.heap.size ≤ w2.heap.size := Nat.le_trans hS.size hk2.size
  have hc4 : Ch [] w w4 := hc3.trans hk4 (fun x hx => .inr (by simp only [List.mem_cons, List.not_mem_nil, or_false] at hx; omega))
  have hM4 : MsgAt w4 ⟨ffr, fat, fqos, fret, lm, ftopic, fpay⟩ (.slice r1 nm r3) := by
    refine ⟨hM3.sl.keep hk4 (fun b hb => ?_), hM3.few, hM3.at0, hM3.at1, hM3.nums⟩
    rcases hfr with h1 | h1
    · refine .inl ?_
      have h2 := (ownBlock_lt h1 hb).1
      simp only [List.mem_cons, List.not_mem_nil, or_false]
      omega
    · exact .inr (by rw [h1])
  have hR4 : ArgSl w4 (.slice a2 n2 c2) l2 := by
    have h1 : w4.ownsRow w1.drew.heap.size 62 4 (.slice a2 n2 c2) n2 (l2.flatMap PropR.cells) := row_keep (row_keep hrow2 hk3 (by simp)) hk4 (fun b hb => by
      have h2 := (ownBlock_lt hrow2 hb).1
      have h3 : w1.drew.heap.size = w1.heap.size := rfl
      simp only [List.mem_cons, List.not_mem_nil, or_false]
      omega)
    rw [HN2.out] at h1 ⊢
    exact rowArg h1
  have hm8 : lm.length ≤ 100000 := hM3.few
  have hA4 : ArgSl w4 (.slice r1 nm r3) lm := hM4.sl.arg
  have ha0 := hM4.at0
  have ha1 := hM4.at1
  have HNU : Hid (NumsR lm) := hM4.nums
  simp only at ha0 ha1
  have hi4 := hi.keep hc4 (by simp)
  clear hfr hM3 hrow2 hk4
  go_wp2_with fail
  refine Calls.mono (cut_call _ name0 30 (by omega)) ?_
  rintro e w4 ⟨v, rfl, rfl, rfl⟩
  generalize cutS name0 30 = name
  go_wp2_with fail
  refine Calls.mono (tick_call _ _) ?_
  rintro e w4 ⟨v, rfl, rfl, rfl⟩
  obtain ⟨t0, t1⟩ := tickS_range now0
  generalize tickS now0 = now at t0 t1 ⊢
  obtain ⟨c0, c1, c2', c3, c4, c5', c6⟩ := cells7 hbp4
  obtain ⟨d0, d1, d2, d3, d4, d5, d6⟩ := cells7 hbm4
  go_wp2_with fail
  refine Calls.mono (of_call w4 ⟨dup, pret, pqos, pid, l2, tp2, py2⟩ (.slice a2 n2 c2) name ffr now hR4 (by show l2.length ≤ 100000; omega)) ?_
  rintro e w5 ⟨v, rfl, pvx, rfl, hrow5, hk5⟩
  simp only [ofS, MsgR.v]
  have hlx : (l2.filter passP).length ≤ 100000 := by
    have := List.length_filter_le passP l2
    omega
  simp only at hrow5
  generalize hLx : l2.filter passP = lx at hrow5 hlx ⊢
  have HLX : Hid (l2.filter passP = lx) := hLx
  obtain ⟨a5, c5, rfl⟩ := row_shape hrow5
  obtain ⟨nx, hnx⟩ : ∃ nx, nx = lx.length := ⟨_, rfl⟩
  rw [← hnx] at hrow5 ⊢
  have HNX : Hid (nx = lx.length) := hnx
  clear hnx hLx c0 c1 c2' c3 c4 c5' c6 d0 d1 d2 d3 d4 d5 d6
  go_upto_region 5 with fail
  have hbx6 := heap_new w5 (.cells #[.string ffr, .int .i64 now, .int .u8 pqos, .bool pret, .slice a5 nx c5, .string name, .string py2] 58)
  have hk6 : Ch [] w4 (w5.alloc (.cells #[.string ffr, .int .i64 now, .int .u8 pqos, .bool pret, .slice a5 nx c5, .string name, .string py2] 58)) := hk5.alloc _
  have hX6 : ArgSl (w5.alloc (.cells #[.string ffr, .int .i64 now, .int .u8 pqos, .bool pret, .slice a5 nx c5, .string name, .string py2] 58)) (.slice a5 nx c5) lx := by
    have h1 := row_keep hrow5 ((Ch.refl [] w5).alloc (.cells #[.string ffr, .int .i64 now, .int .u8 pqos, .bool pret, .slice a5 nx c5, .string name, .string py2] 58)) (by simp)
    rw [HNX.out] at h1 ⊢
    exact rowArg h1
  clear hrow5
  generalize w5.alloc (.cells #[.string ffr, .int .i64 now, .int .u8 pqos, .bool pret, .slice a5 nx c5, .string name, .string py2] 58) = w6 at hbx6 hk6 hX6 ⊢
  generalize w5.heap.size = bx at hbx6 ⊢
  have hbp6 := hk6.keep hbp4 (by simp)
  have hbm6 := hk6.keep hbm4 (by simp)
  obtain ⟨d0, d1, d2, d3, d4, d5, d6⟩ := cells7 hbm6
  go_wp2_with fail
  refine Calls.mono (left_call w6 ⟨ffr, fat, fqos, fret, lm, ftopic, fpay⟩ _ now (hM4.keep hk6) t0 (by omega)) ?_
  rintro e w7 ⟨v, rfl, hv, hk7⟩
  have hrl : ∀ w', Ch [] w4 w' → ∀ q, ArgSl w' q lm → _ := fun w' (hc : Ch [] w4 w') q (hq : ArgSl w' q lm) => rleft_call' w' ⟨ffr, fat, fqos, fret, lm, ftopic, fpay⟩ q now hq hm8 ha0 ha1 HNU.out t0 (by omega)
  have HRL := Lib.hid hrl
  clear hrl
  clear d0 d1 d2 d3 d4 d5 d6
  obtain ⟨d0, d1, d2, d3, d4, d5, d6⟩ := cells7 (hk7.keep hbm6 (by simp))
  have HLV : Hid (v = .tuple #[.int .i64 (leftS ⟨ffr, fat, fqos, fret, lm, ftopic, fpay⟩ now).1, .bool (leftS ⟨ffr, fat, fqos, fret, lm, ftopic, fpay⟩ now).2]) := hv
  generalize hlS : leftS ⟨ffr, fat, fqos, fret, lm, ftopic, fpay⟩ now = lS at hv HRL HLV
  obtain ⟨lx1, lok⟩ := lS
  simp only at hv HRL
  subst hv
  clear hlS HLV
  go_wp2_with fail
  refine Calls.mono (told12_call w7 ⟨ffr, fat, fqos, fret, lm, ftopic, fpay⟩ (.slice r1 nm r3) ((hA4.keep hk6).keep hk7) hm8) ?_
  rintro e w8 ⟨v, rfl, pv8, rfl, hrow8, hk8⟩
  obtain ⟨a8, c8, rfl⟩ := row_shape hrow8
  have hA8 := rowArg hrow8
  simp only [← HNM.out] at hA8
  simp only [MsgR.v, ← HNM.out]
  clear d0 d1 d2 d3 d4 d5 d6 hrow8
  go_wp2_with fail
  refine Calls.mono (HRL.out w8 ((hk6.thenNil hk7).thenNil hk8) _ hA8) ?_
  rintro e w9 ⟨v, rfl, rfl, hk9⟩
  have hk69 : Ch [] w6 w9 := (hk7.thenNil hk8).thenNil hk9
  have hbp9 := hk69.keep hbp6 (by simp)
  have hbm9 := hk69.keep hbm6 (by simp)
  have hbx9 := hk69.keep hbx6 (by simp)
  have hX9 := hX6.keep hk69
  have hR9 := (hR4.keep hk6).keep hk69
  have hA9 := (hA4.keep hk6).keep hk69
  have hM9 := (hM4.keep hk6).keep hk69
  have hi9 := (hi4.keep hk6 (by simp)).keep hk69 (by simp)
  have hc9 := (hc4.thenNil hk6).thenNil hk69
  clear hbp6 hbm6 hbx6 hX6 hR4 hA4 hM4 hi4 hA8
  go_upto_region 7 with fail
  refine wp_region_flow (Ch [] w9) 45 [(false, 0), (true, 1), (true, 2), (true, 4), (true, 6), (true, 7), (true, 8), (true, 9), (false, 3), (false, 5), (false, 10), (false, 11), (true, 12), (true, 13), (true, 14), (true, 15), (true, 16), (true, 17), (true, 18), (true, 19), (true, 20), (true, 21), (true, 22), (true, 23), (true, 24), (true, 25), (true, 26), (true, 28), (true, 30), (false, 27), (false, 29), (false, 31), (true, 32), (true, 33), (true, 34), (true, 35), (true, 36), (true, 39), (true, 41), (false, 37), (false, 38), (false, 40), (false, 42), (false, 43), (true, 44)] (by kernel_rfl) (by kernel_rfl) (Ch.refl [] w9).drew ?_
  intro hS hne
  have f0 := wd_cell hbp9 0 rfl
  have g0 := wd_cell hbm9 0 rfl
  have x0 := wd_cell hbx9 0 rfl
  have f1 := wd_cell hbp9 1 rfl
  have g1 := wd_cell hbm9 1 rfl
  have x1 := wd_cell hbx9 1 rfl
  have f2 := wd_cell hbp9 2 rfl
  have g2 := wd_cell hbm9 2 rfl
  have x2 := wd_cell hbx9 2 rfl
  have f3 := wd_cell hbp9 3 rfl
  have g3 := wd_cell hbm9 3 rfl
  have x3 := wd_cell hbx9 3 rfl
  have f4 := wd_cell hbp9 4 rfl
  have g4 := wd_cell hbm9 4 rfl
  have x4 := wd_cell hbx9 4 rfl
  have f5 := wd_cell hbp9 5 rfl
  have g5 := wd_cell hbm9 5 rfl
  have x5 := wd_cell hbx9 5 rfl
  have f6 := wd_cell hbp9 6 rfl
  have g6 := wd_cell hbm9 6 rfl
  have x6 := wd_cell hbx9 6 rfl
  refine flow_l (by rfl) ?_
  go_wp2_with fail
  refine Calls.mono (rawake_call w9.drew (hi9.keep hS (by simp))) ?_
  rintro e w10 ⟨v, rfl, rfl, hk10⟩
  have hs10 := hS.thenNil hk10
  go_wp2
  refine ⟨hs10, ?_⟩
  repeat (refine flow_q (by rfl) ?_; go_big_quiet_step (fail); refine flow_n ?_)
  refine flow_l (by rfl) ?_
  go_wp2_with fail
  refine Calls.mono (told12_call w10 ⟨ffr, now, pqos, pret, lx, name, py2⟩ (.slice a5 nx c5) (hX9.keep hs10) hlx) ?_
  rintro e w11 ⟨v, rfl, pv11, rfl, hrow11, hk11⟩
  obtain ⟨a11, c11, rfl⟩ := row_shape hrow11
  have hT11 := rowArg hrow11
  simp only [← HNX.out] at hT11
  simp only [MsgR.v, ← HNX.out]
  have hs11 := hs10.thenNil hk11
  clear hrow11
  go_wp2
  refine ⟨hs11, ?_⟩
  refine flow_l (by rfl) ?_
  go_wp2_with fail
  refine Calls.mono (told07_call w11 ⟨dup, pret, pqos, pid, l2, tp2, py2⟩ (.slice a2 n2 c2) (hR9.keep hs11) (by show l2.length ≤ 100000; omega)) ?_
  rintro e w12 ⟨v, rfl, pv12, rfl, hrow12, hk12⟩
  obtain ⟨a12, c12, rfl⟩ := row_shape hrow12
  have hT12 := rowArg hrow12
  simp only [← HN2.out] at hT12
  simp only [PubR.v, ← HN2.out]
  have hs12 := hs11.thenNil hk12
  clear hrow12
  have hrof := rof_call w12 ⟨dup, pret, pqos, pid, l2, tp2, py2⟩ (.slice a12 n2 c12) name ffr now hT12 (by show l2.length ≤ 100000; omega)
  simp only [ofS, HLX.out, ← HNX.out, PubR.v] at hrof
  go_wp2
  refine ⟨hs12, ?_⟩
  refine flow_l (by rfl) ?_
  go_wp2_with fail
  refine Calls.mono (hrof) ?_
  rintro e w13 ⟨v, rfl, pv13, rfl, hrow13, hk13⟩
  obtain ⟨a13, c13, rfl⟩ := row_shape hrow13
  have hT13 : ArgSl w13 (.slice a13 nx c13) lx := by
    have h1 := hrow13
    rw [HNX.out] at h1 ⊢
    exact rowArg h1
  simp only [MsgR.v]
  have hs13 := hs12.thenNil hk13
  clear hrof hrow13
  go_wp2
  refine ⟨hs13, ?_⟩
  refine flow_l (by rfl) ?_
  go_wp2_with fail
  refine Calls.mono (same12_call w13 ⟨ffr, now, pqos, pret, lx, name, py2⟩ _ _ ((hT11.keep hk12).keep hk13) hT13 hlx) ?_
  rintro e w14 ⟨v, rfl, rfl, hk14⟩
  have hs14 := hs13.thenNil hk14
  go_wp2
  refine ⟨hs14, ?_⟩
  repeat (refine flow_q (by rfl) ?_; go_big_quiet_step (fail); refine flow_n ?_)
  refine flow_l (by rfl) ?_
  go_wp2_with fail
  refine Calls.mono (gone_call w14 ⟨ffr, fat, fqos, fret, lm, ftopic, fpay⟩ _ now (hM9.keep hs14) t0 (by omega)) ?_
  rintro e w15 ⟨v, rfl, hv, hk15⟩
  have hs15 := hs14.thenNil hk15
  subst hv
  have hrg : ∀ w', ∀ q, ArgSl w' q lm → _ := fun w' q (hq : ArgSl w' q lm) => rgone_call w' ⟨ffr, fat, fqos, fret, lm, ftopic, fpay⟩ q now hq hm8 ha0 ha1 HNU.out t0 (by omega)
  generalize goneS ⟨ffr, fat, fqos, fret, lm, ftopic, fpay⟩ now = gb at hrg ⊢
  have HRG := Lib.hid hrg
  clear hrg
  go_wp2
  refine ⟨hs15, ?_⟩
  refine flow_l (by rfl) ?_
  go_wp2_with fail
  refine Calls.mono (told12_call w15 ⟨ffr, fat, fqos, fret, lm, ftopic, fpay⟩ (.slice r1 nm r3) (hA9.keep hs15) hm8) ?_
  rintro e w16 ⟨v, rfl, pv16, rfl, hrow16, hk16⟩
  obtain ⟨a16, c16, rfl⟩ := row_shape hrow16
  have hT16 := rowArg hrow16
  simp only [← HNM.out] at hT16
  simp only [MsgR.v, ← HNM.out]
  have hs16 := hs15.thenNil hk16
  clear hrow16
  go_wp2
  refine ⟨hs16, ?_⟩
  refine flow_l (by rfl) ?_
  go_wp2_with fail
  refine Calls.mono (HRG.out w16 _ hT16) ?_
  rintro e w17 ⟨v, rfl, rfl, hk17⟩
  have hs17 := hs16.thenNil hk17
  go_wp2
  refine ⟨hs17, ?_⟩
  repeat (refine flow_q (by rfl) ?_; go_big_quiet_step (fail); refine flow_n ?_)
  refine flow_l (by rfl) ?_
  go_wp2_with fail
  refine Calls.mono (pub_call w17 ⟨ffr, fat, fqos, fret, lm, ftopic, fpay⟩ _ now (hM9.keep hs17) t0 (by omega)) ?_
  rintro e w18 ⟨v, rfl, pv', rfl, _, hsl18, hk18⟩
  have hs18 := hs17.thenNil hk18
  have hrp : ∀ w', ∀ q, ArgSl w' q lm → _ := fun w' q (hq : ArgSl w' q lm) => rpub_call w' ⟨ffr, fat, fqos, fret, lm, ftopic, fpay⟩ q now hq hm8 ha0 ha1 HNU.out t0 (by omega)
  have hlp := pubPs_length ⟨ffr, fat, fqos, fret, lm, ftopic, fpay⟩ now
  simp only at hlp hsl18 hrp
  rw [← hlp] at hsl18 hrp
  have hA18 := hsl18.arg
  rw [← HNM.out] at hlp
  generalize pubPs ⟨ffr, fat, fqos, fret, lm, ftopic, fpay⟩ now = lp at hlp hA18 hrp hsl18
  have HLP : Hid (lp.length = nm) := hlp
  obtain ⟨a18, c18, rfl⟩ := hA18.shape'
  rw [hlp] at hA18 ⊢
  have hlp8 : lp.length ≤ 100000 := by rw [hlp, HNM.out]; exact hm8
  have HRP := Lib.hid hrp
  clear hrp hsl18 hlp
  go_wp2
  refine ⟨hs18, ?_⟩
  refine flow_l (by rfl) ?_
  go_wp2_with fail
  refine Calls.mono (told07_call w18 ⟨false, fret, fqos, 0, lp, ftopic, fpay⟩ (.slice a18 nm c18) hA18 hlp8) ?_
  rintro e w19 ⟨v, rfl, pv19, rfl, hrow19, hk19⟩
  obtain ⟨a19, c19, rfl⟩ := row_shape hrow19
  have hT19 := rowArg hrow19
  simp only [HLP.out] at hT19
  simp only [PubR.v, HLP.out]
  have hs19 := hs18.thenNil hk19
  clear hrow19
  go_wp2
  refine ⟨hs19, ?_⟩
  refine flow_l (by rfl) ?_
  go_wp2_with fail
  refine Calls.mono (told12_call w19 ⟨ffr, fat, fqos, fret, lm, ftopic, fpay⟩ (.slice r1 nm r3) (hA9.keep hs19) hm8) ?_
  rintro e w20 ⟨v, rfl, pv20, rfl, hrow20, hk20⟩
  obtain ⟨a20, c20, rfl⟩ := row_shape hrow20
  have hT20 := rowArg hrow20
  simp only [← HNM.out] at hT20
  simp only [MsgR.v, ← HNM.out]
  have hs20 := hs19.thenNil hk20
  clear hrow20
  go_wp2
  refine ⟨hs20, ?_⟩
  refine flow_l (by rfl) ?_
  go_wp2_with fail
  refine Calls.mono (HRP.out w20 _ hT20) ?_
  rintro e w21 ⟨v, rfl, pv21, rfl, hrow21, hk21⟩
  obtain ⟨a21, c21, rfl⟩ := row_shape hrow21
  have hT21 := rowArg hrow21
  simp only [HLP.out] at hT21
  simp only [HLP.out]
  have hs21 := hs20.thenNil hk21
  clear hrow21
  go_wp2
  refine ⟨hs21, ?_⟩
  refine flow_l (by rfl) ?_
  go_wp2_with fail
  refine Calls.mono (same07_call w21 ⟨false, fret, fqos, 0, lp, ftopic, fpay⟩ _ _ ((hT19.keep hk20).keep hk21) hT21 hlp8) ?_
  rintro e w22 ⟨v, rfl, rfl, hk22⟩
  have hs22 := hs21.thenNil hk22
  go_wp2
  refine ⟨hs22, ?_⟩
  repeat (refine flow_q (by rfl) ?_; go_big_quiet_step (fail); refine flow_n ?_)
  refine flow_t ?_
  simp only [List.drop_succ_cons, List.drop_zero]
  go_wp2
  refine shut0_normal ?_
  go_wp2
  go_ret
  exact ⟨_, rfl, rfl, hc9.thenNil hs22⟩

end Go.Proofs.YticfeikmdfijiaaDoor
