/- The document's side: what is the same; what is left. -/
import Derived.Test.YticfeikmdfijiaaDoorTolds
import Derived.Laws.StructEq
import Derived.Lib.Hide
namespace Go.Proofs.YticfeikmdfijiaaDoor
open Go Go.RowKit

def propA (p : PropR) : Value := .agg #[.int .i64 p.id, .int .u32 p.n, .string p.s, .string p.t]
set_option maxRecDepth 100000 in
theorem neq_prop (p q : PropR) (w : World) : (binOp .neq 150 (propA p) (propA q)).run Tryd.prog w = .ok (.bool (!(p.id == q.id && (p.n == q.n && (p.s.toList == q.s.toList && p.t.toList == q.t.toList))))) w := by
  have hS : Tryd.prog.underlying 150 = some (.struct (Tryd.prog.fieldsOf 150)) := by kernel_rfl
  have hp : Tryd.prog.stoodInHeld 150 = false := by kernel_rfl
  have a3 := Tryd.isAgg3
  have z3 := Tryd.sizeOf3
  have a22 := Tryd.isAgg22
  have z22 := Tryd.sizeOf22
  have a9 := Tryd.isAgg9
  have z9 := Tryd.sizeOf9
  have u3 := Tryd.underlying3
  have u22 := Tryd.underlying22
  have u9 := Tryd.underlying9
  simp only [propA]
  rw [run_neq_struct, show (10000 : Nat) = 9999 + 1 from rfl, run_equalIn_agg w 9999 _ _ _ hS hp]
  simp only [Program.fieldsOf, Tryd.underlying150]
  go_simp
  by_cases h1 : p.id = q.id <;> by_cases h2 : p.n = q.n <;> by_cases h3 : p.s.toList = q.s.toList <;> by_cases h4 : p.t.toList = q.t.toList <;> simp [h1, h2, h3, h4]

set_option maxHeartbeats 4000000 in
theorem same6_call (w : World) (v1 v2 : Value) (l : List PropR) (h1 : ArgSl w v1 l) (h2 : ArgSl w v2 l) (hl : l.length ≤ 100000) :
    Gives Tryd.prog 87 #[v1, v2] w fun r w' => r = .bool true ∧ Ch [] w w' := by
  obtain ⟨n, hn⟩ : ∃ n, n = l.length := ⟨_, rfl⟩
  obtain ⟨ao, cap, hv⟩ := h1.shape'
  obtain ⟨bo, bcap, hv2⟩ := h2.shape'
  rw [← hn] at hv hv2 hl
  subst hv
  subst hv2
  have HN : Hid (n = l.length) := hn
  clear hn
  go_enter Tryd.func87, Tryd.ntmps87
  go_wp2_with fail
  go_loopw [13] (fun v13 wr => ∃ i : Nat, v13 = .int .i64 i ∧ i ≤ n ∧ Ch [] w wr) (fun v13 _ => match v13 with | .int _ x => n - x.toNat | _ => 0)
  case atStart => exact ⟨0, rfl, by omega, Ch.refl _ _⟩
  case round =>
    obtain ⟨i, rfl, hin, hcr⟩ := hrel
    by_cases hi : i < n
    · have hlt : decide ((i : Int) < (n : Int)) = true := by simpa using hi
      have hil : i < l.length := by have := HN.out; omega
      have hp : l[i]? = some l[i] := List.getElem?_eq_getElem hil
      obtain ⟨b, o, cap', hsv, e0, e1, e2, e3⟩ := (h1.keep hcr).elem hp
      cases hsv
      obtain ⟨b', o', cap'', hsv, d0, d1, d2, d3⟩ := (h2.keep hcr).elem hp
      cases hsv
      generalize l[i] = p at hp e0 e1 e2 e3 d0 d1 d2 d3
      have hneq := neq_prop p p
      simp only [propA] at hneq
      obtain ⟨pid, pn, ps, pt⟩ := p
      simp only [beq_self_eq_true, Bool.and_self, Bool.not_true] at hneq e0 e1 e2 e3 d0 d1 d2 d3
      clear hp
      go_upto_region 6 with fail
      refine wp_region_flow (Ch [] wr) 8 [(true, 0), (true, 1), (true, 2), (true, 3), (true, 4), (true, 5), (true, 6), (true, 7)] (by kernel_rfl) (by kernel_rfl) (Ch.refl [] wr).drew ?_
      intro hS hne
      have f0 : ∀ x : Wd (Ch [] wr), x.v.cell? ⟨b, o + i * 4, none⟩ = some (.int .i64 pid) := fun x => x.p.cell e0 (by simp)
      have f1 : ∀ x : Wd (Ch [] wr), x.v.cell? ⟨b, o + i * 4 + 1, none⟩ = some (.int .u32 pn) := fun x => x.p.cell e1 (by simp)
      have f2 : ∀ x : Wd (Ch [] wr), x.v.cell? ⟨b, o + i * 4 + 2, none⟩ = some (.string ps) := fun x => x.p.cell e2 (by simp)
      have f3 : ∀ x : Wd (Ch [] wr), x.v.cell? ⟨b, o + i * 4 + 3, none⟩ = some (.string pt) := fun x => x.p.cell e3 (by simp)
      have g0 : ∀ x : Wd (Ch [] wr), x.v.cell? ⟨b', o' + i * 4, none⟩ = some (.int .i64 pid) := fun x => x.p.cell d0 (by simp)
      have g1 : ∀ x : Wd (Ch [] wr), x.v.cell? ⟨b', o' + i * 4 + 1, none⟩ = some (.int .u32 pn) := fun x => x.p.cell d1 (by simp)
      have g2 : ∀ x : Wd (Ch [] wr), x.v.cell? ⟨b', o' + i * 4 + 2, none⟩ = some (.string ps) := fun x => x.p.cell d2 (by simp)
      have g3 : ∀ x : Wd (Ch [] wr), x.v.cell? ⟨b', o' + i * 4 + 3, none⟩ = some (.string pt) := fun x => x.p.cell d3 (by simp)
      repeat (refine flow_q (by rfl) ?_; go_big_quiet_step (fail); refine flow_n ?_)
      refine flow_t ?_
      clear f0 f1 f2 f3 g0 g1 g2 g3 hne
      simp only [List.drop_succ_cons, List.drop_zero]
      go_wp2
      refine shut0_normal ?_
      simp only [Exit.then, Exit.inBlock]
      go_wp2
      refine ⟨⟨i + 1, by simp, by omega, hcr.drew⟩, by simp; omega⟩
    · have hlt : decide ((i : Int) < (n : Int)) = false := by simpa using hi
      go_wp2
      go_ret
      exact ⟨_, rfl, rfl, hcr⟩

theorem props6_call (w : World) (v1 v2 : Value) (l : List PropR) (h1 : ArgSl w v1 l) (h2 : ArgSl w v2 l) (hl : l.length ≤ 100000) :
    Gives Tryd.prog 68 #[v1, v2] w fun r w' => r = .bool true ∧ Ch [] w w' := by
  have hs := fun w' (hc : Ch [] w w') => same6_call w' v1 v2 l (h1.keep hc) (h2.keep hc) hl
  obtain ⟨ao, cap, rfl⟩ := h1.shape'
  obtain ⟨bo, bcap, rfl⟩ := h2.shape'
  generalize l.length = n at hs ⊢
  have HS := Lib.hid hs
  clear hs
  go_enter Tryd.func68, Tryd.ntmps68
  go_wp2_with fail
  refine Calls.mono (HS.out w (Ch.refl _ _)) ?_
  rintro e w2 ⟨v, rfl, rfl, hk2⟩
  go_wp2_with fail
  go_ret
  exact ⟨_, rfl, rfl, hk2⟩

set_option maxHeartbeats 4000000 in
theorem same12_call (w : World) (m : MsgR) (pv pv2 : Value) (h : ArgSl w pv m.props) (h2 : ArgSl w pv2 m.props) (hl : m.props.length ≤ 100000) :
    Gives Tryd.prog 36 #[m.v pv, m.v pv2] w fun r w' => r = .int .i64 0 ∧ Ch [] w w' := by
  have hs : ∀ w', Ch [] w w' → _ := fun w' (hc : Ch [] w w') => props6_call w' pv pv2 m.props (h.keep hc) (h2.keep hc) hl
  obtain ⟨ao, cap, rfl⟩ := h.shape'
  obtain ⟨bo, bcap, rfl⟩ := h2.shape'
  obtain ⟨fr, at_, qos, ret, l, tp, py⟩ := m
  simp only [MsgR.v] at hs ⊢
  generalize l.length = n at hs ⊢
  have HS := Lib.hid hs
  clear hs h h2
  have hc2 : Ch [] w ((w.alloc (.cells #[.string fr, .int .i64 at_, .int .u8 qos, .bool ret, .slice ao n cap, .string tp, .string py] 84)).alloc (.cells #[.string fr, .int .i64 at_, .int .u8 qos, .bool ret, .slice bo n bcap, .string tp, .string py] 84)) := ((Ch.refl [] w).alloc _).alloc _
  have hb1 := heap_old (heap_new w (.cells #[.string fr, .int .i64 at_, .int .u8 qos, .bool ret, .slice ao n cap, .string tp, .string py] 84)) (.cells #[.string fr, .int .i64 at_, .int .u8 qos, .bool ret, .slice bo n bcap, .string tp, .string py] 84)
  have hb2 := heap_new (w.alloc (.cells #[.string fr, .int .i64 at_, .int .u8 qos, .bool ret, .slice ao n cap, .string tp, .string py] 84)) (.cells #[.string fr, .int .i64 at_, .int .u8 qos, .bool ret, .slice bo n bcap, .string tp, .string py] 84)
  have e1 : (w.alloc (.cells #[.string fr, .int .i64 at_, .int .u8 qos, .bool ret, .slice ao n cap, .string tp, .string py] 84)).heap.size = w.heap.size + 1 := by simp
  rw [e1] at hb2
  go_enter Tryd.func36, Tryd.ntmps36
  go_upto_region 1 with fail
  clear e1
  generalize (w.alloc (.cells #[.string fr, .int .i64 at_, .int .u8 qos, .bool ret, .slice ao n cap, .string tp, .string py] 84)).alloc (.cells #[.string fr, .int .i64 at_, .int .u8 qos, .bool ret, .slice bo n bcap, .string tp, .string py] 84) = w2 at hc2 hb1 hb2 ⊢
  obtain ⟨c0, c1, c2, c3, c4, c5, c6⟩ := cells7 hb1
  obtain ⟨d0, d1, d2, d3, d4, d5, d6⟩ := cells7 hb2
  go_wp2_with fail
  refine Calls.mono (HS.out w2 hc2) ?_
  rintro e w3 ⟨v, rfl, rfl, hk3⟩
  clear c0 c1 c2 c3 c4 c5 c6 d0 d1 d2 d3 d4 d5 d6
  obtain ⟨c0, c1, c2, c3, c4, c5, c6⟩ := cells7 (hk3.keep hb1 (by simp))
  obtain ⟨d0, d1, d2, d3, d4, d5, d6⟩ := cells7 (hk3.keep hb2 (by simp))
  go_wp2_with fail
  go_ret
  exact ⟨_, rfl, rfl, hc2.thenNil hk3⟩

set_option maxHeartbeats 4000000 in
theorem same07_call (w : World) (m : PubR) (pv pv2 : Value) (h : ArgSl w pv m.props) (h2 : ArgSl w pv2 m.props) (hl : m.props.length ≤ 100000) :
    Gives Tryd.prog 40 #[m.v pv, m.v pv2] w fun r w' => r = .bool true ∧ Ch [] w w' := by
  have hs : ∀ w', Ch [] w w' → _ := fun w' (hc : Ch [] w w') => props6_call w' pv pv2 m.props (h.keep hc) (h2.keep hc) hl
  obtain ⟨ao, cap, rfl⟩ := h.shape'
  obtain ⟨bo, bcap, rfl⟩ := h2.shape'
  obtain ⟨dup, ret, qos, id, l, tp, py⟩ := m
  simp only [PubR.v] at hs ⊢
  generalize l.length = n at hs ⊢
  have HS := Lib.hid hs
  clear hs h h2
  have hc2 : Ch [] w ((w.alloc (.cells #[.bool dup, .bool ret, .int .u8 qos, .int .u32 id, .slice ao n cap, .string tp, .string py] 89)).alloc (.cells #[.bool dup, .bool ret, .int .u8 qos, .int .u32 id, .slice bo n bcap, .string tp, .string py] 89)) := ((Ch.refl [] w).alloc _).alloc _
  have hb1 := heap_old (heap_new w (.cells #[.bool dup, .bool ret, .int .u8 qos, .int .u32 id, .slice ao n cap, .string tp, .string py] 89)) (.cells #[.bool dup, .bool ret, .int .u8 qos, .int .u32 id, .slice bo n bcap, .string tp, .string py] 89)
  have hb2 := heap_new (w.alloc (.cells #[.bool dup, .bool ret, .int .u8 qos, .int .u32 id, .slice ao n cap, .string tp, .string py] 89)) (.cells #[.bool dup, .bool ret, .int .u8 qos, .int .u32 id, .slice bo n bcap, .string tp, .string py] 89)
  have e1 : (w.alloc (.cells #[.bool dup, .bool ret, .int .u8 qos, .int .u32 id, .slice ao n cap, .string tp, .string py] 89)).heap.size = w.heap.size + 1 := by simp
  rw [e1] at hb2
  go_enter Tryd.func40, Tryd.ntmps40
  go_upto_region 1 with fail
  clear e1
  generalize (w.alloc (.cells #[.bool dup, .bool ret, .int .u8 qos, .int .u32 id, .slice ao n cap, .string tp, .string py] 89)).alloc (.cells #[.bool dup, .bool ret, .int .u8 qos, .int .u32 id, .slice bo n bcap, .string tp, .string py] 89) = w2 at hc2 hb1 hb2 ⊢
  obtain ⟨c0, c1, c2, c3, c4, c5, c6⟩ := cells7 hb1
  obtain ⟨d0, d1, d2, d3, d4, d5, d6⟩ := cells7 hb2
  go_wp2_with fail
  refine Calls.mono (HS.out w2 hc2) ?_
  rintro e w3 ⟨v, rfl, rfl, hk3⟩
  clear c0 c1 c2 c3 c4 c5 c6 d0 d1 d2 d3 d4 d5 d6
  obtain ⟨c0, c1, c2, c3, c4, c5, c6⟩ := cells7 (hk3.keep hb1 (by simp))
  obtain ⟨d0, d1, d2, d3, d4, d5, d6⟩ := cells7 (hk3.keep hb2 (by simp))
  go_wp2_with fail
  go_ret
  exact ⟨_, rfl, rfl, hc2.thenNil hk3⟩

set_option maxHeartbeats 4000000 in
theorem rleft_call' (w : World) (m : MsgR) (pv : Value) (now : Int) (h : ArgSl w pv m.props) (hl : m.props.length ≤ 100000) (ha0 : 0 ≤ m.at_) (ha1 : m.at_ ≤ 1000000) (hn : NumsR m.props) (n0 : 0 ≤ now) (n1 : now ≤ 1000000) :
    Gives Tryd.prog 34 #[m.v pv, .int .i64 now] w fun r w' => r = .tuple #[.int .i64 (leftS m now).1, .bool (leftS m now).2] ∧ Ch [] w w' := by
  obtain ⟨fr, at_, qos, ret, l, tp, py⟩ := m
  simp only at h hl ha0 ha1 hn
  obtain ⟨n, hnn⟩ : ∃ n, n = l.length := ⟨_, rfl⟩
  obtain ⟨ao, cap, hv⟩ := h.shape'
  rw [← hnn] at hv hl
  subst hv
  have HN : Hid (n = l.length) := hnn
  have HNU : Hid (NumsR l) := hn
  clear hnn hn
  simp only [MsgR.v]
  have hc1 : Ch [] w (w.alloc (.cells #[.string fr, .int .i64 at_, .int .u8 qos, .bool ret, .slice ao n cap, .string tp, .string py] 84)) := (Ch.refl [] w).alloc _
  have hbM := heap_new w (.cells #[.string fr, .int .i64 at_, .int .u8 qos, .bool ret, .slice ao n cap, .string tp, .string py] 84)
  go_enter Tryd.func34, Tryd.ntmps34
  go_upto_region 1 with fail
  generalize w.alloc (.cells #[.string fr, .int .i64 at_, .int .u8 qos, .bool ret, .slice ao n cap, .string tp, .string py] 84) = w1 at hc1 hbM ⊢
  have hmlt := lt_of_heap hbM
  obtain ⟨c0, c1, c2, c3, c4, c5, c6⟩ := cells7 hbM
  go_wp2_with fail
  clear c0 c1 c2 c3 c4 c5 c6
  go_loopw [11] (fun v11 wr => ∃ i : Nat, v11 = .int .i64 i ∧ i ≤ n ∧ (∀ k q, k < i → l[k]? = some q → q.id ≠ 2) ∧ Ch [] w1 wr) (fun v11 _ => match v11 with | .int _ x => n - x.toNat | _ => 0)
  case atStart => exact ⟨0, rfl, by omega, fun k q hk => by omega, Ch.refl _ _⟩
  case round =>
    obtain ⟨i, rfl, hin, hno, hcr⟩ := hrel
    have HNO : Hid (∀ k q, k < i → l[k]? = some q → q.id ≠ 2) := hno
    clear hno
    by_cases hi : i < n
    · have hlt : decide ((i : Int) < (n : Int)) = true := by simpa using hi
      have hil : i < l.length := by have := HN.out; omega
      have hp : l[i]? = some l[i] := List.getElem?_eq_getElem hil
      obtain ⟨b, o, cap', hsv, e0, e1, e2, e3⟩ := ((h.keep hc1).keep hcr).elem hp
      cases hsv
      have hq := HNU.out _ (List.mem_of_getElem? hp)
      generalize l[i] = q at hp hq e0 e1 e2 e3
      obtain ⟨xid, xn, xs, xt⟩ := q
      simp only at e0 e1 e2 e3 hq
      have HP : Hid (l[i]? = some ⟨xid, xn, xs, xt⟩) := hp
      clear hp
      have hcB : Ch [] wr (wr.alloc (.cells #[.int .i64 xid, .int .u32 xn, .string xs, .string xt] 150)) := (Ch.refl [] wr).alloc _
      have hbB := heap_new wr (.cells #[.int .i64 xid, .int .u32 xn, .string xs, .string xt] 150)
      have hbMr := hcr.keep hbM (by simp)
      have hbMB := heap_old hbMr (.cells #[.int .i64 xid, .int .u32 xn, .string xs, .string xt] 150)
      go_upto_region 4 with fail
      generalize wr.alloc (.cells #[.int .i64 xid, .int .u32 xn, .string xs, .string xt] 150) = w3 at hcB hbB hbMB ⊢
      obtain ⟨k0, k1, k2, k3⟩ := cells4 hbB
      obtain ⟨c0, c1, c2, c3, c4, c5, c6⟩ := cells7 hbMB
      by_cases h2 : xid = 2
      · subst h2
        have w1' : IntKind.i64.wrap (at_ + xn) = at_ + xn := by rw [IntKind.wrap_i64]; omega
        have w2' : IntKind.i64.wrap (at_ + xn - now) = at_ + xn - now := by rw [IntKind.wrap_i64]; omega
        have HG : Hid (leftS ⟨fr, at_, qos, ret, l, tp, py⟩ now = (at_ + xn - now, true)) := by
          show _ = _
          unfold leftS
          rw [show getP l 2 = some ⟨2, xn, xs, xt⟩ from getP_at HNO.out HP.out rfl]
        go_wp2
        go_ret2
        exact ⟨_, rfl, by rw [HG.out]; rfl, (hc1.thenNil hcr).thenNil hcB⟩
      · have e2' : (xid == 2) = false := by simpa using h2
        go_wp2
        refine ⟨⟨i + 1, by simp, by omega, fun k q hk hq' => ?_, hcr.thenNil hcB⟩, by simp; omega⟩
        rcases Nat.lt_or_ge k i with h3 | h3
        · exact HNO.out k q h3 hq'
        · obtain rfl : k = i := by omega
          rw [HP.out] at hq'
          cases hq'
          exact h2
    · have hlt : decide ((i : Int) < (n : Int)) = false := by simpa using hi
      have HG : Hid (leftS ⟨fr, at_, qos, ret, l, tp, py⟩ now = (0, false)) := by
        show _ = _
        unfold leftS
        rw [show getP l 2 = none from getP_none (fun k q hk hq' => HNO.out k q (by have := HN.out; omega) hq')]
      go_wp2
      go_ret2
      exact ⟨_, rfl, by rw [HG.out]; rfl, hc1.thenNil hcr⟩

set_option maxHeartbeats 4000000 in
theorem rgone_call (w : World) (m : MsgR) (pv : Value) (now : Int) (h : ArgSl w pv m.props) (hl : m.props.length ≤ 100000) (ha0 : 0 ≤ m.at_) (ha1 : m.at_ ≤ 1000000) (hn : NumsR m.props) (n0 : 0 ≤ now) (n1 : now ≤ 1000000) :
    Gives Tryd.prog 39 #[m.v pv, .int .i64 now] w fun r w' => r = .bool (goneS m now) ∧ Ch [] w w' := by
  have hlf : ∀ w', Ch [] w w' → _ := fun w' (hc : Ch [] w w') => rleft_call' w' m pv now (h.keep hc) hl ha0 ha1 hn n0 n1
  obtain ⟨ao, cap, rfl⟩ := h.shape'
  obtain ⟨fr, at_, qos, ret, l, tp, py⟩ := m
  unfold goneS
  simp only [MsgR.v] at hlf ⊢
  generalize leftS ⟨fr, at_, qos, ret, l, tp, py⟩ now = q at hlf ⊢
  obtain ⟨x, b⟩ := q
  generalize l.length = n at hlf ⊢
  have HS := Lib.hid hlf
  clear hlf h
  have hc1 : Ch [] w (w.alloc (.cells #[.string fr, .int .i64 at_, .int .u8 qos, .bool ret, .slice ao n cap, .string tp, .string py] 84)) := (Ch.refl [] w).alloc _
  have hbM := heap_new w (.cells #[.string fr, .int .i64 at_, .int .u8 qos, .bool ret, .slice ao n cap, .string tp, .string py] 84)
  go_enter Tryd.func39, Tryd.ntmps39
  go_upto_region 1 with fail
  generalize w.alloc (.cells #[.string fr, .int .i64 at_, .int .u8 qos, .bool ret, .slice ao n cap, .string tp, .string py] 84) = w1 at hc1 hbM ⊢
  obtain ⟨c0, c1, c2, c3, c4, c5, c6⟩ := cells7 hbM
  cases b with
  | true =>
    go_wp2_with fail
    refine Calls.mono (HS.out w1 hc1) ?_
    rintro e w3 ⟨v, rfl, rfl, hk3⟩
    clear c0 c1 c2 c3 c4 c5 c6
    by_cases hx : x < 1
    · have d1 : decide (x < 1) = true := by simpa using hx
      go_wp2_with fail
      go_ret
      exact ⟨_, rfl, by simp; omega, hc1.thenNil hk3⟩
    · have d1 : decide (x < 1) = false := by simpa using hx
      go_wp2_with fail
      go_ret
      exact ⟨_, rfl, by simp; omega, hc1.thenNil hk3⟩
  | false =>
    go_wp2_with fail
    refine Calls.mono (HS.out w1 hc1) ?_
    rintro e w3 ⟨v, rfl, rfl, hk3⟩
    clear c0 c1 c2 c3 c4 c5 c6
    go_wp2_with fail
    go_ret
    exact ⟨_, rfl, by simp, hc1.thenNil hk3⟩

end Go.Proofs.YticfeikmdfijiaaDoor
