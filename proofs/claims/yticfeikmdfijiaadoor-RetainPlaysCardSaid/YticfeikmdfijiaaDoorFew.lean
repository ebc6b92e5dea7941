/- Few: properties and messages, of short texts. -/
import Derived.Test.YticfeikmdfijiaaDoorSmatch
namespace Go.Proofs.YticfeikmdfijiaaDoor
open Go Go.RowKit

def fewP (p : PropR) : PropR := ⟨p.id, p.n, cutS p.s 20, cutS p.t 20⟩
def fewPs (l : List PropR) : List PropR := (l.take 8).map fewP
theorem fewPs_length (l : List PropR) : (fewPs l).length ≤ 8 := by simp [fewPs]; omega

/-- A row of properties as an argument may bear it: an empty one may have any address. -/
def ArgSl (w : World) (v : Value) (l : List PropR) : Prop := ∃ ao cap, v = .slice ao l.length cap ∧ (l = [] ∨ Sl w v 4 l.length (l.flatMap PropR.cells))
theorem ArgSl.keep {w w' : World} {v : Value} {l : List PropR} (h : ArgSl w v l) (hc : Ch [] w w') : ArgSl w' v l := by
  obtain ⟨ao, cap, hv, ho⟩ := h
  exact ⟨ao, cap, hv, ho.imp id (fun h => h.keep hc (by simp))⟩
theorem ArgSl.shape' {w : World} {v : Value} {l : List PropR} (h : ArgSl w v l) : ∃ ao cap, v = .slice ao l.length cap := by
  obtain ⟨ao, cap, hv, _⟩ := h
  exact ⟨ao, cap, hv⟩

set_option maxHeartbeats 4000000 in
theorem fewP_call (w : World) (v : Value) (l : List PropR) (h : ArgSl w v l) :
    Gives Tryd.prog 60 #[v] w fun r w' => w'.ownsRow w.heap.size 62 4 r (fewPs l).length ((fewPs l).flatMap PropR.cells) ∧ Ch [] w w' := by
  obtain ⟨n, hn⟩ : ∃ n, n = l.length := ⟨_, rfl⟩
  obtain ⟨ao, cap, hv, hor⟩ := h
  rw [← hn] at hv
  subst hv
  have HN : Hid (n = l.length) := hn
  clear hn
  go_enter Tryd.func60, Tryd.ntmps60
  go_wp2
  go_loopw [3, 4] (fun v3 v4 wr => ∃ (i : Nat) (o1 : Option Addr) (o2 : Nat), v4 = .int .i64 i ∧ v3 = .slice o1 i o2 ∧ i ≤ n ∧ i ≤ 8 ∧
      wr.ownsRow w.heap.size 62 4 (.slice o1 i o2) i (((l.take i).map fewP).flatMap PropR.cells) ∧ Ch [] w wr)
    (fun _ v4 _ => match v4 with | .int _ x => n - x.toNat | _ => 0)
  case atStart =>
    exact ⟨0, some ⟨w.heap.size, 0, none⟩, 0, rfl, rfl, by omega, by omega, ⟨rfl, .inr ⟨w.heap.size, 0, #[], rfl, Nat.le_refl _, heap_new w _, by omega, by decide, rfl, rfl⟩⟩, (Ch.refl [] w).alloc _⟩
  case round =>
    obtain ⟨i, o1, o2, rfl, rfl, hin, hi8, hrow, hcr⟩ := hrel
    by_cases hi : i < n
    · have hlt : decide ((i : Int) < (n : Int)) = true := by simpa using hi
      by_cases hi2 : i < 8
      · have hlt2 : decide ((i : Int) < 8) = true := by simp; omega
        have hil : i < l.length := by have := HN.out; omega
        have hp : l[i]? = some l[i] := List.getElem?_eq_getElem hil
        have hs := (hor.resolve_left (by rintro rfl; simp at hil)).keep hcr (by simp)
        obtain ⟨b, o, cap', hsv, hcell⟩ := hs.at (i := i) (fun _ => rfl) (by omega) hp
        cases hsv
        generalize hpp : l[i] = p at hp hcell
        obtain ⟨pid, pn, ps, pt⟩ := p
        have e0 : wr.cell? ⟨b, o + i * 4, none⟩ = some (.int .i64 pid) := by simpa using hcell 0 _ rfl
        have e1 : wr.cell? ⟨b, o + i * 4 + 1, none⟩ = some (.int .u32 pn) := by simpa [Nat.add_assoc] using hcell 1 _ rfl
        have e2 : wr.cell? ⟨b, o + i * 4 + 2, none⟩ = some (.string ps) := by simpa [Nat.add_assoc] using hcell 2 _ rfl
        have e3 : wr.cell? ⟨b, o + i * 4 + 3, none⟩ = some (.string pt) := by simpa [Nat.add_assoc] using hcell 3 _ rfl
        have HP : Hid (l[i]? = some ⟨pid, pn, ps, pt⟩) := hp
        clear hp hpp hcell
        go_wp2
        have hcB : Ch [] wr (wr.alloc (Obj.cells #[.int .i64 pid, .int .u32 pn, .string ps, .string pt] 62)) := (Ch.refl [] wr).alloc _
        have hbB := heap_new wr (Obj.cells #[.int .i64 pid, .int .u32 pn, .string ps, .string pt] 62)
        generalize wr.alloc (Obj.cells #[.int .i64 pid, .int .u32 pn, .string ps, .string pt] 62) = w1 at hcB hbB ⊢
        refine wp_region_flow (Ch [] w1) 7 [(true, 0), (true, 1), (true, 3), (true, 4), (false, 2), (true, 6), (false, 5)] (by kernel_rfl) (by kernel_rfl) (Ch.refl [] w1).drew ?_
        intro hS hne
        have f2 := wd_cell hbB 2 rfl
        have f3 := wd_cell hbB 3 rfl
        repeat (refine flow_q (by rfl) ?_; go_big_quiet_step (fail); refine flow_n ?_)
        refine flow_l (by rfl) ?_
        go_wp2_with fail
        refine Calls.mono (cut_call _ _ 20 (by omega)) ?_
        rintro e w' ⟨v, rfl, rfl, rfl⟩
        go_wp2
        refine ⟨hS, ?_⟩
        repeat (refine flow_q (by rfl) ?_; go_big_quiet_step (fail); refine flow_n ?_)
        refine flow_l (by rfl) ?_
        go_wp2_with fail
        refine Calls.mono (cut_call _ _ 20 (by omega)) ?_
        rintro e w' ⟨v, rfl, rfl, rfl⟩
        go_wp2
        refine ⟨hS, ?_⟩
        refine flow_t ?_
        clear f2 f3 hne
        have g2 : w1.cell? ⟨wr.heap.size, 2, none⟩ = some (.string ps) := cell_of_heap hbB 2
        have g2f : w1.frozen? ⟨wr.heap.size, 2, none⟩ = false := free_of_heap hbB 2
        have g3 : w1.cell? ⟨wr.heap.size, 3, none⟩ = some (.string pt) := cell_of_heap hbB 3
        have g3f : w1.frozen? ⟨wr.heap.size, 3, none⟩ = false := free_of_heap hbB 3
        have hb2 := heap_setCell_at (i := 2) hbB (.string (cutS ps 20))
        have g4 := cell_of_heap hb2 3
        have g4f := free_of_heap hb2 3
        simp only [List.drop_succ_cons, List.drop_zero]
        go_wp2
        refine shut0_normal ?_
        simp only [Exit.then, Exit.inBlock]
        have hb3 := heap_setCell_at (i := 3) hb2 (.string (cutS pt 20))
        simp only [List.setIfInBounds_toArray, List.set_cons_zero, List.set_cons_succ] at hb3
        have hc3 : Ch [] wr ((w1.setCell ⟨wr.heap.size, 2, none⟩ (.string (cutS ps 20))).setCell ⟨wr.heap.size, 3, none⟩ (.string (cutS pt 20))).drew := ((hcB.setCell _ _ (.inr (by simp))).setCell _ _ (.inr (by simp))).drew
        replace hb3 : ((w1.setCell ⟨wr.heap.size, 2, none⟩ (.string (cutS ps 20))).setCell ⟨wr.heap.size, 3, none⟩ (.string (cutS pt 20))).drew.heap[wr.heap.size]? = _ := hb3
        clear g2 g2f g3 g3f g4 g4f hb2
        generalize ((w1.setCell ⟨wr.heap.size, 2, none⟩ (.string (cutS ps 20))).setCell ⟨wr.heap.size, 3, none⟩ (.string (cutS pt 20))).drew = w3 at hb3 hc3 ⊢
        have k0 : w3.cell? ⟨wr.heap.size, 0, none⟩ = some (.int .i64 pid) := cell_of_heap hb3 0
        have k1 : w3.cell? ⟨wr.heap.size, 1, none⟩ = some (.int .u32 pn) := cell_of_heap hb3 1
        have k2 : w3.cell? ⟨wr.heap.size, 2, none⟩ = some (.string (cutS ps 20)) := cell_of_heap hb3 2
        have k3 : w3.cell? ⟨wr.heap.size, 3, none⟩ = some (.string (cutS pt 20)) := cell_of_heap hb3 3
        have hxs := sl_new w3 [.int .i64 pid, .int .u32 pn, .string (cutS ps 20), .string (cutS pt 20)] 62 4 1 rfl (le_maxLen (by omega))
        have hcA := (Ch.refl [] w3).alloc (Obj.cells [.int .i64 pid, .int .u32 pn, .string (cutS ps 20), .string (cutS pt 20)].toArray 62)
        have hrA := row_keep (row_keep hrow hc3 (by simp)) hcA (by simp)
        have q1 : i + 1 ≤ maxLen := le_maxLen (by omega)
        have q2 : (i + 1) * 48 ≤ 140737488355328 := by omega
        have q3 : w.heap.size ≤ _ := Nat.le_trans (Nat.le_trans hcr.size hc3.size) hcA.size
        have q4 : ∀ u ∈ ([.int .i64 pid, .int .u32 pn, .string (cutS ps 20), .string (cutS pt 20)] : List Value), u.oneCell' = true := by simp [Value.oneCell']
        go_wp2_with (at_builtin; refine wl_app rfl (.tmp 29) (.tmp 31) elProp rfl hrA rfl hxs rfl q4 q1 q2 q3 ?_; intro v' w7 hr7 hg7 hnil7 hor7; obtain ⟨e1, e2, rfl⟩ := row_shape hr7)
        refine ⟨⟨i + 1, e1, e2, by simp, rfl, by omega, by omega, ?_, ((hcr.thenNil hc3).thenNil hcA).trans (Ch.ofGrown hg7) (fun b hb => .inr (ownBlock_lt hrA (by simpa using hb)).1)⟩, by simp; omega⟩
        rw [take_snoc HP.out]
        simpa [fewP, PropR.cells] using hr7
      · have hlt2 : decide ((i : Int) < 8) = false := by simp; omega
        go_wp2
        go_ret
        refine ⟨_, rfl, ?_, hcr⟩
        have h8 : i = 8 := by omega
        have hl8 : (fewPs l).length = i := by simp [fewPs, h8]; have := HN.out; omega
        rw [hl8]
        simpa [fewPs, h8] using hrow
    · have hlt : decide ((i : Int) < (n : Int)) = false := by simpa using hi
      go_wp2
      go_ret
      refine ⟨_, rfl, ?_, hcr⟩
      have h8 : i = n := by omega
      have hl8 : (fewPs l).length = i := by simp [fewPs]; have := HN.out; omega
      rw [hl8]
      have ht : l.take 8 = l.take i := by rw [List.take_of_length_le (by have := HN.out; omega), List.take_of_length_le (by have := HN.out; omega)]
      unfold fewPs
      rw [ht]
      exact hrow

def fewM (m : MsgR) : MsgR := ⟨cutS m.from_ 10, tickS m.at_, m.qos, m.ret, fewPs m.props, cutS m.topic 30, cutS m.payload 30⟩
/-- The numbers of properties fit. -/
def NumsR (l : List PropR) : Prop := ∀ p ∈ l, 0 ≤ p.n ∧ p.n ≤ 4294967295
theorem NumsR.few {l : List PropR} (h : NumsR l) : NumsR (fewPs l) := by
  intro p hp
  obtain ⟨q, hq, rfl⟩ := List.mem_map.1 hp
  exact h q (List.mem_of_mem_take hq)
theorem Sl.ofFresh {B : Nat} {w : World} {p : MsgR × Value} (h : w.ownsRow B 62 4 p.2 p.1.props.length (p.1.props.flatMap PropR.cells)) : Sl w p.2 4 p.1.props.length (p.1.props.flatMap PropR.cells) := Sl.ofRow h

set_option maxHeartbeats 4000000 in
theorem fewM_call (w : World) (m : MsgR) (pv : Value) (h : ArgSl w pv m.props) (hn : NumsR m.props) :
    Gives Tryd.prog 21 #[m.v pv] w fun r w' => ∃ pv', r = (fewM m).v pv' ∧ Fresh w.heap.size w' (fewM m, pv') ∧ MsgAt w' (fewM m) pv' ∧ Ch [] w w' := by
  obtain ⟨p1, p3, hpv⟩ := h.shape'
  obtain ⟨fr, at_, qos, ret, props, topic, payload⟩ := m
  simp only at h hn hpv
  generalize hp2 : props.length = p2 at hpv
  subst hpv
  simp only [MsgR.v]
  have hc0 : Ch [] w ((w.alloc (.cells #[.string fr, .int .i64 at_, .int .u8 qos, .bool ret, .slice p1 p2 p3, .string topic, .string payload] 58)).alloc (.cells #[.string ⟨#[]⟩, .int .i64 0, .int .u8 0, .bool false, .slice none 0 0, .string ⟨#[]⟩, .string ⟨#[]⟩] 58)) := ((Ch.refl [] w).alloc _).alloc _
  have hb0 := heap_old (heap_new w (.cells #[.string fr, .int .i64 at_, .int .u8 qos, .bool ret, .slice p1 p2 p3, .string topic, .string payload] 58)) (.cells #[.string ⟨#[]⟩, .int .i64 0, .int .u8 0, .bool false, .slice none 0 0, .string ⟨#[]⟩, .string ⟨#[]⟩] 58)
  have hz0 := heap_new (w.alloc (.cells #[.string fr, .int .i64 at_, .int .u8 qos, .bool ret, .slice p1 p2 p3, .string topic, .string payload] 58)) (.cells #[.string ⟨#[]⟩, .int .i64 0, .int .u8 0, .bool false, .slice none 0 0, .string ⟨#[]⟩, .string ⟨#[]⟩] 58)
  have e1 : (w.alloc (.cells #[.string fr, .int .i64 at_, .int .u8 qos, .bool ret, .slice p1 p2 p3, .string topic, .string payload] 58)).heap.size = w.heap.size + 1 := by simp
  rw [e1] at hz0
  go_enter Tryd.func21, Tryd.ntmps21
  go_wp2
  generalize (w.alloc (.cells #[.string fr, .int .i64 at_, .int .u8 qos, .bool ret, .slice p1 p2 p3, .string topic, .string payload] 58)).alloc (.cells #[.string ⟨#[]⟩, .int .i64 0, .int .u8 0, .bool false, .slice none 0 0, .string ⟨#[]⟩, .string ⟨#[]⟩] 58) = w1 at hc0 hb0 hz0 ⊢
  refine wp_region_flow (Ch [] w1) 10 [(true, 0), (true, 1), (true, 3), (true, 4), (true, 6), (true, 7), (false, 2), (true, 9), (false, 5), (false, 8)] (by kernel_rfl) (by kernel_rfl) (Ch.refl [] w1).drew ?_
  intro hS hne
  have f0 := wd_cell hb0 0 rfl
  have f5 := wd_cell hb0 5 rfl
  have f6 := wd_cell hb0 6 rfl
  repeat (refine flow_q (by rfl) ?_; go_big_quiet_step (fail); refine flow_n ?_)
  refine flow_l (by rfl) ?_
  go_wp2_with fail
  refine Calls.mono (cut_call _ _ 10 (by omega)) ?_
  rintro e w' ⟨v, rfl, rfl, rfl⟩
  go_wp2
  refine ⟨hS, ?_⟩
  repeat (refine flow_q (by rfl) ?_; go_big_quiet_step (fail); refine flow_n ?_)
  refine flow_l (by rfl) ?_
  go_wp2_with fail
  refine Calls.mono (cut_call _ _ 30 (by omega)) ?_
  rintro e w' ⟨v, rfl, rfl, rfl⟩
  go_wp2
  refine ⟨hS, ?_⟩
  repeat (refine flow_q (by rfl) ?_; go_big_quiet_step (fail); refine flow_n ?_)
  refine flow_l (by rfl) ?_
  go_wp2_with fail
  refine Calls.mono (cut_call _ _ 30 (by omega)) ?_
  rintro e w' ⟨v, rfl, rfl, rfl⟩
  go_wp2
  refine ⟨hS, ?_⟩
  refine flow_t ?_
  clear f0 f5 f6 hne
  have g0 : w1.cell? ⟨w.heap.size, 0, none⟩ = some (.string fr) := cell_of_heap hb0 0
  have g0f : w1.frozen? ⟨w.heap.size, 0, none⟩ = false := free_of_heap hb0 0
  have hb1 := heap_setCell_at (i := 0) hb0 (.string (cutS fr 10))
  simp only [List.setIfInBounds_toArray, List.set_cons_zero, List.set_cons_succ] at hb1
  have g5 := cell_of_heap hb1 5
  have g5f := free_of_heap hb1 5
  have g50 := cell_of_heap hb0 5
  have g50f := free_of_heap hb0 5
  have hb2 := heap_setCell_at (i := 5) hb1 (.string (cutS topic 30))
  simp only [List.setIfInBounds_toArray, List.set_cons_zero, List.set_cons_succ] at hb2
  have g6 := cell_of_heap hb2 6
  have g6f := free_of_heap hb2 6
  have g60 := cell_of_heap hb0 6
  have g60f := free_of_heap hb0 6
  have hb3 := heap_setCell_at (i := 6) hb2 (.string (cutS payload 30))
  simp only [List.setIfInBounds_toArray, List.set_cons_zero, List.set_cons_succ] at hb3
  have hz3 := heap_setCell_ne (heap_setCell_ne (heap_setCell_ne hz0 (p := ⟨w.heap.size, 0, none⟩) (by simp) (.string (cutS fr 10))) (p := ⟨w.heap.size, 5, none⟩) (by simp) (.string (cutS topic 30))) (p := ⟨w.heap.size, 6, none⟩) (by simp) (.string (cutS payload 30))
  simp only [List.drop_succ_cons, List.drop_zero]
  go_wp2
  refine shut0_normal ?_
  simp only [Exit.then, Exit.inBlock]
  have hc3 : Ch [] w (((w1.setCell ⟨w.heap.size, 0, none⟩ (.string (cutS fr 10))).setCell ⟨w.heap.size, 5, none⟩ (.string (cutS topic 30))).setCell ⟨w.heap.size, 6, none⟩ (.string (cutS payload 30))).drew := (((hc0.setCell ⟨w.heap.size, 0, none⟩ _ (.inr (by simp))).setCell ⟨w.heap.size, 5, none⟩ _ (.inr (by simp))).setCell ⟨w.heap.size, 6, none⟩ _ (.inr (by simp))).drew
  replace hb3 : (((w1.setCell ⟨w.heap.size, 0, none⟩ (.string (cutS fr 10))).setCell ⟨w.heap.size, 5, none⟩ (.string (cutS topic 30))).setCell ⟨w.heap.size, 6, none⟩ (.string (cutS payload 30))).drew.heap[w.heap.size]? = _ := hb3
  replace hz3 : (((w1.setCell ⟨w.heap.size, 0, none⟩ (.string (cutS fr 10))).setCell ⟨w.heap.size, 5, none⟩ (.string (cutS topic 30))).setCell ⟨w.heap.size, 6, none⟩ (.string (cutS payload 30))).drew.heap[w.heap.size + 1]? = _ := hz3
  clear g0 g0f g5 g5f g6 g6f g50 g50f g60 g60f hb1 hb2 hS
  generalize (((w1.setCell ⟨w.heap.size, 0, none⟩ (.string (cutS fr 10))).setCell ⟨w.heap.size, 5, none⟩ (.string (cutS topic 30))).setCell ⟨w.heap.size, 6, none⟩ (.string (cutS payload 30))).drew = w3 at hb3 hz3 hc3 ⊢
  have k1 : w3.cell? ⟨w.heap.size, 1, none⟩ = some (.int .i64 at_) := cell_of_heap hb3 1
  have kf1 : w3.frozen? ⟨w.heap.size, 1, none⟩ = false := free_of_heap hb3 1
  go_wp2_with fail
  refine Calls.mono (tick_call _ _) ?_
  rintro e w3 ⟨v, rfl, rfl, rfl⟩
  have hb4 := heap_setCell_at (i := 1) hb3 (.int .i64 (tickS at_))
  simp only [List.setIfInBounds_toArray, List.set_cons_zero, List.set_cons_succ] at hb4
  have hz4 := heap_setCell_ne hz3 (p := ⟨w.heap.size, 1, none⟩) (by simp) (.int .i64 (tickS at_))
  have hc4 := hc3.setCell ⟨w.heap.size, 1, none⟩ (.int .i64 (tickS at_)) (.inr (by simp))
  have k4 := cell_of_heap hb4 4
  have k40 := cell_of_heap hb3 4
  go_wp2_with fail
  generalize w3.setCell ⟨w.heap.size, 1, none⟩ (.int .i64 (tickS at_)) = w4 at hb4 hz4 hc4 k4 ⊢
  refine Calls.mono (fewP_call _ _ props (h.keep hc4)) ?_
  rintro e w5 ⟨v, rfl, hown, hk5⟩
  obtain ⟨r1, r3, rfl⟩ := row_shape hown
  have hlt4 := lt_of_heap hz4
  have hb5 := hk5.keep hb4 (by simp)
  have hz5 := hk5.keep hz4 (by simp)
  have hc5 := hc4.thenNil hk5
  clear k1 kf1 k4 k40 hb3 hz3 hc3
  have k4 : w5.cell? ⟨w.heap.size, 4, none⟩ = some (.slice p1 p2 p3) := cell_of_heap hb5 4
  have kf4 : w5.frozen? ⟨w.heap.size, 4, none⟩ = false := free_of_heap hb5 4
  have hb6 := heap_setCell_at (i := 4) hb5 (.slice r1 (fewPs props).length r3)
  simp only [List.setIfInBounds_toArray, List.set_cons_zero, List.set_cons_succ] at hb6
  have hz6 := heap_setCell_ne hz5 (p := ⟨w.heap.size, 4, none⟩) (by simp) (.slice r1 (fewPs props).length r3)
  have hc6 := hc5.setCell ⟨w.heap.size, 4, none⟩ (.slice r1 (fewPs props).length r3) (.inr (by simp))
  have hown6 : (w5.setCell ⟨w.heap.size, 4, none⟩ (.slice r1 (fewPs props).length r3)).ownsRow w4.heap.size _ 4 _ _ _ := row_keep hown (S := [w.heap.size]) ((Ch.refl _ w5).setCell _ _ (.inl (by simp))) (fun b hb => by
    have h1 := (ownBlock_lt hown hb).1
    have h2 := lt_of_heap hb4
    simp only [List.mem_singleton]
    omega)
  have k0 : w5.cell? ⟨w.heap.size, 0, none⟩ = some (.string (cutS fr 10)) := cell_of_heap hb5 0
  have k1 : w5.cell? ⟨w.heap.size, 1, none⟩ = some (.int .i64 (tickS at_)) := cell_of_heap hb5 1
  have k2 : w5.cell? ⟨w.heap.size, 2, none⟩ = some (.int .u8 qos) := cell_of_heap hb5 2
  have k3 : w5.cell? ⟨w.heap.size, 3, none⟩ = some (.bool ret) := cell_of_heap hb5 3
  have k5 : w5.cell? ⟨w.heap.size, 5, none⟩ = some (.string (cutS topic 30)) := cell_of_heap hb5 5
  have k6 : w5.cell? ⟨w.heap.size, 6, none⟩ = some (.string (cutS payload 30)) := cell_of_heap hb5 6
  have m0 : (w5.setCell ⟨w.heap.size, 4, none⟩ (.slice r1 (fewPs props).length r3)).cell? ⟨w.heap.size, 0, none⟩ = some (.string (cutS fr 10)) := cell_of_heap hb6 0
  have m1 : (w5.setCell ⟨w.heap.size, 4, none⟩ (.slice r1 (fewPs props).length r3)).cell? ⟨w.heap.size, 1, none⟩ = some (.int .i64 (tickS at_)) := cell_of_heap hb6 1
  have m2 : (w5.setCell ⟨w.heap.size, 4, none⟩ (.slice r1 (fewPs props).length r3)).cell? ⟨w.heap.size, 2, none⟩ = some (.int .u8 qos) := cell_of_heap hb6 2
  have m3 : (w5.setCell ⟨w.heap.size, 4, none⟩ (.slice r1 (fewPs props).length r3)).cell? ⟨w.heap.size, 3, none⟩ = some (.bool ret) := cell_of_heap hb6 3
  have m4 : (w5.setCell ⟨w.heap.size, 4, none⟩ (.slice r1 (fewPs props).length r3)).cell? ⟨w.heap.size, 4, none⟩ = some (.slice r1 (fewPs props).length r3) := cell_of_heap hb6 4
  have m5 : (w5.setCell ⟨w.heap.size, 4, none⟩ (.slice r1 (fewPs props).length r3)).cell? ⟨w.heap.size, 5, none⟩ = some (.string (cutS topic 30)) := cell_of_heap hb6 5
  have m6 : (w5.setCell ⟨w.heap.size, 4, none⟩ (.slice r1 (fewPs props).length r3)).cell? ⟨w.heap.size, 6, none⟩ = some (.string (cutS payload 30)) := cell_of_heap hb6 6
  have z0 : w5.cell? ⟨w.heap.size + 1, 0, none⟩ = some (.string ⟨#[]⟩) := cell_of_heap hz5 0
  have zf0 : w5.frozen? ⟨w.heap.size + 1, 0, none⟩ = false := free_of_heap hz5 0
  have y0 : (w5.setCell ⟨w.heap.size, 4, none⟩ (.slice r1 (fewPs props).length r3)).cell? ⟨w.heap.size + 1, 0, none⟩ = some (.string ⟨#[]⟩) := cell_of_heap hz6 0
  have yf0 : (w5.setCell ⟨w.heap.size, 4, none⟩ (.slice r1 (fewPs props).length r3)).frozen? ⟨w.heap.size + 1, 0, none⟩ = false := free_of_heap hz6 0
  have z1 : w5.cell? ⟨w.heap.size + 1, 1, none⟩ = some (.int .i64 0) := cell_of_heap hz5 1
  have zf1 : w5.frozen? ⟨w.heap.size + 1, 1, none⟩ = false := free_of_heap hz5 1
  have y1 : (w5.setCell ⟨w.heap.size, 4, none⟩ (.slice r1 (fewPs props).length r3)).cell? ⟨w.heap.size + 1, 1, none⟩ = some (.int .i64 0) := cell_of_heap hz6 1
  have yf1 : (w5.setCell ⟨w.heap.size, 4, none⟩ (.slice r1 (fewPs props).length r3)).frozen? ⟨w.heap.size + 1, 1, none⟩ = false := free_of_heap hz6 1
  have z2 : w5.cell? ⟨w.heap.size + 1, 2, none⟩ = some (.int .u8 0) := cell_of_heap hz5 2
  have zf2 : w5.frozen? ⟨w.heap.size + 1, 2, none⟩ = false := free_of_heap hz5 2
  have y2 : (w5.setCell ⟨w.heap.size, 4, none⟩ (.slice r1 (fewPs props).length r3)).cell? ⟨w.heap.size + 1, 2, none⟩ = some (.int .u8 0) := cell_of_heap hz6 2
  have yf2 : (w5.setCell ⟨w.heap.size, 4, none⟩ (.slice r1 (fewPs props).length r3)).frozen? ⟨w.heap.size + 1, 2, none⟩ = false := free_of_heap hz6 2
  have z3 : w5.cell? ⟨w.heap.size + 1, 3, none⟩ = some (.bool false) := cell_of_heap hz5 3
  have zf3 : w5.frozen? ⟨w.heap.size + 1, 3, none⟩ = false := free_of_heap hz5 3
  have y3 : (w5.setCell ⟨w.heap.size, 4, none⟩ (.slice r1 (fewPs props).length r3)).cell? ⟨w.heap.size + 1, 3, none⟩ = some (.bool false) := cell_of_heap hz6 3
  have yf3 : (w5.setCell ⟨w.heap.size, 4, none⟩ (.slice r1 (fewPs props).length r3)).frozen? ⟨w.heap.size + 1, 3, none⟩ = false := free_of_heap hz6 3
  have z4 : w5.cell? ⟨w.heap.size + 1, 4, none⟩ = some (.slice none 0 0) := cell_of_heap hz5 4
  have zf4 : w5.frozen? ⟨w.heap.size + 1, 4, none⟩ = false := free_of_heap hz5 4
  have y4 : (w5.setCell ⟨w.heap.size, 4, none⟩ (.slice r1 (fewPs props).length r3)).cell? ⟨w.heap.size + 1, 4, none⟩ = some (.slice none 0 0) := cell_of_heap hz6 4
  have yf4 : (w5.setCell ⟨w.heap.size, 4, none⟩ (.slice r1 (fewPs props).length r3)).frozen? ⟨w.heap.size + 1, 4, none⟩ = false := free_of_heap hz6 4
  have z5 : w5.cell? ⟨w.heap.size + 1, 5, none⟩ = some (.string ⟨#[]⟩) := cell_of_heap hz5 5
  have zf5 : w5.frozen? ⟨w.heap.size + 1, 5, none⟩ = false := free_of_heap hz5 5
  have y5 : (w5.setCell ⟨w.heap.size, 4, none⟩ (.slice r1 (fewPs props).length r3)).cell? ⟨w.heap.size + 1, 5, none⟩ = some (.string ⟨#[]⟩) := cell_of_heap hz6 5
  have yf5 : (w5.setCell ⟨w.heap.size, 4, none⟩ (.slice r1 (fewPs props).length r3)).frozen? ⟨w.heap.size + 1, 5, none⟩ = false := free_of_heap hz6 5
  have z6 : w5.cell? ⟨w.heap.size + 1, 6, none⟩ = some (.string ⟨#[]⟩) := cell_of_heap hz5 6
  have zf6 : w5.frozen? ⟨w.heap.size + 1, 6, none⟩ = false := free_of_heap hz5 6
  have y6 : (w5.setCell ⟨w.heap.size, 4, none⟩ (.slice r1 (fewPs props).length r3)).cell? ⟨w.heap.size + 1, 6, none⟩ = some (.string ⟨#[]⟩) := cell_of_heap hz6 6
  have yf6 : (w5.setCell ⟨w.heap.size, 4, none⟩ (.slice r1 (fewPs props).length r3)).frozen? ⟨w.heap.size + 1, 6, none⟩ = false := free_of_heap hz6 6
  clear h hb4 hz4 hb0 hz0 hc0
  go_wp2
  have hW := (heap_setCell_at (i := 6) (heap_setCell_at (i := 5) (heap_setCell_at (i := 4) (heap_setCell_at (i := 3) (heap_setCell_at (i := 2) (heap_setCell_at (i := 1) (heap_setCell_at (i := 0) hz6 (.string (cutS fr 10))) (.int .i64 (tickS at_))) (.int .u8 qos)) (.bool ret)) (.slice r1 (fewPs props).length r3)) (.string (cutS topic 30))) (.string (cutS payload 30)))
  simp only [List.setIfInBounds_toArray, List.set_cons_zero, List.set_cons_succ] at hW
  have hcW := (((((((hc6.setCell ⟨w.heap.size + 1, 0, none⟩ (.string (cutS fr 10)) (.inr (by simp))).setCell ⟨w.heap.size + 1, 1, none⟩ (.int .i64 (tickS at_)) (.inr (by simp))).setCell ⟨w.heap.size + 1, 2, none⟩ (.int .u8 qos) (.inr (by simp))).setCell ⟨w.heap.size + 1, 3, none⟩ (.bool ret) (.inr (by simp))).setCell ⟨w.heap.size + 1, 4, none⟩ (.slice r1 (fewPs props).length r3) (.inr (by simp))).setCell ⟨w.heap.size + 1, 5, none⟩ (.string (cutS topic 30)) (.inr (by simp))).setCell ⟨w.heap.size + 1, 6, none⟩ (.string (cutS payload 30)) (.inr (by simp)))
  have hchW := ((((((((Ch.refl [w.heap.size + 1] (w5.setCell ⟨w.heap.size, 4, none⟩ (.slice r1 (fewPs props).length r3))).setCell ⟨w.heap.size + 1, 0, none⟩ (.string (cutS fr 10)) (.inl (by simp))).setCell ⟨w.heap.size + 1, 1, none⟩ (.int .i64 (tickS at_)) (.inl (by simp))).setCell ⟨w.heap.size + 1, 2, none⟩ (.int .u8 qos) (.inl (by simp))).setCell ⟨w.heap.size + 1, 3, none⟩ (.bool ret) (.inl (by simp))).setCell ⟨w.heap.size + 1, 4, none⟩ (.slice r1 (fewPs props).length r3) (.inl (by simp))).setCell ⟨w.heap.size + 1, 5, none⟩ (.string (cutS topic 30)) (.inl (by simp))).setCell ⟨w.heap.size + 1, 6, none⟩ (.string (cutS payload 30)) (.inl (by simp)))
  generalize ((((((((w5.setCell ⟨w.heap.size, 4, none⟩ (.slice r1 (fewPs props).length r3)).setCell ⟨w.heap.size + 1, 0, none⟩ (.string (cutS fr 10))).setCell ⟨w.heap.size + 1, 1, none⟩ (.int .i64 (tickS at_))).setCell ⟨w.heap.size + 1, 2, none⟩ (.int .u8 qos)).setCell ⟨w.heap.size + 1, 3, none⟩ (.bool ret)).setCell ⟨w.heap.size + 1, 4, none⟩ (.slice r1 (fewPs props).length r3)).setCell ⟨w.heap.size + 1, 5, none⟩ (.string (cutS topic 30))).setCell ⟨w.heap.size + 1, 6, none⟩ (.string (cutS payload 30))) = w7 at hW hcW hchW ⊢
  have hown7 := row_keep hown6 hchW (fun b hb => by
    have h1 := (ownBlock_lt hown6 hb).1
    simp only [List.mem_singleton]
    omega)
  have q0 := cell_of_heap hW 0
  have q1 := cell_of_heap hW 1
  have q2 := cell_of_heap hW 2
  have q3 := cell_of_heap hW 3
  have q4 := cell_of_heap hW 4
  have q5 := cell_of_heap hW 5
  have q6 := cell_of_heap hW 6
  simp only [List.getElem?_toArray, List.getElem?_cons_zero, List.getElem?_cons_succ] at q0 q1 q2 q3 q4 q5 q6
  refine bodyPost_ret (v := .agg #[.string (cutS fr 10), .int .i64 (tickS at_), .int .u8 qos, .bool ret, .slice r1 (fewPs props).length r3, .string (cutS topic 30), .string (cutS payload 30)]) (by simp [results, Tryd.f21, go_sem, q0, q1, q2, q3, q4, q5, q6]) rfl ?_
  have hfr : Fresh w.heap.size w7 (fewM ⟨fr, at_, qos, ret, props, topic, payload⟩, .slice r1 (fewPs props).length r3) := .inl (row_base hown7 (by omega))
  exact ⟨_, rfl, _, rfl, hfr, ⟨Sl.ofRow hown7, by have := fewPs_length props; simp only [fewM]; omega, (tickS_range at_).1, by have := (tickS_range at_).2; simp only [fewM]; omega, hn.few⟩, hcW⟩

end Go.Proofs.YticfeikmdfijiaaDoor
