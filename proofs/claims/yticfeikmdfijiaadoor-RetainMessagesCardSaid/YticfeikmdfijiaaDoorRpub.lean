/- The document's publish of a message; a publish of short texts. -/
import Derived.Test.YticfeikmdfijiaaDoorSames
import Derived.Deep.CutBlock
import Derived.Test.YticfeikmdfijiaaDoorPub
namespace Go.Proofs.YticfeikmdfijiaaDoor
open Go Go.RowKit

/-- The document's properties of a publish: what is left is said. -/
def rpubP (x : Int) (p : PropR) : PropR := if p.id = 2 then ⟨p.id, clampU x, p.s, p.t⟩ else p

theorem pubPs_eq (m : MsgR) (now : Int) : pubPs m now = m.props.map (rpubP (leftS m now).1) := by
  unfold pubPs
  by_cases h : (leftS m now).2 = true
  · rw [if_pos h]; rfl
  · rw [if_neg h]
    have hno : getP m.props 2 = none := by
      unfold leftS at h
      cases hp : getP m.props 2 with
      | none => rfl
      | some p => rw [hp] at h; simp at h
    have : m.props.map (rpubP (leftS m now).1) = m.props.map id := List.map_congr_left fun p hp => by
      have h1 := List.find?_eq_none.1 hno p hp
      have h2 : p.id ≠ 2 := by simpa using h1
      simp [rpubP, h2]
    rw [this, List.map_id]

set_option maxHeartbeats 8000000 in
theorem rpub_call (w : World) (m : MsgR) (pv : Value) (now : Int) (h : ArgSl w pv m.props) (hl : m.props.length ≤ 100000) (ha0 : 0 ≤ m.at_) (ha1 : m.at_ ≤ 1000000) (hn : NumsR m.props) (n0 : 0 ≤ now) (n1 : now ≤ 1000000) :
    Gives Tryd.prog 41 #[m.v pv, .int .i64 now] w fun r w' => ∃ pv', r = .agg #[.bool false, .bool m.ret, .int .u8 m.qos, .int .u32 0, pv', .string m.topic, .string m.payload] ∧
      w'.ownsRow w.heap.size 150 4 pv' m.props.length ((pubPs m now).flatMap PropR.cells) ∧ Ch [] w w' := by
  have hlf : ∀ w', Ch [] w w' → _ := fun w' (hc : Ch [] w w') => rleft_call' w' m pv now (h.keep hc) hl ha0 ha1 hn n0 n1
  rw [pubPs_eq]
  obtain ⟨fr, at_, qos, ret, l, tp, py⟩ := m
  simp only at h hl
  obtain ⟨n, hnn⟩ : ∃ n, n = l.length := ⟨_, rfl⟩
  obtain ⟨ao, cap, hv⟩ := h.shape'
  rw [← hnn] at hv hl
  subst hv
  have HN : Hid (n = l.length) := hnn
  clear hnn hn ha0 ha1
  simp only [MsgR.v] at hlf ⊢
  generalize leftS ⟨fr, at_, qos, ret, l, tp, py⟩ now = q at hlf ⊢
  obtain ⟨x, b⟩ := q
  simp only at hlf ⊢
  have HF := Lib.hid hlf
  clear hlf
  have hc2 : Ch [] w ((w.alloc (.cells #[.string fr, .int .i64 at_, .int .u8 qos, .bool ret, .slice ao n cap, .string tp, .string py] 84)).alloc (.cells #[.bool false, .bool false, .int .u8 0, .int .u32 0, .slice none 0 0, .string ⟨#[]⟩, .string ⟨#[]⟩] 89)) := ((Ch.refl [] w).alloc _).alloc _
  have hbM := heap_old (heap_new w (.cells #[.string fr, .int .i64 at_, .int .u8 qos, .bool ret, .slice ao n cap, .string tp, .string py] 84)) (.cells #[.bool false, .bool false, .int .u8 0, .int .u32 0, .slice none 0 0, .string ⟨#[]⟩, .string ⟨#[]⟩] 89)
  have hbR := heap_new (w.alloc (.cells #[.string fr, .int .i64 at_, .int .u8 qos, .bool ret, .slice ao n cap, .string tp, .string py] 84)) (.cells #[.bool false, .bool false, .int .u8 0, .int .u32 0, .slice none 0 0, .string ⟨#[]⟩, .string ⟨#[]⟩] 89)
  have e1 : (w.alloc (.cells #[.string fr, .int .i64 at_, .int .u8 qos, .bool ret, .slice ao n cap, .string tp, .string py] 84)).heap.size = w.heap.size + 1 := by simp
  have e2 : (((w.alloc (.cells #[.string fr, .int .i64 at_, .int .u8 qos, .bool ret, .slice ao n cap, .string tp, .string py] 84)).alloc (.cells #[.bool false, .bool false, .int .u8 0, .int .u32 0, .slice none 0 0, .string ⟨#[]⟩, .string ⟨#[]⟩] 89))).heap.size = w.heap.size + 2 := by simp
  rw [e1] at hbR
  go_enter Tryd.func41, Tryd.ntmps41
  go_upto_region 1 with fail
  clear e1
  generalize ((w.alloc (.cells #[.string fr, .int .i64 at_, .int .u8 qos, .bool ret, .slice ao n cap, .string tp, .string py] 84)).alloc (.cells #[.bool false, .bool false, .int .u8 0, .int .u32 0, .slice none 0 0, .string ⟨#[]⟩, .string ⟨#[]⟩] 89)) = w2 at hc2 hbM hbR e2 ⊢
  have hsz2 : w.heap.size + 2 ≤ w2.heap.size := by omega
  clear e2
  obtain ⟨c0, c1, c2, c3, c4, c5, c6⟩ := cells7 hbM
  go_wp2_with fail
  refine Calls.mono (HF.out w2 hc2) ?_
  rintro e w3 ⟨v, rfl, rfl, hk3⟩
  clear c0 c1 c2 c3 c4 c5 c6
  have hbM3 := hk3.keep hbM (by simp)
  have hbR3 := hk3.keep hbR (by simp)
  have hc3 := hc2.thenNil hk3
  have hsz : w.heap.size + 2 ≤ w3.heap.size := Nat.le_trans hsz2 hk3.size
  have hml3 := lt_of_heap hbM3
  have hrl3 := lt_of_heap hbR3
  obtain ⟨c0, c1, c2, c3, c4, c5, c6⟩ := cells7 hbM3
  have hx : max 0 (min x 4294967295) = clampU x := rfl
  have hx0 : 0 ≤ clampU x := by unfold clampU; omega
  have hx1 : clampU x ≤ 4294967295 := by unfold clampU; omega
  generalize hcx : clampU x = cx at hx hx0 hx1
  have HCX : Hid (clampU x = cx) := hcx
  clear hcx
  have hlw : w3.heap.size ≤ (w3.alloc (.cells #[] 150)).heap.size := by simp
  go_upto_block 0 with fail
  clear c0 c1 c2 c3 c4 c5 c6 hx
  go_wp2_with fail
  go_loopw [7, 23] (fun v7 v23 wr => ∃ (i : Nat) (o1 : Option Addr) (o2 : Nat), v23 = .int .i64 i ∧ v7 = .slice o1 i o2 ∧ i ≤ n ∧
      wr.ownsRow w3.heap.size 150 4 (.slice o1 i o2) i (((l.take i).map (rpubP x)).flatMap PropR.cells) ∧ Ch [] w3 wr)
    (fun _ v23 _ => match v23 with | .int _ x => n - x.toNat | _ => 0)
  case atStart => exact ⟨0, some ⟨w3.heap.size, 0, none⟩, 0, rfl, rfl, by omega, ⟨rfl, .inr ⟨w3.heap.size, 0, #[], rfl, Nat.le_refl _, heap_new w3 _, by omega, by decide, rfl, rfl⟩⟩, (Ch.refl [] w3).alloc _⟩
  case round =>
    obtain ⟨i, o1, o2, rfl, rfl, hin, hrow, hcr⟩ := hrel
    by_cases hi : i < n
    · have hlt : decide ((i : Int) < (n : Int)) = true := by simpa using hi
      have hil : i < l.length := by have := HN.out; omega
      have hp : l[i]? = some l[i] := List.getElem?_eq_getElem hil
      obtain ⟨b', o, cap', hsv, e0, e1, e2, e3⟩ := (((h.keep hc2).keep hk3).keep hcr).elem hp
      cases hsv
      generalize l[i] = q at hp e0 e1 e2 e3
      obtain ⟨xid, xn, xs, xt⟩ := q
      simp only at e0 e1 e2 e3
      have HP : Hid (l[i]? = some ⟨xid, xn, xs, xt⟩) := hp
      clear hp
      have hcB : Ch [] wr (wr.alloc (.cells #[.int .i64 xid, .int .u32 xn, .string xs, .string xt] 150)) := (Ch.refl [] wr).alloc _
      have hbB := heap_new wr (.cells #[.int .i64 xid, .int .u32 xn, .string xs, .string xt] 150)
      have hwlt : wr.heap.size < (wr.alloc (.cells #[.int .i64 xid, .int .u32 xn, .string xs, .string xt] 150)).heap.size := by simp
      go_upto_region 7 with fail
      have hw3 : w.heap.size + 2 ≤ wr.heap.size := Nat.le_trans hsz hcr.size
      generalize hbx : wr.heap.size = bx at hbB hw3 hwlt ⊢
      generalize wr.alloc (.cells #[.int .i64 xid, .int .u32 xn, .string xs, .string xt] 150) = w4 at hcB hbB hwlt ⊢
      obtain ⟨k0, k1, k2, k3⟩ := cells4 hbB
      obtain ⟨f0, f1, f2, f3⟩ := frees4 hbB
      by_cases h2 : xid = 2
      · subst h2
        have hcS : Ch [] wr (w4.setCell ⟨bx, 1, none⟩ (.int .u32 cx)) := hcB.setCell _ _ (.inr (by show wr.heap.size ≤ bx; omega))
        have hbS := heap_set1 1 (.int .u32 cx) (cs := [.int .i64 2, .int .u32 xn, .string xs, .string xt]) hbB
        simp only [List.set_cons_succ, List.set_cons_zero] at hbS
        clear hbx
        go_upto_region 9 with fail
        clear k0 k1 k2 k3 f0 f1 f2 f3
        generalize w4.setCell ⟨bx, 1, none⟩ (.int .u32 cx) = w5 at hcS hbS ⊢
        obtain ⟨k0, k1, k2, k3⟩ := cells4 hbS
        have hxs := sl_new w5 [.int .i64 2, .int .u32 cx, .string xs, .string xt] 150 4 1 rfl (le_maxLen (by omega))
        have hcA := (Ch.refl [] w5).alloc (Obj.cells [.int .i64 2, .int .u32 cx, .string xs, .string xt].toArray 150)
        have hrA := row_keep (row_keep hrow hcS (by simp)) hcA (by simp)
        have q1 : i + 1 ≤ maxLen := le_maxLen (by omega)
        have q2 : (i + 1) * 48 ≤ 140737488355328 := by omega
        have q3 : w3.heap.size ≤ _ := Nat.le_trans (Nat.le_trans hcr.size hcS.size) hcA.size
        have q4 : ∀ u ∈ ([.int .i64 2, .int .u32 cx, .string xs, .string xt] : List Value), u.oneCell' = true := by simp [Value.oneCell']
        go_wp2_with (at_builtin; refine wl_app rfl (.tmp 33) (.tmp 35) elR3 rfl hrA rfl hxs rfl q4 q1 q2 q3 ?_; intro v' w7 hr7 hg7 hnil7 hor7; obtain ⟨e1, e2, rfl⟩ := row_shape hr7)
        refine ⟨⟨i + 1, e1, e2, by simp, rfl, by omega, ?_, ((hcr.thenNil hcS).thenNil hcA).trans (Ch.ofGrown hg7) (fun b hb => .inr (by have := (ownBlock_lt hrA (by simpa using hb)).1; omega))⟩, by simp; omega⟩
        rw [take_snoc HP.out, List.map_append]
        simpa [PropR.cells, rpubP, HCX.out] using hr7
      · have e2' : (xid == 2) = false := by simpa using h2
        have HX2 : Hid (¬ xid = 2) := h2
        clear hbx
        go_upto_region 9 with fail
        clear f0 f1 f2 f3
        have hxs := sl_new w4 [.int .i64 xid, .int .u32 xn, .string xs, .string xt] 150 4 1 rfl (le_maxLen (by omega))
        have hcA := (Ch.refl [] w4).alloc (Obj.cells [.int .i64 xid, .int .u32 xn, .string xs, .string xt].toArray 150)
        have hrA := row_keep (row_keep hrow hcB (by simp)) hcA (by simp)
        have q1 : i + 1 ≤ maxLen := le_maxLen (by omega)
        have q2 : (i + 1) * 48 ≤ 140737488355328 := by omega
        have q3 : w3.heap.size ≤ _ := Nat.le_trans (Nat.le_trans hcr.size hcB.size) hcA.size
        have q4 : ∀ u ∈ ([.int .i64 xid, .int .u32 xn, .string xs, .string xt] : List Value), u.oneCell' = true := by simp [Value.oneCell']
        go_wp2_with (at_builtin; refine wl_app rfl (.tmp 33) (.tmp 35) elR3 rfl hrA rfl hxs rfl q4 q1 q2 q3 ?_; intro v' w7 hr7 hg7 hnil7 hor7; obtain ⟨e1, e2, rfl⟩ := row_shape hr7)
        refine ⟨⟨i + 1, e1, e2, by simp, rfl, by omega, ?_, ((hcr.thenNil hcB).thenNil hcA).trans (Ch.ofGrown hg7) (fun b hb => .inr (by have := (ownBlock_lt hrA (by simpa using hb)).1; omega))⟩, by simp; omega⟩
        rw [take_snoc HP.out, List.map_append]
        simpa [PropR.cells, rpubP, HX2.out] using hr7
    · have hlt : decide ((i : Int) < (n : Int)) = false := by simpa using hi
      have hnl : i = n := by omega
      have hit : l.take i = l := List.take_of_length_le (by have := HN.out; omega)
      rw [hit] at hrow
      have hbMr := hcr.keep hbM3 (by simp)
      have hbRr := hcr.keep hbR3 (by simp)
      have HIN : Hid (i = n) := hnl
      clear hit hnl
      obtain ⟨c0, c1, c2, c3, c4, c5, c6⟩ := cells7 hbMr
      obtain ⟨d0, d1, d2, d3, d4, d5, d6⟩ := cells7 hbRr
      obtain ⟨f0, f1, f2, f3, f4, f5, f6⟩ := frees7 hbRr
      go_wp2
      have hW := heap_set7 (v0 := .bool false) (v1 := .bool ret) (v2 := .int .u8 qos) (v3 := .int .u32 0) (v4 := .slice o1 i o2) (v5 := .string tp) (v6 := .string py) hbRr
      have hk7 : Ch [w.heap.size + 1] wr (((((((wr.setCell ⟨w.heap.size + 1, 0, none⟩ (.bool false)).setCell ⟨w.heap.size + 1, 1, none⟩ (.bool ret)).setCell ⟨w.heap.size + 1, 2, none⟩ (.int .u8 qos)).setCell ⟨w.heap.size + 1, 3, none⟩ (.int .u32 0)).setCell ⟨w.heap.size + 1, 4, none⟩ (.slice o1 i o2)).setCell ⟨w.heap.size + 1, 5, none⟩ (.string tp)).setCell ⟨w.heap.size + 1, 6, none⟩ (.string py)) := (Ch.refl _ wr).set7 (b := w.heap.size + 1) (v0 := .bool false) (v1 := .bool ret) (v2 := .int .u8 qos) (v3 := .int .u32 0) (v4 := .slice o1 i o2) (v5 := .string tp) (v6 := .string py) (.inl (by simp))
      clear c0 c1 c2 c3 c4 c5 c6 d0 d1 d2 d3 d4 d5 d6 f0 f1 f2 f3 f4 f5 f6
      generalize (((((((wr.setCell ⟨w.heap.size + 1, 0, none⟩ (.bool false)).setCell ⟨w.heap.size + 1, 1, none⟩ (.bool ret)).setCell ⟨w.heap.size + 1, 2, none⟩ (.int .u8 qos)).setCell ⟨w.heap.size + 1, 3, none⟩ (.int .u32 0)).setCell ⟨w.heap.size + 1, 4, none⟩ (.slice o1 i o2)).setCell ⟨w.heap.size + 1, 5, none⟩ (.string tp)).setCell ⟨w.heap.size + 1, 6, none⟩ (.string py)) = w7 at hW hk7 ⊢
      obtain ⟨q0, q1, q2, q3, q4, q5, q6⟩ := cells7 hW
      refine bodyPost_ret (v := .agg #[.bool false, .bool ret, .int .u8 qos, .int .u32 0, .slice o1 i o2, .string tp, .string py]) (by simp [results, Tryd.f41, go_sem, q0, q1, q2, q3, q4, q5, q6]) rfl ?_
      refine ⟨_, rfl, .slice o1 i o2, rfl, ?_, (hc3.thenNil hcr).trans hk7 (fun x hx => .inr (by simp only [List.mem_singleton] at hx; omega))⟩
      rw [← HN.out, ← HIN.out]
      exact row_base (row_keep hrow hk7 (fun b hb => by have := (ownBlock_lt hrow hb).1; simp only [List.mem_singleton]; omega)) (by omega)

end Go.Proofs.YticfeikmdfijiaaDoor
