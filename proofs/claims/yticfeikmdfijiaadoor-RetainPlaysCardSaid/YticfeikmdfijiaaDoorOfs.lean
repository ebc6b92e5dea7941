/- retain.Of, and the document's. -/
import Derived.Test.YticfeikmdfijiaaDoorRefs
namespace Go.Proofs.YticfeikmdfijiaaDoor
open Go Go.RowKit

/-- A publish. -/
structure PubR where
  dup : Bool
  ret : Bool
  qos : Int
  id : Int
  props : List PropR
  topic : ByteArray
  payload : ByteArray
def PubR.v (p : PubR) (pv : Value) : Value := .agg #[.bool p.dup, .bool p.ret, .int .u8 p.qos, .int .u32 p.id, pv, .string p.topic, .string p.payload]
def PubR.cells (p : PubR) (pv : Value) : List Value := [.bool p.dup, .bool p.ret, .int .u8 p.qos, .int .u32 p.id, pv, .string p.topic, .string p.payload]

def passP (p : PropR) : Bool := !(p.id == 35) && !(p.id == 11)
def ofS (p : PubR) (name from_ : ByteArray) (now : Int) : MsgR := ⟨from_, now, p.qos, p.ret, p.props.filter passP, name, p.payload⟩

set_option maxHeartbeats 4000000 in
theorem of_call (w : World) (p : PubR) (pp : Value) (name from_ : ByteArray) (now : Int) (h : ArgSl w pp p.props) (hl : p.props.length ≤ 100000) :
    Gives Tryd.prog 33 #[p.v pp, .string name, .string from_, .int .i64 now] w fun r w' => ∃ pv', r = (ofS p name from_ now).v pv' ∧ w'.ownsRow w.heap.size 62 4 pv' (p.props.filter passP).length ((p.props.filter passP).flatMap PropR.cells) ∧ Ch [] w w' := by
  obtain ⟨dup, pret, pqos, pid, l, ptp, ppy⟩ := p
  simp only at h hl
  obtain ⟨n, hn⟩ : ∃ n, n = l.length := ⟨_, rfl⟩
  obtain ⟨ao, cap, hv⟩ := h.shape'
  rw [← hn] at hv hl
  subst hv
  have HN : Hid (n = l.length) := hn
  clear hn
  have hc2 : Ch [] w ((w.alloc (.cells #[.bool dup, .bool pret, .int .u8 pqos, .int .u32 pid, .slice ao n cap, .string ptp, .string ppy] 29)).alloc (.cells #[.string ⟨#[]⟩, .int .i64 0, .int .u8 0, .bool false, .slice none 0 0, .string ⟨#[]⟩, .string ⟨#[]⟩] 58)) := ((Ch.refl [] w).alloc _).alloc _
  have hbP := heap_old (heap_new w (.cells #[.bool dup, .bool pret, .int .u8 pqos, .int .u32 pid, .slice ao n cap, .string ptp, .string ppy] 29)) (.cells #[.string ⟨#[]⟩, .int .i64 0, .int .u8 0, .bool false, .slice none 0 0, .string ⟨#[]⟩, .string ⟨#[]⟩] 58)
  have hbR := heap_new (w.alloc (.cells #[.bool dup, .bool pret, .int .u8 pqos, .int .u32 pid, .slice ao n cap, .string ptp, .string ppy] 29)) (.cells #[.string ⟨#[]⟩, .int .i64 0, .int .u8 0, .bool false, .slice none 0 0, .string ⟨#[]⟩, .string ⟨#[]⟩] 58)
  have e1 : (w.alloc (.cells #[.bool dup, .bool pret, .int .u8 pqos, .int .u32 pid, .slice ao n cap, .string ptp, .string ppy] 29)).heap.size = w.heap.size + 1 := by simp
  rw [e1] at hbR
  simp only [PubR.v]
  go_enter Tryd.func33, Tryd.ntmps33
  go_upto_region 1 with fail
  have e2 : (((w.alloc (.cells #[.bool dup, .bool pret, .int .u8 pqos, .int .u32 pid, .slice ao n cap, .string ptp, .string ppy] 29)).alloc (.cells #[.string ⟨#[]⟩, .int .i64 0, .int .u8 0, .bool false, .slice none 0 0, .string ⟨#[]⟩, .string ⟨#[]⟩] 58))).heap.size = w.heap.size + 2 := by simp
  clear e1
  generalize ((w.alloc (.cells #[.bool dup, .bool pret, .int .u8 pqos, .int .u32 pid, .slice ao n cap, .string ptp, .string ppy] 29)).alloc (.cells #[.string ⟨#[]⟩, .int .i64 0, .int .u8 0, .bool false, .slice none 0 0, .string ⟨#[]⟩, .string ⟨#[]⟩] 58)) = w2 at hc2 hbP hbR e2 ⊢
  have hsz : w.heap.size + 2 ≤ w2.heap.size := by omega
  have hsz3 : w2.heap.size ≤ w.heap.size + 2 := by omega
  clear e2
  have hpl2 := lt_of_heap hbP
  have hrl2 := lt_of_heap hbR
  obtain ⟨c0, c1, c2, c3, c4, c5, c6⟩ := cells7 hbP
  go_wp2_with fail
  clear c0 c1 c2 c3 c4 c5 c6
  go_loopw [9, 15] (fun v9 v15 wr => ∃ (i : Nat) (o1 : Option Addr) (o2 : Nat), v15 = .int .i64 i ∧ v9 = .slice o1 ((l.take i).filter passP).length o2 ∧ i ≤ n ∧
      wr.ownsRow (w.heap.size + 2) 62 4 (.slice o1 ((l.take i).filter passP).length o2) ((l.take i).filter passP).length (((l.take i).filter passP).flatMap PropR.cells) ∧ Ch [] w2 wr)
    (fun _ v15 _ => match v15 with | .int _ x => n - x.toNat | _ => 0)
  case atStart =>
    exact ⟨0, none, 0, rfl, rfl, by omega, ⟨rfl, .inl ⟨rfl, rfl⟩⟩, Ch.refl _ _⟩
  case round =>
    obtain ⟨i, o1, o2, rfl, hv9, hin, hrow, hcr⟩ := hrel
    have hki : ((l.take i).filter passP).length ≤ i := Nat.le_trans (List.length_filter_le _ _) (List.length_take_le _ _)
    obtain ⟨k, hk⟩ : ∃ k, k = ((l.take i).filter passP).length := ⟨_, rfl⟩
    rw [← hk] at hv9 hrow hki
    subst hv9
    have HK : Hid (k = ((l.take i).filter passP).length) := hk
    clear hk
    by_cases hi : i < n
    · have hlt : decide ((i : Int) < (n : Int)) = true := by simpa using hi
      have hil : i < l.length := by have := HN.out; omega
      have hp : l[i]? = some l[i] := List.getElem?_eq_getElem hil
      obtain ⟨b, o, cap', hsv, e0, e1, e2, e3⟩ := ((h.keep hc2).keep hcr).elem hp
      cases hsv
      generalize hpp : l[i] = q at hp e0 e1 e2 e3
      obtain ⟨xid, xn, xs, xt⟩ := q
      simp only at e0 e1 e2 e3
      have HS : Hid ((l.take (i + 1)).filter passP = (l.take i).filter passP ++ if passP ⟨xid, xn, xs, xt⟩ = true then [⟨xid, xn, xs, xt⟩] else []) := by
        show _ = _
        rw [take_snoc hp, List.filter_append, List.filter_cons, List.filter_nil]
      clear hp hpp
      have hcB : Ch [] wr (wr.alloc (.cells #[.int .i64 xid, .int .u32 xn, .string xs, .string xt] 62)) := (Ch.refl [] wr).alloc _
      have hbB := heap_new wr (.cells #[.int .i64 xid, .int .u32 xn, .string xs, .string xt] 62)
      by_cases h35 : xid = 35
      · subst h35
        go_wp2
        have hs : (l.take (i + 1)).filter passP = (l.take i).filter passP := by rw [HS.out]; simp [passP]
        refine ⟨⟨i + 1, o1, o2, by simp, by rw [hs, ← HK.out], by omega, by rw [hs, ← HK.out]; exact row_keep hrow hcB (by simp), hcr.thenNil hcB⟩, by simp; omega⟩
      · have e35 : (xid == 35) = false := by simpa using h35
        by_cases h11 : xid = 11
        · subst h11
          go_wp2
          have hs : (l.take (i + 1)).filter passP = (l.take i).filter passP := by rw [HS.out]; simp [passP]
          refine ⟨⟨i + 1, o1, o2, by simp, by rw [hs, ← HK.out], by omega, by rw [hs, ← HK.out]; exact row_keep hrow hcB (by simp), hcr.thenNil hcB⟩, by simp; omega⟩
        · have e11 : (xid == 11) = false := by simpa using h11
          have HIF : Hid (passP ⟨xid, xn, xs, xt⟩ = true) := by show passP _ = true; simp [passP, e35, e11]
          clear h35 h11
          have d35 : ¬ xid = 35 := by simpa using e35
          have d11 : ¬ xid = 11 := by simpa using e11
          have b35 : (xid != 35) = true := by simpa using d35
          have b11 : (xid != 11) = true := by simpa using d11
          go_upto_region 6 with fail
          generalize wr.alloc (.cells #[.int .i64 xid, .int .u32 xn, .string xs, .string xt] 62) = w3 at hcB hbB ⊢
          obtain ⟨k0, k1, k2, k3⟩ := cells4 hbB
          have hxs := sl_new w3 [.int .i64 xid, .int .u32 xn, .string xs, .string xt] 62 4 1 rfl (le_maxLen (by omega))
          have hcA := (Ch.refl [] w3).alloc (Obj.cells [.int .i64 xid, .int .u32 xn, .string xs, .string xt].toArray 62)
          have hrA := row_keep (row_keep hrow hcB (by simp)) hcA (by simp)
          have q1 : k + 1 ≤ maxLen := le_maxLen (by omega)
          have q2 : (k + 1) * 48 ≤ 140737488355328 := by omega
          have q3 : w.heap.size + 2 ≤ _ := Nat.le_trans (Nat.le_trans hsz (Nat.le_trans hcr.size hcB.size)) hcA.size
          have q4 : ∀ u ∈ ([.int .i64 xid, .int .u32 xn, .string xs, .string xt] : List Value), u.oneCell' = true := by simp [Value.oneCell']
          go_wp2_with (at_builtin; refine wl_app rfl (.tmp 27) (.tmp 29) elProp rfl hrA rfl hxs rfl q4 q1 q2 q3 ?_; intro v' w7 hr7 hg7 hnil7 hor7; obtain ⟨e1, e2, rfl⟩ := row_shape hr7)
          have hs : (l.take (i + 1)).filter passP = (l.take i).filter passP ++ [⟨xid, xn, xs, xt⟩] := by rw [HS.out, if_pos HIF.out]
          have hs2 : ((l.take (i + 1)).filter passP).length = k + 1 := by rw [hs, List.length_append, ← HK.out]; rfl
          refine ⟨⟨i + 1, e1, e2, by simp, by rw [hs2], by omega, ?_, ((hcr.thenNil hcB).thenNil hcA).trans (Ch.ofGrown hg7) (fun b hb => .inr (by have := (ownBlock_lt hrA (by simpa using hb)).1; omega))⟩, by simp; omega⟩
          rw [hs2, hs]
          simpa [PropR.cells] using hr7
    · have hlt : decide ((i : Int) < (n : Int)) = false := by simpa using hi
      have hit : l.take i = l := List.take_of_length_le (by have := HN.out; omega)
      rw [hit] at HK hrow
      have hbPr := hcr.keep hbP (by simp)
      have hbRr := hcr.keep hbR (by simp)
      obtain ⟨c0, c1, c2, c3, c4, c5, c6⟩ := cells7 hbPr
      obtain ⟨d0, d1, d2, d3, d4, d5, d6⟩ := cells7 hbRr
      obtain ⟨f0, f1, f2, f3, f4, f5, f6⟩ := frees7 hbRr
      go_wp2
      have hW := heap_set7 (v0 := .string from_) (v1 := .int .i64 now) (v2 := .int .u8 pqos) (v3 := .bool pret) (v4 := .slice o1 k o2) (v5 := .string name) (v6 := .string ppy) hbRr
      have hk7 : Ch [w.heap.size + 1] wr (((((((wr.setCell ⟨w.heap.size + 1, 0, none⟩ (.string from_)).setCell ⟨w.heap.size + 1, 1, none⟩ (.int .i64 now)).setCell ⟨w.heap.size + 1, 2, none⟩ (.int .u8 pqos)).setCell ⟨w.heap.size + 1, 3, none⟩ (.bool pret)).setCell ⟨w.heap.size + 1, 4, none⟩ (.slice o1 k o2)).setCell ⟨w.heap.size + 1, 5, none⟩ (.string name)).setCell ⟨w.heap.size + 1, 6, none⟩ (.string ppy)) := (Ch.refl _ wr).set7 (b := w.heap.size + 1) (v0 := .string from_) (v1 := .int .i64 now) (v2 := .int .u8 pqos) (v3 := .bool pret) (v4 := .slice o1 k o2) (v5 := .string name) (v6 := .string ppy) (.inl (by simp))
      clear c0 c1 c2 c3 c4 c5 c6 d0 d1 d2 d3 d4 d5 d6 f0 f1 f2 f3 f4 f5 f6
      generalize (((((((wr.setCell ⟨w.heap.size + 1, 0, none⟩ (.string from_)).setCell ⟨w.heap.size + 1, 1, none⟩ (.int .i64 now)).setCell ⟨w.heap.size + 1, 2, none⟩ (.int .u8 pqos)).setCell ⟨w.heap.size + 1, 3, none⟩ (.bool pret)).setCell ⟨w.heap.size + 1, 4, none⟩ (.slice o1 k o2)).setCell ⟨w.heap.size + 1, 5, none⟩ (.string name)).setCell ⟨w.heap.size + 1, 6, none⟩ (.string ppy)) = w7 at hW hk7 ⊢
      obtain ⟨q0, q1, q2, q3, q4, q5, q6⟩ := cells7 hW
      refine bodyPost_ret (v := .agg #[.string from_, .int .i64 now, .int .u8 pqos, .bool pret, .slice o1 k o2, .string name, .string ppy]) (by simp [results, Tryd.f33, go_sem, q0, q1, q2, q3, q4, q5, q6]) rfl ?_
      refine ⟨_, rfl, .slice o1 k o2, rfl, ?_, (hc2.thenNil hcr).trans hk7 (fun x hx => .inr (by simp only [List.mem_singleton] at hx; omega))⟩
      rw [← HK.out]
      exact row_base (row_keep hrow hk7 (fun b hb => by have := (ownBlock_lt hrow hb).1; simp only [List.mem_singleton]; omega)) (by omega)

set_option maxHeartbeats 4000000 in
theorem rof_call (w : World) (p : PubR) (pp : Value) (name from_ : ByteArray) (now : Int) (h : ArgSl w pp p.props) (hl : p.props.length ≤ 100000) :
    Gives Tryd.prog 37 #[p.v pp, .string name, .string from_, .int .i64 now] w fun r w' => ∃ pv', r = (ofS p name from_ now).v pv' ∧ w'.ownsRow w.heap.size 150 4 pv' (p.props.filter passP).length ((p.props.filter passP).flatMap PropR.cells) ∧ Ch [] w w' := by
  obtain ⟨dup, pret, pqos, pid, l, ptp, ppy⟩ := p
  simp only at h hl
  obtain ⟨n, hn⟩ : ∃ n, n = l.length := ⟨_, rfl⟩
  obtain ⟨ao, cap, hv⟩ := h.shape'
  rw [← hn] at hv hl
  subst hv
  have HN : Hid (n = l.length) := hn
  clear hn
  have hc2 : Ch [] w ((w.alloc (.cells #[.bool dup, .bool pret, .int .u8 pqos, .int .u32 pid, .slice ao n cap, .string ptp, .string ppy] 89)).alloc (.cells #[.string ⟨#[]⟩, .int .i64 0, .int .u8 0, .bool false, .slice none 0 0, .string ⟨#[]⟩, .string ⟨#[]⟩] 84)) := ((Ch.refl [] w).alloc _).alloc _
  have hbP := heap_old (heap_new w (.cells #[.bool dup, .bool pret, .int .u8 pqos, .int .u32 pid, .slice ao n cap, .string ptp, .string ppy] 89)) (.cells #[.string ⟨#[]⟩, .int .i64 0, .int .u8 0, .bool false, .slice none 0 0, .string ⟨#[]⟩, .string ⟨#[]⟩] 84)
  have hbR := heap_new (w.alloc (.cells #[.bool dup, .bool pret, .int .u8 pqos, .int .u32 pid, .slice ao n cap, .string ptp, .string ppy] 89)) (.cells #[.string ⟨#[]⟩, .int .i64 0, .int .u8 0, .bool false, .slice none 0 0, .string ⟨#[]⟩, .string ⟨#[]⟩] 84)
  have e1 : (w.alloc (.cells #[.bool dup, .bool pret, .int .u8 pqos, .int .u32 pid, .slice ao n cap, .string ptp, .string ppy] 89)).heap.size = w.heap.size + 1 := by simp
  rw [e1] at hbR
  simp only [PubR.v]
  go_enter Tryd.func37, Tryd.ntmps37
  go_upto_region 1 with fail
  have e2 : (((w.alloc (.cells #[.bool dup, .bool pret, .int .u8 pqos, .int .u32 pid, .slice ao n cap, .string ptp, .string ppy] 89)).alloc (.cells #[.string ⟨#[]⟩, .int .i64 0, .int .u8 0, .bool false, .slice none 0 0, .string ⟨#[]⟩, .string ⟨#[]⟩] 84))).heap.size = w.heap.size + 2 := by simp
  clear e1
  generalize ((w.alloc (.cells #[.bool dup, .bool pret, .int .u8 pqos, .int .u32 pid, .slice ao n cap, .string ptp, .string ppy] 89)).alloc (.cells #[.string ⟨#[]⟩, .int .i64 0, .int .u8 0, .bool false, .slice none 0 0, .string ⟨#[]⟩, .string ⟨#[]⟩] 84)) = w2 at hc2 hbP hbR e2 ⊢
  have hsz : w.heap.size + 2 ≤ w2.heap.size := by omega
  have hsz3 : w2.heap.size ≤ w.heap.size + 2 := by omega
  clear e2
  have hpl2 := lt_of_heap hbP
  have hrl2 := lt_of_heap hbR
  obtain ⟨c0, c1, c2, c3, c4, c5, c6⟩ := cells7 hbP
  go_wp2_with fail
  clear c0 c1 c2 c3 c4 c5 c6
  go_loopw [9, 16] (fun v9 v16 wr => ∃ (i : Nat) (o1 : Option Addr) (o2 : Nat), v16 = .int .i64 i ∧ v9 = .slice o1 ((l.take i).filter passP).length o2 ∧ i ≤ n ∧
      wr.ownsRow (w.heap.size + 2) 150 4 (.slice o1 ((l.take i).filter passP).length o2) ((l.take i).filter passP).length (((l.take i).filter passP).flatMap PropR.cells) ∧ Ch [] w2 wr)
    (fun _ v16 _ => match v16 with | .int _ x => n - x.toNat | _ => 0)
  case atStart =>
    exact ⟨0, some ⟨w2.heap.size, 0, none⟩, 0, rfl, rfl, by omega, ⟨rfl, .inr ⟨w2.heap.size, 0, #[], rfl, hsz, heap_new w2 _, by simp, by decide, rfl, rfl⟩⟩, (Ch.refl [] w2).alloc _⟩
  case round =>
    obtain ⟨i, o1, o2, rfl, hv9, hin, hrow, hcr⟩ := hrel
    have hki : ((l.take i).filter passP).length ≤ i := Nat.le_trans (List.length_filter_le _ _) (List.length_take_le _ _)
    obtain ⟨k, hk⟩ : ∃ k, k = ((l.take i).filter passP).length := ⟨_, rfl⟩
    rw [← hk] at hv9 hrow hki
    subst hv9
    have HK : Hid (k = ((l.take i).filter passP).length) := hk
    clear hk
    by_cases hi : i < n
    · have hlt : decide ((i : Int) < (n : Int)) = true := by simpa using hi
      have hil : i < l.length := by have := HN.out; omega
      have hp : l[i]? = some l[i] := List.getElem?_eq_getElem hil
      obtain ⟨b, o, cap', hsv, e0, e1, e2, e3⟩ := ((h.keep hc2).keep hcr).elem hp
      cases hsv
      generalize hpp : l[i] = q at hp e0 e1 e2 e3
      obtain ⟨xid, xn, xs, xt⟩ := q
      simp only at e0 e1 e2 e3
      have HS : Hid ((l.take (i + 1)).filter passP = (l.take i).filter passP ++ if passP ⟨xid, xn, xs, xt⟩ = true then [⟨xid, xn, xs, xt⟩] else []) := by
        show _ = _
        rw [take_snoc hp, List.filter_append, List.filter_cons, List.filter_nil]
      clear hp hpp
      have hcB : Ch [] wr (wr.alloc (.cells #[.int .i64 xid, .int .u32 xn, .string xs, .string xt] 150)) := (Ch.refl [] wr).alloc _
      have hbB := heap_new wr (.cells #[.int .i64 xid, .int .u32 xn, .string xs, .string xt] 150)
      by_cases h35 : xid = 35
      · subst h35
        go_wp2
        have hs : (l.take (i + 1)).filter passP = (l.take i).filter passP := by rw [HS.out]; simp [passP]
        refine ⟨⟨i + 1, o1, o2, by simp, by rw [hs, ← HK.out], by omega, by rw [hs, ← HK.out]; exact row_keep hrow hcB (by simp), hcr.thenNil hcB⟩, by simp; omega⟩
      · have e35 : (xid == 35) = false := by simpa using h35
        by_cases h11 : xid = 11
        · subst h11
          go_wp2
          have hs : (l.take (i + 1)).filter passP = (l.take i).filter passP := by rw [HS.out]; simp [passP]
          refine ⟨⟨i + 1, o1, o2, by simp, by rw [hs, ← HK.out], by omega, by rw [hs, ← HK.out]; exact row_keep hrow hcB (by simp), hcr.thenNil hcB⟩, by simp; omega⟩
        · have e11 : (xid == 11) = false := by simpa using h11
          have HIF : Hid (passP ⟨xid, xn, xs, xt⟩ = true) := by show passP _ = true; simp [passP, e35, e11]
          clear h35 h11
          have d35 : ¬ xid = 35 := by simpa using e35
          have d11 : ¬ xid = 11 := by simpa using e11
          have b35 : (xid != 35) = true := by simpa using d35
          have b11 : (xid != 11) = true := by simpa using d11
          go_upto_region 6 with fail
          generalize wr.alloc (.cells #[.int .i64 xid, .int .u32 xn, .string xs, .string xt] 150) = w3 at hcB hbB ⊢
          obtain ⟨k0, k1, k2, k3⟩ := cells4 hbB
          have hxs := sl_new w3 [.int .i64 xid, .int .u32 xn, .string xs, .string xt] 150 4 1 rfl (le_maxLen (by omega))
          have hcA := (Ch.refl [] w3).alloc (Obj.cells [.int .i64 xid, .int .u32 xn, .string xs, .string xt].toArray 150)
          have hrA := row_keep (row_keep hrow hcB (by simp)) hcA (by simp)
          have q1 : k + 1 ≤ maxLen := le_maxLen (by omega)
          have q2 : (k + 1) * 48 ≤ 140737488355328 := by omega
          have q3 : w.heap.size + 2 ≤ _ := Nat.le_trans (Nat.le_trans hsz (Nat.le_trans hcr.size hcB.size)) hcA.size
          have q4 : ∀ u ∈ ([.int .i64 xid, .int .u32 xn, .string xs, .string xt] : List Value), u.oneCell' = true := by simp [Value.oneCell']
          go_wp2_with (at_builtin; refine wl_app rfl (.tmp 28) (.tmp 30) elR3 rfl hrA rfl hxs rfl q4 q1 q2 q3 ?_; intro v' w7 hr7 hg7 hnil7 hor7; obtain ⟨e1, e2, rfl⟩ := row_shape hr7)
          have hs : (l.take (i + 1)).filter passP = (l.take i).filter passP ++ [⟨xid, xn, xs, xt⟩] := by rw [HS.out, if_pos HIF.out]
          have hs2 : ((l.take (i + 1)).filter passP).length = k + 1 := by rw [hs, List.length_append, ← HK.out]; rfl
          refine ⟨⟨i + 1, e1, e2, by simp, by rw [hs2], by omega, ?_, ((hcr.thenNil hcB).thenNil hcA).trans (Ch.ofGrown hg7) (fun b hb => .inr (by have := (ownBlock_lt hrA (by simpa using hb)).1; omega))⟩, by simp; omega⟩
          rw [hs2, hs]
          simpa [PropR.cells] using hr7
    · have hlt : decide ((i : Int) < (n : Int)) = false := by simpa using hi
      have hit : l.take i = l := List.take_of_length_le (by have := HN.out; omega)
      rw [hit] at HK hrow
      have hbPr := hcr.keep hbP (by simp)
      have hbRr := hcr.keep hbR (by simp)
      obtain ⟨c0, c1, c2, c3, c4, c5, c6⟩ := cells7 hbPr
      obtain ⟨d0, d1, d2, d3, d4, d5, d6⟩ := cells7 hbRr
      obtain ⟨f0, f1, f2, f3, f4, f5, f6⟩ := frees7 hbRr
      go_wp2
      have hW := heap_set7 (v0 := .string from_) (v1 := .int .i64 now) (v2 := .int .u8 pqos) (v3 := .bool pret) (v4 := .slice o1 k o2) (v5 := .string name) (v6 := .string ppy) hbRr
      have hk7 : Ch [w.heap.size + 1] wr (((((((wr.setCell ⟨w.heap.size + 1, 0, none⟩ (.string from_)).setCell ⟨w.heap.size + 1, 1, none⟩ (.int .i64 now)).setCell ⟨w.heap.size + 1, 2, none⟩ (.int .u8 pqos)).setCell ⟨w.heap.size + 1, 3, none⟩ (.bool pret)).setCell ⟨w.heap.size + 1, 4, none⟩ (.slice o1 k o2)).setCell ⟨w.heap.size + 1, 5, none⟩ (.string name)).setCell ⟨w.heap.size + 1, 6, none⟩ (.string ppy)) := (Ch.refl _ wr).set7 (b := w.heap.size + 1) (v0 := .string from_) (v1 := .int .i64 now) (v2 := .int .u8 pqos) (v3 := .bool pret) (v4 := .slice o1 k o2) (v5 := .string name) (v6 := .string ppy) (.inl (by simp))
      clear c0 c1 c2 c3 c4 c5 c6 d0 d1 d2 d3 d4 d5 d6 f0 f1 f2 f3 f4 f5 f6
      generalize (((((((wr.setCell ⟨w.heap.size + 1, 0, none⟩ (.string from_)).setCell ⟨w.heap.size + 1, 1, none⟩ (.int .i64 now)).setCell ⟨w.heap.size + 1, 2, none⟩ (.int .u8 pqos)).setCell ⟨w.heap.size + 1, 3, none⟩ (.bool pret)).setCell ⟨w.heap.size + 1, 4, none⟩ (.slice o1 k o2)).setCell ⟨w.heap.size + 1, 5, none⟩ (.string name)).setCell ⟨w.heap.size + 1, 6, none⟩ (.string ppy)) = w7 at hW hk7 ⊢
      obtain ⟨q0, q1, q2, q3, q4, q5, q6⟩ := cells7 hW
      refine bodyPost_ret (v := .agg #[.string from_, .int .i64 now, .int .u8 pqos, .bool pret, .slice o1 k o2, .string name, .string ppy]) (by simp [results, Tryd.f37, go_sem, q0, q1, q2, q3, q4, q5, q6]) rfl ?_
      refine ⟨_, rfl, .slice o1 k o2, rfl, ?_, (hc2.thenNil hcr).trans hk7 (fun x hx => .inr (by simp only [List.mem_singleton] at hx; omega))⟩
      rw [← HK.out]
      exact row_base (row_keep hrow hk7 (fun b hb => by have := (ownBlock_lt hrow hb).1; simp only [List.mem_singleton]; omega)) (by omega)

end Go.Proofs.YticfeikmdfijiaaDoor
