/- A message as a publish. -/
import Derived.Test.YticfeikmdfijiaaDoorFew
namespace Go.Proofs.YticfeikmdfijiaaDoor
open Go Go.RowKit

theorem row_set {w : World} {base e size n g cap : Nat} {xs : List Value} (h : w.ownsRow base e size (.slice (some ⟨g, 0, none⟩) n cap) n xs) (i : Nat) (u : Value) :
    (w.setCell ⟨g, i, none⟩ u).ownsRow base e size (.slice (some ⟨g, 0, none⟩) n cap) n (xs.set i u) := by
  obtain ⟨h1, h2⟩ := h
  refine ⟨by simpa using h1, ?_⟩
  rcases h2 with ⟨h3, _⟩ | ⟨g', cap', cur, hv, hgb, hg, hnc, hcm, hcs, htake⟩
  · cases h3
  · cases hv
    refine .inr ⟨g, cap, cur.setIfInBounds i u, rfl, hgb, heap_setCell_at hg u, hnc, hcm, by simpa using hcs, ?_⟩
    rw [← htake, Array.toList_setIfInBounds, List.take_set]
theorem row_some {w : World} {base e size n n' cap : Nat} {ao : Option Addr} {xs : List Value} (h : w.ownsRow base e size (.slice ao n' cap) n xs) (hn : 0 < n) : ∃ g, ao = some ⟨g, 0, none⟩ ∧ n' = n ∧ base ≤ g := by
  rcases h.2 with ⟨_, h3⟩ | ⟨g', cap', cur, hv, hgb, hg, hnc, hcm, hcs, htake⟩
  · omega
  · cases hv
    exact ⟨g', rfl, rfl, hgb⟩
theorem flat_set (l : List PropR) (i : Nat) (p : PropR) (x : Int) (hp : l[i]? = some p) : (l.flatMap PropR.cells).set (i * 4 + 1) (.int .u32 x) = (l.set i ⟨p.id, x, p.s, p.t⟩).flatMap PropR.cells := by
  induction l generalizing i with
  | nil => simp at hp
  | cons q l ih =>
    cases i with
    | zero =>
      simp at hp
      subst hp
      rfl
    | succ i =>
      have h1 : (i + 1) * 4 + 1 = (i * 4 + 1) + 4 := by omega
      rw [h1]
      simp only [List.flatMap_cons, List.set_cons_succ, PropR.cells, List.cons_append, List.nil_append]
      rw [← ih i (by simpa using hp)]
theorem set_same {α : Type} {l : List α} {i : Nat} {x : α} (h : l[i]? = some x) : l.set i x = l := by
  obtain ⟨h1, h2⟩ := List.getElem?_eq_some_iff.1 h
  rw [← h2, List.set_getElem_self]
def clampU (x : Int) : Int := max 0 (min x 4294967295)
def pubP (x : Int) (q : PropR) : PropR := if q.id = 2 then ⟨q.id, clampU x, q.s, q.t⟩ else q
def pubPs (m : MsgR) (now : Int) : List PropR := if (leftS m now).2 = true then m.props.map (pubP (leftS m now).1) else m.props
theorem pubPs_length (m : MsgR) (now : Int) : (pubPs m now).length = m.props.length := by unfold pubPs; split <;> simp
theorem pub_step {l : List PropR} {i : Nat} {q : PropR} (x : Int) (h : l[i]? = some q) : ((l.take i).map (pubP x) ++ l.drop i)[i]? = some q ∧ (l.take (i + 1)).map (pubP x) ++ l.drop (i + 1) = ((l.take i).map (pubP x) ++ l.drop i).set i (pubP x q) := by
  have hi := (List.getElem?_eq_some_iff.1 h).1
  have hl : ((l.take i).map (pubP x)).length = i := by simp; omega
  have hd : l.drop i = q :: l.drop (i + 1) := by rw [List.drop_eq_getElem_cons hi, (List.getElem?_eq_some_iff.1 h).2]
  constructor
  · rw [List.getElem?_append_right (by omega), hl, hd]; simp
  · rw [List.set_append_right _ _ (by omega), hl, hd, take_snoc h]; simp

set_option maxHeartbeats 4000000 in
theorem pub_call (w : World) (m : MsgR) (pv : Value) (now : Int) (h : MsgAt w m pv) (n0 : 0 ≤ now) (n1 : now ≤ 1000000) :
    Gives Tryd.prog 31 #[m.v pv, .int .i64 now] w fun r w' => ∃ pv', r = .agg #[.bool false, .bool m.ret, .int .u8 m.qos, .int .u32 0, pv', .string m.topic, .string m.payload] ∧ (w'.ownsRow w.heap.size 62 4 pv' m.props.length ((pubPs m now).flatMap PropR.cells) ∨ m.props.length = 0) ∧ Sl w' pv' 4 m.props.length ((pubPs m now).flatMap PropR.cells) ∧ Ch [] w w' := by
  obtain ⟨p1, p3, hpv⟩ := h.sl.shape'
  obtain ⟨fr, at_, qos, ret, props, topic, payload⟩ := m
  simp only at hpv
  generalize hp2 : props.length = p2 at hpv
  subst hpv
  simp only [MsgR.v]
  have hc0 : Ch [] w ((w.alloc (.cells #[.string fr, .int .i64 at_, .int .u8 qos, .bool ret, .slice p1 p2 p3, .string topic, .string payload] 58)).alloc (.cells #[.bool false, .bool false, .int .u8 0, .int .u32 0, .slice none 0 0, .string ⟨#[]⟩, .string ⟨#[]⟩] 29)) := ((Ch.refl [] w).alloc _).alloc _
  have hb0 := heap_old (heap_new w (.cells #[.string fr, .int .i64 at_, .int .u8 qos, .bool ret, .slice p1 p2 p3, .string topic, .string payload] 58)) (.cells #[.bool false, .bool false, .int .u8 0, .int .u32 0, .slice none 0 0, .string ⟨#[]⟩, .string ⟨#[]⟩] 29)
  have hz0 := heap_new (w.alloc (.cells #[.string fr, .int .i64 at_, .int .u8 qos, .bool ret, .slice p1 p2 p3, .string topic, .string payload] 58)) (.cells #[.bool false, .bool false, .int .u8 0, .int .u32 0, .slice none 0 0, .string ⟨#[]⟩, .string ⟨#[]⟩] 29)
  have e1 : (w.alloc (.cells #[.string fr, .int .i64 at_, .int .u8 qos, .bool ret, .slice p1 p2 p3, .string topic, .string payload] 58)).heap.size = w.heap.size + 1 := by simp
  have e2 : ((w.alloc (.cells #[.string fr, .int .i64 at_, .int .u8 qos, .bool ret, .slice p1 p2 p3, .string topic, .string payload] 58)).alloc (.cells #[.bool false, .bool false, .int .u8 0, .int .u32 0, .slice none 0 0, .string ⟨#[]⟩, .string ⟨#[]⟩] 29)).heap.size = w.heap.size + 2 := by simp
  rw [e1] at hz0
  go_enter Tryd.func31, Tryd.ntmps31
  go_wp2
  generalize (w.alloc (.cells #[.string fr, .int .i64 at_, .int .u8 qos, .bool ret, .slice p1 p2 p3, .string topic, .string payload] 58)).alloc (.cells #[.bool false, .bool false, .int .u8 0, .int .u32 0, .slice none 0 0, .string ⟨#[]⟩, .string ⟨#[]⟩] 29) = w1 at hc0 hb0 hz0 e2 ⊢
  have h1 := h.keep hc0
  have s1 : Sl w1 (.slice p1 p2 p3) 4 p2 (props.flatMap PropR.cells) := by have := h1.sl; simp only at this; rwa [hp2] at this
  have q1 : p2 ≤ 1000000 := by have := h1.few; simp only at this; omega
  refine Code.wp_mono (Q := fun e a' w' => e = .normal ∧ ∃ b v1 v3, a' = ⟨#[.agg #[.string fr, .int .i64 at_, .int .u8 qos, .bool ret, .slice p1 p2 p3, .string topic, .string payload], .int .i64 now, .pointer (some ⟨w.heap.size, 0, none⟩), undef, .pointer (some ⟨w.heap.size + 1, 0, none⟩), .pointer (some ⟨b, 0, none⟩), undef, undef, undef, .pointer (some ⟨w.heap.size, 2, none⟩), .int .u8 qos, .pointer (some ⟨w.heap.size, 3, none⟩), .bool ret, .pointer (some ⟨w.heap.size, 5, none⟩), .string topic, .pointer (some ⟨w.heap.size, 6, none⟩), .string payload, .pointer (some ⟨w.heap.size, 4, none⟩), .slice p1 p2 p3, .slice v1 p2 v3, .agg #[.bool false, .bool ret, .int .u8 qos, .int .u32 0, .slice v1 p2 v3, .string topic, .string payload], undef, undef, undef, undef, undef, undef, undef, undef, undef, undef, undef, undef, undef, undef, undef, undef, undef, undef, undef, undef, undef, undef, undef, undef, undef, undef, undef, undef, undef, undef, undef], []⟩ ∧ w'.heap[b]? = some (.cells #[.bool false, .bool ret, .int .u8 qos, .int .u32 0, .slice v1 p2 v3, .string topic, .string payload] 29 (0, 0)) ∧ w.heap.size + 2 ≤ b ∧
      (w'.ownsRow (w.heap.size + 2) 62 4 (.slice v1 p2 v3) p2 (props.flatMap PropR.cells) ∨ p2 = 0) ∧ Sl w' (.slice v1 p2 v3) 4 p2 (props.flatMap PropR.cells) ∧ Ch [] w1 w') ?_ ?_
  · rintro e a' w2 ⟨rfl, b, v1, v3, rfl, hb2, hbge, hown, hsl, hc2⟩
    simp only [Exit.then, Exit.inBlock]
    have a0 : w2.cell? ⟨w.heap.size, 0, none⟩ = some (.string fr) := cell_of_heap (hc2.keep hb0 (by simp)) 0
    have a1 : w2.cell? ⟨w.heap.size, 1, none⟩ = some (.int .i64 at_) := cell_of_heap (hc2.keep hb0 (by simp)) 1
    have a2 : w2.cell? ⟨w.heap.size, 2, none⟩ = some (.int .u8 qos) := cell_of_heap (hc2.keep hb0 (by simp)) 2
    have a3 : w2.cell? ⟨w.heap.size, 3, none⟩ = some (.bool ret) := cell_of_heap (hc2.keep hb0 (by simp)) 3
    have a4 : w2.cell? ⟨w.heap.size, 4, none⟩ = some (.slice p1 p2 p3) := cell_of_heap (hc2.keep hb0 (by simp)) 4
    have a5 : w2.cell? ⟨w.heap.size, 5, none⟩ = some (.string topic) := cell_of_heap (hc2.keep hb0 (by simp)) 5
    have a6 : w2.cell? ⟨w.heap.size, 6, none⟩ = some (.string payload) := cell_of_heap (hc2.keep hb0 (by simp)) 6
    have hleft := left_call w2 ⟨fr, at_, qos, ret, props, topic, payload⟩ (.slice p1 p2 p3) now (h1.keep hc2) n0 n1
    simp only [MsgR.v] at hleft
    have hpl : pubPs ⟨fr, at_, qos, ret, props, topic, payload⟩ now = (if (leftS ⟨fr, at_, qos, ret, props, topic, payload⟩ now).2 = true then props.map (pubP (leftS ⟨fr, at_, qos, ret, props, topic, payload⟩ now).1) else props) := rfl
    generalize leftS ⟨fr, at_, qos, ret, props, topic, payload⟩ now = lf at hleft hpl
    obtain ⟨left, ok⟩ := lf
    simp only at hleft hpl
    go_wp2_with fail
    refine Calls.mono hleft ?_
    rintro e w3 ⟨v, rfl, rfl, hk3⟩
    have hb3 := hk3.keep hb2 (by simp)
    have hz3 := (hc2.thenNil hk3).keep hz0 (by simp)
    have hown3 := hown.imp (fun h => row_keep h hk3 (by simp)) id
    have hsl3 := hsl.keep hk3 (by simp)
    have hc3 : Ch [] w w3 := (hc0.thenNil hc2).thenNil hk3
    clear hleft a0 a1 a2 a3 a4 a5 a6 hk3 hown hsl hb2 hc2
    cases ok with
    | false =>
      have b0 : w3.cell? ⟨b, 0, none⟩ = some (.bool false) := cell_of_heap hb3 0
      have b1 : w3.cell? ⟨b, 1, none⟩ = some (.bool ret) := cell_of_heap hb3 1
      have b2 : w3.cell? ⟨b, 2, none⟩ = some (.int .u8 qos) := cell_of_heap hb3 2
      have b3 : w3.cell? ⟨b, 3, none⟩ = some (.int .u32 0) := cell_of_heap hb3 3
      have b4 : w3.cell? ⟨b, 4, none⟩ = some (.slice v1 p2 v3) := cell_of_heap hb3 4
      have b5 : w3.cell? ⟨b, 5, none⟩ = some (.string topic) := cell_of_heap hb3 5
      have b6 : w3.cell? ⟨b, 6, none⟩ = some (.string payload) := cell_of_heap hb3 6
      have z0 : w3.cell? ⟨w.heap.size + 1, 0, none⟩ = some (.bool false) := cell_of_heap hz3 0
      have zf0 : w3.frozen? ⟨w.heap.size + 1, 0, none⟩ = false := free_of_heap hz3 0
      have z1 : w3.cell? ⟨w.heap.size + 1, 1, none⟩ = some (.bool false) := cell_of_heap hz3 1
      have zf1 : w3.frozen? ⟨w.heap.size + 1, 1, none⟩ = false := free_of_heap hz3 1
      have z2 : w3.cell? ⟨w.heap.size + 1, 2, none⟩ = some (.int .u8 0) := cell_of_heap hz3 2
      have zf2 : w3.frozen? ⟨w.heap.size + 1, 2, none⟩ = false := free_of_heap hz3 2
      have z3 : w3.cell? ⟨w.heap.size + 1, 3, none⟩ = some (.int .u32 0) := cell_of_heap hz3 3
      have zf3 : w3.frozen? ⟨w.heap.size + 1, 3, none⟩ = false := free_of_heap hz3 3
      have z4 : w3.cell? ⟨w.heap.size + 1, 4, none⟩ = some (.slice none 0 0) := cell_of_heap hz3 4
      have zf4 : w3.frozen? ⟨w.heap.size + 1, 4, none⟩ = false := free_of_heap hz3 4
      have z5 : w3.cell? ⟨w.heap.size + 1, 5, none⟩ = some (.string ⟨#[]⟩) := cell_of_heap hz3 5
      have zf5 : w3.frozen? ⟨w.heap.size + 1, 5, none⟩ = false := free_of_heap hz3 5
      have z6 : w3.cell? ⟨w.heap.size + 1, 6, none⟩ = some (.string ⟨#[]⟩) := cell_of_heap hz3 6
      have zf6 : w3.frozen? ⟨w.heap.size + 1, 6, none⟩ = false := free_of_heap hz3 6
      go_wp2
      have hW := (heap_setCell_at (i := 6) (heap_setCell_at (i := 5) (heap_setCell_at (i := 4) (heap_setCell_at (i := 3) (heap_setCell_at (i := 2) (heap_setCell_at (i := 1) (heap_setCell_at (i := 0) hz3 (.bool false)) (.bool ret)) (.int .u8 qos)) (.int .u32 0)) (.slice v1 p2 v3)) (.string topic)) (.string payload))
      simp only [List.setIfInBounds_toArray, List.set_cons_zero, List.set_cons_succ] at hW
      have hcW := (((((((hc3.setCell ⟨w.heap.size + 1, 0, none⟩ (.bool false) (.inr (by simp))).setCell ⟨w.heap.size + 1, 1, none⟩ (.bool ret) (.inr (by simp))).setCell ⟨w.heap.size + 1, 2, none⟩ (.int .u8 qos) (.inr (by simp))).setCell ⟨w.heap.size + 1, 3, none⟩ (.int .u32 0) (.inr (by simp))).setCell ⟨w.heap.size + 1, 4, none⟩ (.slice v1 p2 v3) (.inr (by simp))).setCell ⟨w.heap.size + 1, 5, none⟩ (.string topic) (.inr (by simp))).setCell ⟨w.heap.size + 1, 6, none⟩ (.string payload) (.inr (by simp)))
      have hchW := ((((((((Ch.refl [w.heap.size + 1] w3).setCell ⟨w.heap.size + 1, 0, none⟩ (.bool false) (.inl (by simp))).setCell ⟨w.heap.size + 1, 1, none⟩ (.bool ret) (.inl (by simp))).setCell ⟨w.heap.size + 1, 2, none⟩ (.int .u8 qos) (.inl (by simp))).setCell ⟨w.heap.size + 1, 3, none⟩ (.int .u32 0) (.inl (by simp))).setCell ⟨w.heap.size + 1, 4, none⟩ (.slice v1 p2 v3) (.inl (by simp))).setCell ⟨w.heap.size + 1, 5, none⟩ (.string topic) (.inl (by simp))).setCell ⟨w.heap.size + 1, 6, none⟩ (.string payload) (.inl (by simp)))
      generalize (((((((w3.setCell ⟨w.heap.size + 1, 0, none⟩ (.bool false)).setCell ⟨w.heap.size + 1, 1, none⟩ (.bool ret)).setCell ⟨w.heap.size + 1, 2, none⟩ (.int .u8 qos)).setCell ⟨w.heap.size + 1, 3, none⟩ (.int .u32 0)).setCell ⟨w.heap.size + 1, 4, none⟩ (.slice v1 p2 v3)).setCell ⟨w.heap.size + 1, 5, none⟩ (.string topic)).setCell ⟨w.heap.size + 1, 6, none⟩ (.string payload)) = w7 at hW hcW hchW ⊢
      have q0 := cell_of_heap hW 0
      have q1 := cell_of_heap hW 1
      have q2 := cell_of_heap hW 2
      have q3 := cell_of_heap hW 3
      have q4 := cell_of_heap hW 4
      have q5 := cell_of_heap hW 5
      have q6 := cell_of_heap hW 6
      simp only [List.getElem?_toArray, List.getElem?_cons_zero, List.getElem?_cons_succ] at q0 q1 q2 q3 q4 q5 q6
      have hpl2 : pubPs ⟨fr, at_, qos, ret, props, topic, payload⟩ now = props := by rw [hpl]; rfl
      have hw7 : w7.ownsRow (w.heap.size + 2) 62 4 (.slice v1 p2 v3) p2 ((pubPs ⟨fr, at_, qos, ret, props, topic, payload⟩ now).flatMap PropR.cells) ∨ p2 = 0 := by
        rw [hpl2]
        exact hown3.imp (fun h => row_keep h hchW (fun b hb => by
          have h1 := (ownBlock_lt h hb).1
          simp only [List.mem_singleton]
          omega)) id
      have hs7 : Sl w7 (.slice v1 p2 v3) 4 p2 ((pubPs ⟨fr, at_, qos, ret, props, topic, payload⟩ now).flatMap PropR.cells) := by
        rcases hw7 with h2 | h2
        · exact Sl.ofRow h2
        · rw [hpl2]
          exact hsl3.keep hchW (fun b hb => .inr (by rw [h2]))
      refine bodyPost_ret (v := .agg #[.bool false, .bool ret, .int .u8 qos, .int .u32 0, .slice v1 p2 v3, .string topic, .string payload]) (by simp [results, Tryd.f31, go_sem, q0, q1, q2, q3, q4, q5, q6]) rfl ?_
      exact ⟨_, rfl, _, rfl, hw7.imp (fun h => row_base h (by omega)) id, hs7, hcW⟩
    | true =>
      have b4 : w3.cell? ⟨b, 4, none⟩ = some (.slice v1 p2 v3) := cell_of_heap hb3 4
      have HPL : Hid (pubPs ⟨fr, at_, qos, ret, props, topic, payload⟩ now = props.map (pubP left)) := by rw [hpl]; rfl
      have HP2 : Hid (props.length = p2) := hp2
      clear hpl hp2
      go_wp2
      go_loopw [8, 31] (fun _ v31 wr => ∃ i : Nat, v31 = .int .i64 i ∧ i ≤ p2 ∧ wr.heap[b]? = some (.cells #[.bool false, .bool ret, .int .u8 qos, .int .u32 0, .slice v1 p2 v3, .string topic, .string payload] 29 (0, 0)) ∧ wr.heap[w.heap.size + 1]? = some (.cells #[.bool false, .bool false, .int .u8 0, .int .u32 0, .slice none 0 0, .string ⟨#[]⟩, .string ⟨#[]⟩] 29 (0, 0)) ∧
          (wr.ownsRow (w.heap.size + 2) 62 4 (.slice v1 p2 v3) p2 (((props.take i).map (pubP left) ++ props.drop i).flatMap PropR.cells) ∨ p2 = 0) ∧ Sl wr (.slice v1 p2 v3) 4 p2 (((props.take i).map (pubP left) ++ props.drop i).flatMap PropR.cells) ∧ Ch [] w wr)
        (fun _ v31 _ => match v31 with | .int _ x => p2 - x.toNat | _ => 0)
      case atStart => exact ⟨0, rfl, by omega, hb3, hz3, by simpa using hown3, by simpa using hsl3, hc3⟩
      case round =>
        obtain ⟨i, rfl, hin, hbr, hzr, hor, hslr, hcr⟩ := hrel
        by_cases hi : i < p2
        · have hlt : decide ((i : Int) < (p2 : Int)) = true := by simpa using hi
          have hrw : wr.ownsRow (w.heap.size + 2) 62 4 (.slice v1 p2 v3) p2 (((props.take i).map (pubP left) ++ props.drop i).flatMap PropR.cells) := hor.resolve_right (by omega)
          obtain ⟨g, rfl, _, hgb⟩ := row_some hrw (by omega)
          have hil : i < props.length := by have := HP2.out; omega
          obtain ⟨q, hq⟩ : ∃ q, props[i]? = some q := ⟨_, List.getElem?_eq_getElem hil⟩
          obtain ⟨hq1, hq2⟩ := pub_step left hq
          obtain ⟨bb, oo, cc, hsv, hcell⟩ := (Sl.ofRow hrw).at (fun _ => rfl) (by omega) hq1
          cases hsv
          obtain ⟨qid, qn, qs, qt⟩ := q
          have e0 : wr.cell? ⟨g, i * 4, none⟩ = some (.int .i64 qid) := by simpa using hcell 0 _ rfl
          have c4 : wr.cell? ⟨b, 4, none⟩ = some (.slice (some ⟨g, 0, none⟩) p2 v3) := cell_of_heap hbr 4
          have HQ1 : Hid _ := hq1
          have HQ2 : Hid _ := hq2
          have HC : Hid _ := hcell
          clear hq hq1 hq2 hcell
          by_cases hid : qid = 2
          · subst hid
            have e1 : wr.cell? ⟨g, i * 4 + 1, none⟩ = some (.int .u32 qn) := by simpa using HC.out 1 _ rfl
            obtain ⟨cur, hcur⟩ := row_block hrw (k := g) rfl
            have ef1 : wr.frozen? ⟨g, i * 4 + 1, none⟩ = false := free_of_heap hcur (i * 4 + 1)
            go_wp2
            have hpq : pubP left ⟨2, qn, qs, qt⟩ = ⟨2, clampU left, qs, qt⟩ := by simp [pubP]
            have hgB : b ≠ g := fun e => by rw [e, hcur] at hbr; cases hbr
            have hgZ : w.heap.size + 1 ≠ g := by omega
            have hL : (props.take (i + 1)).map (pubP left) ++ props.drop (i + 1) = ((props.take i).map (pubP left) ++ props.drop i).set i ⟨2, clampU left, qs, qt⟩ := by rw [HQ2.out, hpq]
            have hrN := row_set hrw (i * 4 + 1) (.int .u32 (clampU left))
            rw [flat_set _ i ⟨2, qn, qs, qt⟩ (clampU left) HQ1.out, ← hL] at hrN
            exact ⟨⟨i + 1, by simp, by omega, heap_setCell_ne hbr hgB _, heap_setCell_ne hzr hgZ _, .inl hrN, Sl.ofRow hrN, hcr.setCell _ _ (.inr (by simp; omega))⟩, by simp; omega⟩
          · have hid' : decide (qid = 2) = false := by simpa using hid
            go_wp2
            have hpq : pubP left ⟨qid, qn, qs, qt⟩ = ⟨qid, qn, qs, qt⟩ := by simp [pubP, hid]
            have hL : (props.take (i + 1)).map (pubP left) ++ props.drop (i + 1) = (props.take i).map (pubP left) ++ props.drop i := by
              rw [HQ2.out, hpq]
              exact set_same HQ1.out
            refine ⟨⟨i + 1, by simp, by omega, hbr, hzr, ?_, ?_, hcr⟩, by simp; omega⟩
            · rw [hL]; exact hor
            · rw [hL]; exact hslr
        · have hlt : decide ((i : Int) < (p2 : Int)) = false := by simpa using hi
          have b0 : wr.cell? ⟨b, 0, none⟩ = some (.bool false) := cell_of_heap hbr 0
          have b1 : wr.cell? ⟨b, 1, none⟩ = some (.bool ret) := cell_of_heap hbr 1
          have b2 : wr.cell? ⟨b, 2, none⟩ = some (.int .u8 qos) := cell_of_heap hbr 2
          have b3 : wr.cell? ⟨b, 3, none⟩ = some (.int .u32 0) := cell_of_heap hbr 3
          have b4 : wr.cell? ⟨b, 4, none⟩ = some (.slice v1 p2 v3) := cell_of_heap hbr 4
          have b5 : wr.cell? ⟨b, 5, none⟩ = some (.string topic) := cell_of_heap hbr 5
          have b6 : wr.cell? ⟨b, 6, none⟩ = some (.string payload) := cell_of_heap hbr 6
          have z0 : wr.cell? ⟨w.heap.size + 1, 0, none⟩ = some (.bool false) := cell_of_heap hzr 0
          have zf0 : wr.frozen? ⟨w.heap.size + 1, 0, none⟩ = false := free_of_heap hzr 0
          have z1 : wr.cell? ⟨w.heap.size + 1, 1, none⟩ = some (.bool false) := cell_of_heap hzr 1
          have zf1 : wr.frozen? ⟨w.heap.size + 1, 1, none⟩ = false := free_of_heap hzr 1
          have z2 : wr.cell? ⟨w.heap.size + 1, 2, none⟩ = some (.int .u8 0) := cell_of_heap hzr 2
          have zf2 : wr.frozen? ⟨w.heap.size + 1, 2, none⟩ = false := free_of_heap hzr 2
          have z3 : wr.cell? ⟨w.heap.size + 1, 3, none⟩ = some (.int .u32 0) := cell_of_heap hzr 3
          have zf3 : wr.frozen? ⟨w.heap.size + 1, 3, none⟩ = false := free_of_heap hzr 3
          have z4 : wr.cell? ⟨w.heap.size + 1, 4, none⟩ = some (.slice none 0 0) := cell_of_heap hzr 4
          have zf4 : wr.frozen? ⟨w.heap.size + 1, 4, none⟩ = false := free_of_heap hzr 4
          have z5 : wr.cell? ⟨w.heap.size + 1, 5, none⟩ = some (.string ⟨#[]⟩) := cell_of_heap hzr 5
          have zf5 : wr.frozen? ⟨w.heap.size + 1, 5, none⟩ = false := free_of_heap hzr 5
          have z6 : wr.cell? ⟨w.heap.size + 1, 6, none⟩ = some (.string ⟨#[]⟩) := cell_of_heap hzr 6
          have zf6 : wr.frozen? ⟨w.heap.size + 1, 6, none⟩ = false := free_of_heap hzr 6
          go_wp2
          have hW := (heap_setCell_at (i := 6) (heap_setCell_at (i := 5) (heap_setCell_at (i := 4) (heap_setCell_at (i := 3) (heap_setCell_at (i := 2) (heap_setCell_at (i := 1) (heap_setCell_at (i := 0) hzr (.bool false)) (.bool ret)) (.int .u8 qos)) (.int .u32 0)) (.slice v1 p2 v3)) (.string topic)) (.string payload))
          simp only [List.setIfInBounds_toArray, List.set_cons_zero, List.set_cons_succ] at hW
          have hcW := (((((((hcr.setCell ⟨w.heap.size + 1, 0, none⟩ (.bool false) (.inr (by simp))).setCell ⟨w.heap.size + 1, 1, none⟩ (.bool ret) (.inr (by simp))).setCell ⟨w.heap.size + 1, 2, none⟩ (.int .u8 qos) (.inr (by simp))).setCell ⟨w.heap.size + 1, 3, none⟩ (.int .u32 0) (.inr (by simp))).setCell ⟨w.heap.size + 1, 4, none⟩ (.slice v1 p2 v3) (.inr (by simp))).setCell ⟨w.heap.size + 1, 5, none⟩ (.string topic) (.inr (by simp))).setCell ⟨w.heap.size + 1, 6, none⟩ (.string payload) (.inr (by simp)))
          have hchW := ((((((((Ch.refl [w.heap.size + 1] wr).setCell ⟨w.heap.size + 1, 0, none⟩ (.bool false) (.inl (by simp))).setCell ⟨w.heap.size + 1, 1, none⟩ (.bool ret) (.inl (by simp))).setCell ⟨w.heap.size + 1, 2, none⟩ (.int .u8 qos) (.inl (by simp))).setCell ⟨w.heap.size + 1, 3, none⟩ (.int .u32 0) (.inl (by simp))).setCell ⟨w.heap.size + 1, 4, none⟩ (.slice v1 p2 v3) (.inl (by simp))).setCell ⟨w.heap.size + 1, 5, none⟩ (.string topic) (.inl (by simp))).setCell ⟨w.heap.size + 1, 6, none⟩ (.string payload) (.inl (by simp)))
          generalize (((((((wr.setCell ⟨w.heap.size + 1, 0, none⟩ (.bool false)).setCell ⟨w.heap.size + 1, 1, none⟩ (.bool ret)).setCell ⟨w.heap.size + 1, 2, none⟩ (.int .u8 qos)).setCell ⟨w.heap.size + 1, 3, none⟩ (.int .u32 0)).setCell ⟨w.heap.size + 1, 4, none⟩ (.slice v1 p2 v3)).setCell ⟨w.heap.size + 1, 5, none⟩ (.string topic)).setCell ⟨w.heap.size + 1, 6, none⟩ (.string payload)) = w7 at hW hcW hchW ⊢
          have q0 := cell_of_heap hW 0
          have q1 := cell_of_heap hW 1
          have q2 := cell_of_heap hW 2
          have q3 := cell_of_heap hW 3
          have q4 := cell_of_heap hW 4
          have q5 := cell_of_heap hW 5
          have q6 := cell_of_heap hW 6
          simp only [List.getElem?_toArray, List.getElem?_cons_zero, List.getElem?_cons_succ] at q0 q1 q2 q3 q4 q5 q6
          have hpl2 : pubPs ⟨fr, at_, qos, ret, props, topic, payload⟩ now = (props.take i).map (pubP left) ++ props.drop i := by rw [HPL.out, List.take_of_length_le (by have := HP2.out; omega), List.drop_eq_nil_of_le (by have := HP2.out; omega)]; simp
          have hw7 : w7.ownsRow (w.heap.size + 2) 62 4 (.slice v1 p2 v3) p2 ((pubPs ⟨fr, at_, qos, ret, props, topic, payload⟩ now).flatMap PropR.cells) ∨ p2 = 0 := by
            rw [hpl2]
            exact hor.imp (fun h => row_keep h hchW (fun b hb => by
              have h1 := (ownBlock_lt h hb).1
              simp only [List.mem_singleton]
              omega)) id
          have hs7 : Sl w7 (.slice v1 p2 v3) 4 p2 ((pubPs ⟨fr, at_, qos, ret, props, topic, payload⟩ now).flatMap PropR.cells) := by
            rcases hw7 with h2 | h2
            · exact Sl.ofRow h2
            · rw [hpl2]
              exact hslr.keep hchW (fun b hb => .inr (by rw [h2]))
          refine bodyPost_ret (v := .agg #[.bool false, .bool ret, .int .u8 qos, .int .u32 0, .slice v1 p2 v3, .string topic, .string payload]) (by simp [results, Tryd.f31, go_sem, q0, q1, q2, q3, q4, q5, q6]) rfl ?_
          exact ⟨_, rfl, _, rfl, hw7.imp (fun h => row_base h (by omega)) id, hs7, hcW⟩
  · have e3 : w1.heap.size = w.heap.size + 2 := e2
    clear e1 e2 h h1
    refine wp_region_two (Ch [] w1) 13 [(true, 0), (true, 1), (true, 2), (true, 3), (true, 4), (true, 5), (true, 6), (true, 7), (true, 8), (true, 9)] 10 [(true, 11), (false, 12)] 12 [(false, 10), (true, 11)] (by kernel_rfl) (by kernel_rfl) (Ch.refl [] w1).drew ?_
    intro hS hne
    have f2 := wd_cell hb0 2 rfl
    have f3 := wd_cell hb0 3 rfl
    have f4 := wd_cell hb0 4 rfl
    have f5 := wd_cell hb0 5 rfl
    have f6 := wd_cell hb0 6 rfl
    repeat (refine flow_q2 (by rfl) ?_; go_big_quiet_step (fail); refine flow_n2 ?_)
    refine flow_two (by rfl) (by rfl) ?_ ?_
    · go_wp2_with fail
      refine Calls.mono (clone_read clonePr_lays (t := 27) (e := 62) rfl elProp Tryd.sizeOf62 w1.drew (.slice p1 p2 p3) p2 (props.flatMap PropR.cells) (s1.keep hS (by simp)) q1 (by omega) propCells_one) ?_
      rintro e w2 ⟨v, rfl, hown, hsl, hk2⟩
      obtain ⟨v1, v3, rfl⟩ := hsl.shape'
      have hS2 := hk2.fromDrew
      go_wp2
      refine ⟨hS2, ?_⟩
      refine flow_q (by rfl) ?_
      go_big_quiet_step (fail)
      refine flow_n ?_
      refine flow_l (by rfl) ?_
      go_wp2
      refine ⟨hS2.alloc _, ?_⟩
      refine flow_t ?_
      clear f2 f3 f4 f5 f6 hne
      simp only [List.drop_succ_cons, List.drop_zero]
      go_wp2
      refine shut0_normal ?_
      have hcA := (Ch.refl [] w2).alloc (.cells #[.bool false, .bool ret, .int .u8 qos, .int .u32 0, .slice v1 p2 v3, .string topic, .string payload] 29)
      refine ⟨rfl, w2.heap.size, v1, v3, rfl, heap_new w2 (.cells #[.bool false, .bool ret, .int .u8 qos, .int .u32 0, .slice v1 p2 v3, .string topic, .string payload] 29), ?_, ?_, hsl.keep hcA (by simp), hS2.thenNil hcA⟩
      · have := hS2.size; omega
      · rcases hown with h2 | h2
        · exact .inl (row_keep (row_base h2 (by show w.heap.size + 2 ≤ w1.heap.size; omega)) hcA (by simp))
        · exact .inr h2
    · go_wp2
      have hcB := (Ch.refl [] w1).alloc (.cells #[.bool false, .bool false, .int .u8 0, .int .u32 0, .slice none 0 0, .string ⟨#[]⟩, .string ⟨#[]⟩] 29)
      have hbB := heap_new w1 (.cells #[.bool false, .bool false, .int .u8 0, .int .u32 0, .slice none 0 0, .string ⟨#[]⟩, .string ⟨#[]⟩] 29)
      refine ⟨hS.alloc _, ?_⟩
      refine flow_l (by rfl) ?_
      go_wp2_with fail
      refine Calls.mono (clone_read clonePr_lays (t := 27) (e := 62) rfl elProp Tryd.sizeOf62 _ (.slice p1 p2 p3) p2 (props.flatMap PropR.cells) (s1.keep (hS.alloc _) (by simp)) q1 (by omega) propCells_one) ?_
      rintro e w2 ⟨v, rfl, hown, hsl, hk2⟩
      obtain ⟨v1, v3, rfl⟩ := hsl.shape'
      have hkA : Ch [] (w1.alloc (.cells #[.bool false, .bool false, .int .u8 0, .int .u32 0, .slice none 0 0, .string ⟨#[]⟩, .string ⟨#[]⟩] 29)) w2 := ⟨hk2.os, hk2.tape, hk2.output, hk2.size, hk2.block⟩
      have hb2 := hkA.keep hbB (by simp)
      rw [e3] at hb2
      have hS2 : Ch [] w1 w2 := hcB.thenNil hkA
      have z0 : w2.cell? ⟨w.heap.size + 2, 0, none⟩ = some (.bool false) := cell_of_heap hb2 0
      have zf0 : w2.frozen? ⟨w.heap.size + 2, 0, none⟩ = false := free_of_heap hb2 0
      have z1 : w2.cell? ⟨w.heap.size + 2, 1, none⟩ = some (.bool false) := cell_of_heap hb2 1
      have zf1 : w2.frozen? ⟨w.heap.size + 2, 1, none⟩ = false := free_of_heap hb2 1
      have z2 : w2.cell? ⟨w.heap.size + 2, 2, none⟩ = some (.int .u8 0) := cell_of_heap hb2 2
      have zf2 : w2.frozen? ⟨w.heap.size + 2, 2, none⟩ = false := free_of_heap hb2 2
      have z3 : w2.cell? ⟨w.heap.size + 2, 3, none⟩ = some (.int .u32 0) := cell_of_heap hb2 3
      have zf3 : w2.frozen? ⟨w.heap.size + 2, 3, none⟩ = false := free_of_heap hb2 3
      have z4 : w2.cell? ⟨w.heap.size + 2, 4, none⟩ = some (.slice none 0 0) := cell_of_heap hb2 4
      have zf4 : w2.frozen? ⟨w.heap.size + 2, 4, none⟩ = false := free_of_heap hb2 4
      have z5 : w2.cell? ⟨w.heap.size + 2, 5, none⟩ = some (.string ⟨#[]⟩) := cell_of_heap hb2 5
      have zf5 : w2.frozen? ⟨w.heap.size + 2, 5, none⟩ = false := free_of_heap hb2 5
      have z6 : w2.cell? ⟨w.heap.size + 2, 6, none⟩ = some (.string ⟨#[]⟩) := cell_of_heap hb2 6
      have zf6 : w2.frozen? ⟨w.heap.size + 2, 6, none⟩ = false := free_of_heap hb2 6
      go_wp2
      refine ⟨hS2, ?_⟩
      refine flow_q (by rfl) ?_
      go_big_quiet_step (fail)
      refine flow_n ?_
      refine flow_t ?_
      clear f2 f3 f4 f5 f6 hne
      simp only [List.drop_succ_cons, List.drop_zero]
      go_wp2
      refine shut0_normal ?_
      have hW := (heap_setCell_at (i := 6) (heap_setCell_at (i := 5) (heap_setCell_at (i := 4) (heap_setCell_at (i := 3) (heap_setCell_at (i := 2) (heap_setCell_at (i := 1) (heap_setCell_at (i := 0) hb2 (.bool false)) (.bool ret)) (.int .u8 qos)) (.int .u32 0)) (.slice v1 p2 v3)) (.string topic)) (.string payload))
      simp only [List.setIfInBounds_toArray, List.set_cons_zero, List.set_cons_succ] at hW
      have hcW := (((((((hS2.setCell ⟨w.heap.size + 2, 0, none⟩ (.bool false) (.inr (by simp; omega))).setCell ⟨w.heap.size + 2, 1, none⟩ (.bool ret) (.inr (by simp; omega))).setCell ⟨w.heap.size + 2, 2, none⟩ (.int .u8 qos) (.inr (by simp; omega))).setCell ⟨w.heap.size + 2, 3, none⟩ (.int .u32 0) (.inr (by simp; omega))).setCell ⟨w.heap.size + 2, 4, none⟩ (.slice v1 p2 v3) (.inr (by simp; omega))).setCell ⟨w.heap.size + 2, 5, none⟩ (.string topic) (.inr (by simp; omega))).setCell ⟨w.heap.size + 2, 6, none⟩ (.string payload) (.inr (by simp; omega)))
      have hchW := ((((((((Ch.refl [w.heap.size + 2] w2).setCell ⟨w.heap.size + 2, 0, none⟩ (.bool false) (.inl (by simp))).setCell ⟨w.heap.size + 2, 1, none⟩ (.bool ret) (.inl (by simp))).setCell ⟨w.heap.size + 2, 2, none⟩ (.int .u8 qos) (.inl (by simp))).setCell ⟨w.heap.size + 2, 3, none⟩ (.int .u32 0) (.inl (by simp))).setCell ⟨w.heap.size + 2, 4, none⟩ (.slice v1 p2 v3) (.inl (by simp))).setCell ⟨w.heap.size + 2, 5, none⟩ (.string topic) (.inl (by simp))).setCell ⟨w.heap.size + 2, 6, none⟩ (.string payload) (.inl (by simp)))
      generalize (((((((w2.setCell ⟨w.heap.size + 2, 0, none⟩ (.bool false)).setCell ⟨w.heap.size + 2, 1, none⟩ (.bool ret)).setCell ⟨w.heap.size + 2, 2, none⟩ (.int .u8 qos)).setCell ⟨w.heap.size + 2, 3, none⟩ (.int .u32 0)).setCell ⟨w.heap.size + 2, 4, none⟩ (.slice v1 p2 v3)).setCell ⟨w.heap.size + 2, 5, none⟩ (.string topic)).setCell ⟨w.heap.size + 2, 6, none⟩ (.string payload)) = w7 at hW hcW hchW ⊢
      have hsz : w.heap.size + 3 ≤ w2.heap.size := by have := hkA.size; simp at this; omega
      have hw : w7.ownsRow (w.heap.size + 2) 62 4 (.slice v1 p2 v3) p2 (props.flatMap PropR.cells) ∨ p2 = 0 := by
        rcases hown with h2 | h2
        · exact .inl (row_base (row_keep h2 hchW (fun b hb => by
            have h3 := (ownBlock_lt h2 hb).1
            have h4 : w1.heap.size + 1 ≤ b := by have : (w1.alloc (.cells #[.bool false, .bool false, .int .u8 0, .int .u32 0, .slice none 0 0, .string ⟨#[]⟩, .string ⟨#[]⟩] 29)).heap.size ≤ b := h3; simpa using this
            simp only [List.mem_singleton]
            omega)) (by have h3 : w1.heap.size + 1 ≤ (w1.alloc (.cells #[.bool false, .bool false, .int .u8 0, .int .u32 0, .slice none 0 0, .string ⟨#[]⟩, .string ⟨#[]⟩] 29)).heap.size := by simp
                        exact Nat.le_trans (by omega) h3))
        · exact .inr h2
      have hs : Sl w7 (.slice v1 p2 v3) 4 p2 (props.flatMap PropR.cells) := by
        rcases hw with h2 | h2
        · exact Sl.ofRow h2
        · exact hsl.keep hchW (fun b hb => .inr (by rw [h2]))
      exact ⟨rfl, w.heap.size + 2, v1, v3, rfl, hW, by omega, hw, hs, hcW⟩

end Go.Proofs.YticfeikmdfijiaaDoor
