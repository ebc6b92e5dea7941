/- The store of retained messages: New, Len, Set. -/
import Derived.Test.YticfeikmdfijiaaDoorTopic
import Derived.Carry
namespace Go.Proofs.YticfeikmdfijiaaDoor
open Go Go.RowKit

theorem sl_at {w : World} {v : Value} {size n : Nat} {cs : List Value} (h : Sl w v size n cs) (hp : 0 < n * size) : ∃ b, v.ownBlock = some b ∧ ∃ c t f, w.heap[b]? = some (.cells c t f) := by
  obtain ⟨bo, cap, rfl, hl, _, _, hc⟩ := h
  have h0 : 0 < cs.length := by omega
  obtain ⟨b, o, rfl, hcell⟩ := hc 0 cs[0] (by simp)
  refine ⟨b, rfl, ?_⟩
  unfold World.cell? at hcell
  cases hb : w.heap[b]? with
  | none => rw [hb] at hcell; simp at hcell
  | some ob => cases ob <;> rw [hb] at hcell <;> first | exact ⟨_, _, _, rfl⟩ | (simp at hcell)

/-- A map's block is no slice's. -/
theorem Sl.keepMap {w w' : World} {v : Value} {size n : Nat} {cs : List Value} {bm : Nat} {es : Array MapEntry} {c : Nat} (h : Sl w v size n cs) (hm : w.heap[bm]? = some (.map es c)) (hc : Ch [bm] w w') : Sl w' v size n cs := by
  refine h.keep hc fun b hb => ?_
  rcases Nat.eq_zero_or_pos (n * size) with h0 | h0
  · exact .inr h0
  · obtain ⟨b', hb', c', t, f, hc'⟩ := sl_at h h0
    rw [hb] at hb'
    cases hb'
    refine .inl ?_
    simp only [List.mem_singleton]
    rintro rfl
    rw [hm] at hc'
    cases hc'

theorem MsgAt.keepMap {w w' : World} {m : MsgR} {pv : Value} {bm : Nat} {es : Array MapEntry} {c : Nat} (h : MsgAt w m pv) (hm : w.heap[bm]? = some (.map es c)) (hc : Ch [bm] w w') : MsgAt w' m pv :=
  ⟨h.sl.keepMap hm hc, h.few, h.at0, h.at1, h.nums⟩

/-- A store in memory. -/
structure StAt (w : World) (bs bm : Nat) (most : Int) (m : List (ByteArray × MsgR × Value)) : Prop where
  head : w.heap[bs]? = some (.cells #[.map (some bm), .int .i64 most] 142 (0, 0))
  map : IsMap Value.string w bm (m.map fun p => (p.1, p.2.1.v p.2.2))
  each : ∀ p ∈ m, MsgAt w p.2.1 p.2.2

theorem StAt.keep {w w' : World} {bs bm : Nat} {most : Int} {m : List (ByteArray × MsgR × Value)} (h : StAt w bs bm most m) (hc : Ch [] w w') : StAt w' bs bm most m :=
  ⟨hc.keep h.head (by simp), h.map.keep hc (by simp), fun p hp => (h.each p hp).keep hc⟩
theorem StAt.ne {w : World} {bs bm : Nat} {most : Int} {m : List (ByteArray × MsgR × Value)} (h : StAt w bs bm most m) : bs ≠ bm := fun e => h.map.ne_cells h.head e.symm

/-- The map's turn. -/
theorem StAt.turn {w w' : World} {bs bm : Nat} {most : Int} {m m' : List (ByteArray × MsgR × Value)} (h : StAt w bs bm most m) (hc : Ch [bm] w w') (hm : IsMap Value.string w' bm (m'.map fun p => (p.1, p.2.1.v p.2.2))) (he : ∀ p ∈ m', MsgAt w p.2.1 p.2.2) : StAt w' bs bm most m' := by
  obtain ⟨es, c, hb, _⟩ := h.map
  exact ⟨hc.keep h.head (by simp [h.ne]), hm, fun p hp => (he p hp).keepMap hb hc⟩

def absM (m : List (ByteArray × MsgR × Value)) : List (ByteArray × MsgR) := m.map fun p => (p.1, p.2.1)
theorem absM_look (m : List (ByteArray × MsgR × Value)) (x : ByteArray) : alook (absM m) x = (alook m x).map (·.1) := alook_map (fun q : MsgR × Value => q.1) m x
theorem absM_set (m : List (ByteArray × MsgR × Value)) (x : ByteArray) (v : MsgR × Value) : absM (aset m x v) = aset (absM m) x v.1 := aset_map (fun q : MsgR × Value => q.1) m x v
theorem absM_del (m : List (ByteArray × MsgR × Value)) (x : ByteArray) : absM (adel m x) = adel (absM m) x := adel_map (fun q : MsgR × Value => q.1) m x

theorem kStr : KeyTy Tryd.prog 9 Value.string := keyTy_string Tryd.underlying9

set_option maxHeartbeats 2000000 in
theorem store_new (w : World) (n : Int) (h0 : 0 ≤ n) (h1 : n ≤ 1000000) :
    Gives Tryd.prog 26 #[.int .i64 n] w fun r w' => ∃ bs bm, r = .pointer (some ⟨bs, 0, none⟩) ∧ StAt w' bs bm n [] ∧ Ch [] w w' ∧ w.heap.size ≤ bs ∧ w.heap.size ≤ bm := by
  have hmm := @run_makeMap Tryd.prog
  have hmax : max n 0 = n := by omega
  have hc1 : Ch [] w (w.alloc (Obj.map #[] 0)) := (Ch.refl [] w).alloc _
  have hc2 : Ch [] (w.alloc (Obj.map #[] 0)) ((w.alloc (Obj.map #[] 0)).alloc (Obj.cells #[.map (some w.heap.size), .int .i64 n] 142)) := (Ch.refl [] _).alloc _
  have e1 : (w.alloc (Obj.map #[] 0)).heap.size = w.heap.size + 1 := by simp
  have hh := heap_new (w.alloc (Obj.map #[] 0)) (Obj.cells #[.map (some w.heap.size), .int .i64 n] 142)
  rw [e1] at hh
  go_enter Tryd.func26, Tryd.ntmps26
  go_wp2
  go_ret
  exact ⟨_, rfl, w.heap.size + 1, w.heap.size, rfl, ⟨hh, (isMap_new w).keep hc2 (by simp), by simp⟩, hc1.thenNil hc2, by omega, by omega⟩

set_option maxHeartbeats 2000000 in
theorem store_len (w : World) (bs bm : Nat) (most : Int) (m : List (ByteArray × MsgR × Value)) (h : StAt w bs bm most m) :
    Gives Tryd.prog 29 #[.pointer (some ⟨bs, 0, none⟩)] w fun r w' => r = .int .i64 m.length ∧ w' = w := by
  have c0 : w.cell? ⟨bs, 0, none⟩ = some (.map (some bm)) := cell_of_heap h.head 0
  have hl := h.map.run_len Tryd.underlying140
  simp only [List.length_map] at hl
  go_enter Tryd.func29, Tryd.ntmps29
  go_wp2
  go_ret
  exact ⟨_, rfl, rfl, rfl⟩

def setS (s : List (ByteArray × MsgR)) (most : Int) (m : MsgR) : List (ByteArray × MsgR) × Int :=
  if m.payload = ⟨#[]⟩ then (adel s m.topic, 0)
  else if alook s m.topic = none ∧ most ≤ s.length then (s, 6)
  else (aset s m.topic m, 0)

def clonePr_ren : Go.Shelf.Ren := ⟨fun | 41 => 63 | n => n, fun | 22 => 27 | 23 => 62 | 4 => 4 | n => n, fun | n => n⟩
theorem clonePr_lays : SlLaysE0.n41 Tryd.prog clonePr_ren := {
  mixed := by kernel_rfl
  f41 := ⟨Tryd.f63.name, by decide, Tryd.func63.trans (congrArg some (by kernel_rfl))⟩
  t4 := Tryd.underlying4
  a4 := Tryd.isAgg4
  z4 := Tryd.sizeOf4
  v4 := Tryd.zeroValue4
  t22 := Tryd.underlying27
  a22 := Tryd.isAgg27
  z22 := Tryd.sizeOf27
  v22 := Tryd.zeroValue27 }

def Fresh (B : Nat) (w : World) (p : MsgR × Value) : Prop := w.ownsRow B 62 4 p.2 p.1.props.length (p.1.props.flatMap PropR.cells) ∨ p.1.props.length = 0
theorem Fresh.keep {B : Nat} {w w' : World} {p : MsgR × Value} (h : Fresh B w p) (hc : Ch [] w w') : Fresh B w' p := h.imp (fun h => row_keep h hc (by simp)) id
theorem Fresh.base {B B' : Nat} {w : World} {p : MsgR × Value} (h : Fresh B w p) (hb : B' ≤ B) : Fresh B' w p := h.imp (fun h => row_base h hb) id

set_option maxHeartbeats 4000000 in
theorem store_set (w : World) (bs bm : Nat) (most : Int) (l : List (ByteArray × MsgR × Value)) (h : StAt w bs bm most l) (m : MsgR) (pv : Value) (hm : MsgAt w m pv) :
    Gives Tryd.prog 27 #[.pointer (some ⟨bs, 0, none⟩), m.v pv] w fun r w' => r = .int .i64 (setS (absM l) most m).2 ∧ ∃ l', StAt w' bs bm most l' ∧ absM l' = (setS (absM l) most m).1 ∧ Ch [bm] w w' ∧ ∀ p ∈ l', p ∈ l ∨ Fresh w.heap.size w' p.2 := by
  obtain ⟨bo, cap, hpv, _⟩ := hm.sl
  have hsh : ∃ ao n c, pv = .slice ao n c := ⟨_, _, _, hpv⟩
  clear hpv
  obtain ⟨p1, p2, p3, rfl⟩ := hsh
  obtain ⟨fr, at_, qos, ret, props, topic, payload⟩ := m
  simp only [MsgR.v]
  have hb : (w.alloc (Obj.cells #[.string fr, .int .i64 at_, .int .u8 qos, .bool ret, .slice p1 p2 p3, .string topic, .string payload] 58)).heap[w.heap.size]? = some (Obj.cells #[.string fr, .int .i64 at_, .int .u8 qos, .bool ret, .slice p1 p2 p3, .string topic, .string payload] 58) := heap_new w _
  have hc1 : Ch [] w (w.alloc (Obj.cells #[.string fr, .int .i64 at_, .int .u8 qos, .bool ret, .slice p1 p2 p3, .string topic, .string payload] 58)) := (Ch.refl [] w).alloc _
  go_enter Tryd.func27, Tryd.ntmps27
  go_wp2
  generalize w.alloc (Obj.cells #[.string fr, .int .i64 at_, .int .u8 qos, .bool ret, .slice p1 p2 p3, .string topic, .string payload] 58) = w1 at hb hc1 ⊢
  have A1 := h.keep hc1
  have M1 := hm.keep hc1
  have hla := absM_look l topic
  cases hx : alook l topic with
  | none =>
    rw [hx] at hla
    refine wp_region_flow (Ch [] w1) 12 [(true, 0), (true, 1), (true, 2), (true, 3), (true, 4), (true, 5), (true, 6), (true, 7), (true, 8), (true, 9), (false, 10), (false, 11)] (by kernel_rfl) (by kernel_rfl) (Ch.refl [] w1).drew ?_
    intro hS hne
    have f0 := wd_cell A1.head 0 (v := .map (some bm)) rfl
    have f5 := wd_cell hb 5 rfl
    have fl : ∀ y : Wd (Ch [] w1), (Instr.lookup 140 (.map (some bm)) (.string topic) true).run Tryd.prog y.v = .ok (.tuple #[.agg #[.string ⟨#[]⟩, .int .i64 0, .int .u8 0, .bool false, .slice none 0 0, .string ⟨#[]⟩, .string ⟨#[]⟩], .bool false]) y.v := fun y => by
      rw [(A1.map.keep y.p (by simp)).run_look_ok kStr Tryd.underlying140 (Tryd.zeroValue58 _) topic, alook_map (fun q : MsgR × Value => q.1.v q.2), hx]; rfl
    repeat (refine flow_q (by rfl) ?_; go_big_quiet_step (fail); refine flow_n ?_)
    refine flow_l (by rfl) ?_
    go_wp2
    refine ⟨hS.alloc _, ?_⟩
    refine flow_l (by rfl) ?_
    go_wp2
    refine loud_forget (by repeat' (first | exact hS.alloc _ | exact (Ch.refl [] w1).alloc _ | (refine Ch.drew ?_) | (refine Ch.setCell ?_ _ _ (.inr (by simp))))) (fun w2 hS2 => ?_)
    refine flow_t ?_
    clear f0 f5 fl hne hS
    simp only [List.drop_succ_cons, List.drop_zero]
    go_wp2
    refine shut0_normal ?_
    simp only [Exit.then, Exit.inBlock]
    have A2 := A1.keep hS2
    have M2 := M1.keep hS2
    have hb2 := hS2.keep hb (by simp)
    have hc2 := hc1.thenNil hS2
    have b6 : w2.cell? ⟨w.heap.size, 6, none⟩ = some (.string payload) := cell_of_heap hb2 6
    by_cases hp : payload = ⟨#[]⟩
    · subst hp
      go_wp2
      refine wp_region_flow (Ch [] w2) 6 [(true, 0), (true, 1), (true, 2), (true, 3), (true, 4), (true, 5)] (by kernel_rfl) (by kernel_rfl) (Ch.refl [] w2).drew ?_
      intro hS hne
      have f0 := wd_cell A2.head 0 (v := .map (some bm)) rfl
      have f5 := wd_cell hb2 5 rfl
      repeat (refine flow_q (by rfl) ?_; go_big_quiet_step (fail); refine flow_n ?_)
      refine flow_t ?_
      clear f0 f5 hne hS
      obtain ⟨w3, hrun, hm3, hc3, hs3⟩ := (A2.map.keep (Ch.refl [] w2).drew (by simp)).run_del kStr Tryd.underlying140 topic 0
      simp only [List.drop_succ_cons, List.drop_zero]
      go_wp2
      refine shut0_normal ?_
      simp only [Exit.then, Exit.inBlock]
      go_wp2
      go_ret
      refine ⟨_, rfl, by simp [setS], adel l topic, A2.turn (m' := adel l topic) hc3.fromDrew (by rw [adel_map (fun q : MsgR × Value => q.1.v q.2)]; exact hm3) (fun p hp => A2.each p ((adel_sub l topic).subset hp)), by rw [absM_del]; simp [setS], hc2.ofNil.then hc3.fromDrew, fun p hp => .inl ((adel_sub l topic).subset hp)⟩
    · have e1 : (payload.toList == []) = false := bytes_lit hp
      by_cases hf : most ≤ (l.length : Int)
      · have hf1 : decide (most ≤ (l.length : Int)) = true := by simpa using hf
        go_wp2
        refine wp_region_flow (Ch [] w2) 14 [(true, 0), (true, 1), (true, 2), (true, 3), (true, 4), (true, 5), (true, 6), (true, 7), (true, 8), (true, 9), (true, 10), (true, 11), (true, 12), (true, 13)] (by kernel_rfl) (by kernel_rfl) (Ch.refl [] w2).drew ?_
        intro hS hne
        have g0 := wd_cell A2.head 0 (v := .map (some bm)) rfl
        have g1 := wd_cell A2.head 1 (v := .int .i64 most) rfl
        have fn : ∀ (y : Wd (Ch [] w2)) (ty : TypeId), (Builtin.len_ #[140] ty #[.map (some bm)]).run Tryd.prog y.v = .ok (.int .i64 (l.length : Nat)) y.v := fun y ty => by
          have := (A2.map.keep y.p (by simp)).run_len Tryd.underlying140 ty
          rwa [List.length_map] at this
        repeat (refine flow_q (by rfl) ?_; go_big_quiet_step (fail); refine flow_n ?_)
        refine flow_t ?_
        clear g0 g1 fn hne hS
        simp only [List.drop_succ_cons, List.drop_zero]
        go_wp2
        refine shut0_normal ?_
        simp only [Exit.then, Exit.inBlock]
        go_wp2
        refine bodyPost_ret (results_tmp rfl _ _ _) rfl ?_
        have hlen : (absM l).length = l.length := by simp [absM]
        have hset : setS (absM l) most ⟨fr, at_, qos, ret, props, topic, payload⟩ = (absM l, 6) := by unfold setS; rw [if_neg hp, if_pos ⟨by rw [hla]; rfl, by rw [hlen]; exact hf⟩]
        rw [hset]
        exact ⟨_, rfl, rfl, l, A2.keep (Ch.refl [] w2).drew, rfl, (hc2.drew).ofNil, fun p hp => .inl hp⟩
      · have hf1 : decide (most ≤ (l.length : Int)) = false := by simpa using hf
        have hlen : (absM l).length = l.length := by simp [absM]
        have hset : setS (absM l) most ⟨fr, at_, qos, ret, props, topic, payload⟩ = (aset (absM l) topic ⟨fr, at_, qos, ret, props, topic, payload⟩, 0) := by unfold setS; rw [if_neg hp, if_neg (fun h => hf (by rw [← hlen]; exact h.2))]
        go_wp2
        refine wp_region_flow (Ch [] w2) 14 [(true, 0), (true, 1), (true, 2), (true, 3), (true, 4), (true, 5), (true, 6), (true, 7), (true, 8), (true, 9), (true, 10), (true, 11), (true, 12), (true, 13)] (by kernel_rfl) (by kernel_rfl) (Ch.refl [] w2).drew ?_
        intro hS hne
        have g0 := wd_cell A2.head 0 (v := .map (some bm)) rfl
        have g1 := wd_cell A2.head 1 (v := .int .i64 most) rfl
        have fn : ∀ (y : Wd (Ch [] w2)) (ty : TypeId), (Builtin.len_ #[140] ty #[.map (some bm)]).run Tryd.prog y.v = .ok (.int .i64 (l.length : Nat)) y.v := fun y ty => by
          have := (A2.map.keep y.p (by simp)).run_len Tryd.underlying140 ty
          rwa [List.length_map] at this
        repeat (refine flow_q (by rfl) ?_; go_big_quiet_step (fail); refine flow_n ?_)
        refine flow_t ?_
        clear g0 g1 fn hne hS
        simp only [List.drop_succ_cons, List.drop_zero]
        go_wp2
        refine shut0_normal ?_
        simp only [Exit.then, Exit.inBlock]
        have hcl := clone_read clonePr_lays (t := 27) (e := 62) rfl elProp Tryd.sizeOf62 w2.drew (.slice p1 p2 p3) props.length (props.flatMap PropR.cells) M2.sl (by have := hm.few; simp only at this; omega) (by omega) (by
          intro u hu
          obtain ⟨x, _, hx⟩ := List.mem_flatMap.1 hu
          simp [PropR.cells] at hx
          rcases hx with rfl | rfl | rfl | rfl <;> rfl)
        have b4 : w2.cell? ⟨w.heap.size, 4, none⟩ = some (.slice p1 p2 p3) := cell_of_heap hb2 4
        go_wp2_with fail
        refine Calls.mono hcl ?_
        rintro e w3 ⟨v', rfl, hown, hsl, hk3⟩
        have hsv : ∃ v1 v2 v3, v' = .slice v1 v2 v3 := by obtain ⟨bo, cap, rfl, _⟩ := hsl; exact ⟨_, _, _, rfl⟩
        obtain ⟨v1, v2, v3, rfl⟩ := hsv
        have hb3 := hk3.fromDrew.keep hb2 (by simp)
        have c4 : w3.cell? ⟨w.heap.size, 4, none⟩ = some (.slice p1 p2 p3) := cell_of_heap hb3 4
        have f4 : w3.frozen? ⟨w.heap.size, 4, none⟩ = false := free_of_heap hb3 4
        have hc3 := hc2.thenNil hk3.fromDrew
        go_wp2
        have hb4 := heap_setCell_at (i := 4) hb3 (.slice v1 v2 v3)
        simp only [List.setIfInBounds_toArray, List.set_cons_zero, List.set_cons_succ] at hb4
        have hc4 := hc3.setCell ⟨w.heap.size, 4, none⟩ (.slice v1 v2 v3) (.inr (by simp))
        have hsl4 : Sl (w3.setCell ⟨w.heap.size, 4, none⟩ (.slice v1 v2 v3)) (.slice v1 v2 v3) 4 props.length (props.flatMap PropR.cells) := hsl.keep (S := [w.heap.size]) ((Ch.refl _ w3).setCell _ _ (.inl (by simp))) (fun b hb => by
          rcases hown with hown | h0
          · refine .inl ?_
            have h1 := (ownBlock_lt hown hb).1
            have h2 := lt_of_heap hb2
            simp only [List.mem_singleton]
            have h3 : w2.drew.heap.size = w2.heap.size := rfl
            omega
          · exact .inr (by rw [h0]))
        have hfr4 : Fresh w.heap.size (w3.setCell ⟨w.heap.size, 4, none⟩ (.slice v1 v2 v3)) (⟨fr, at_, qos, ret, props, topic, payload⟩, .slice v1 v2 v3) := hown.imp (fun h1 => row_base (row_keep (S := [w.heap.size]) h1 ((Ch.refl _ w3).setCell _ _ (.inl (by simp))) (fun b hb => by
          have h2 := (ownBlock_lt h1 hb).1
          have h3 := lt_of_heap hb2
          have h4 : w2.drew.heap.size = w2.heap.size := rfl
          simp only [List.mem_singleton]
          omega)) hc2.size) id
        generalize w3.setCell ⟨w.heap.size, 4, none⟩ (.slice v1 v2 v3) = w4 at hb4 hc4 hsl4 hfr4 ⊢
        have A4 := h.keep hc4
        have M4 : MsgAt w4 ⟨fr, at_, qos, ret, props, topic, payload⟩ (.slice v1 v2 v3) := ⟨hsl4, hm.few, hm.at0, hm.at1, hm.nums⟩
        refine wp_region_flow (Ch [] w4) 7 [(true, 0), (true, 1), (true, 2), (true, 3), (true, 4), (true, 5), (true, 6)] (by kernel_rfl) (by kernel_rfl) (Ch.refl [] w4).drew ?_
        intro hS hne
        have g0 := wd_cell A4.head 0 (v := .map (some bm)) rfl
        have k0 := wd_cell hb4 0 rfl
        have k1 := wd_cell hb4 1 rfl
        have k2 := wd_cell hb4 2 rfl
        have k3 := wd_cell hb4 3 rfl
        have k4 := wd_cell hb4 4 rfl
        have k5 := wd_cell hb4 5 rfl
        have k6 := wd_cell hb4 6 rfl
        repeat (refine flow_q (by rfl) ?_; go_big_quiet_step (fail); refine flow_n ?_)
        refine flow_t ?_
        clear g0 k0 k1 k2 k3 k4 k5 k6 hne hS
        obtain ⟨w5, hrun, hm5, hc5, hs5⟩ := (A4.map.keep (Ch.refl [] w4).drew (by simp)).run_put kStr Tryd.underlying140 topic (.agg #[.string fr, .int .i64 at_, .int .u8 qos, .bool ret, .slice v1 v2 v3, .string topic, .string payload])
        simp only [List.drop_succ_cons, List.drop_zero]
        go_wp2
        refine shut0_normal ?_
        simp only [Exit.then, Exit.inBlock]
        go_wp2
        go_ret
        rw [hset]
        refine ⟨_, rfl, rfl, aset l topic (⟨fr, at_, qos, ret, props, topic, payload⟩, .slice v1 v2 v3), A4.turn hc5.fromDrew (by rw [aset_map (fun q : MsgR × Value => q.1.v q.2)]; exact hm5) (fun p hp => ?_), by rw [absM_set], hc4.ofNil.then hc5.fromDrew, fun p hp => ?_⟩
        · rcases mem_aset hp with rfl | ⟨h1, _⟩
          · exact M4
          · exact A4.each p h1
        · rcases mem_aset hp with rfl | ⟨h1, _⟩
          · refine .inr (hfr4.imp (fun h1 => row_keep h1 hc5.fromDrew (fun b hb => ?_)) id)
            have h2 := (ownBlock_lt h1 hb).1
            have h3 := h.map.lt
            simp only [List.mem_singleton]
            omega
          · exact .inl h1
  | some q =>
    rw [hx] at hla
    obtain ⟨⟨qf, qa, qq, qr, qp, qt, qy⟩, qv⟩ := q
    obtain ⟨qo, qcap, hqv, _⟩ := (h.each _ (alook_mem hx)).sl
    have hsh : ∃ ao n c, qv = .slice ao n c := ⟨_, _, _, hqv⟩
    clear hqv
    obtain ⟨q1, q2, q3, rfl⟩ := hsh
    refine wp_region_flow (Ch [] w1) 12 [(true, 0), (true, 1), (true, 2), (true, 3), (true, 4), (true, 5), (true, 6), (true, 7), (true, 8), (true, 9), (false, 10), (false, 11)] (by kernel_rfl) (by kernel_rfl) (Ch.refl [] w1).drew ?_
    intro hS hne
    have f0 := wd_cell A1.head 0 (v := .map (some bm)) rfl
    have f5 := wd_cell hb 5 rfl
    have fl : ∀ y : Wd (Ch [] w1), (Instr.lookup 140 (.map (some bm)) (.string topic) true).run Tryd.prog y.v = .ok (.tuple #[.agg #[.string qf, .int .i64 qa, .int .u8 qq, .bool qr, .slice q1 q2 q3, .string qt, .string qy], .bool true]) y.v := fun y => by
      rw [(A1.map.keep y.p (by simp)).run_look_ok kStr Tryd.underlying140 (Tryd.zeroValue58 _) topic, alook_map (fun q : MsgR × Value => q.1.v q.2), hx]; rfl
    repeat (refine flow_q (by rfl) ?_; go_big_quiet_step (fail); refine flow_n ?_)
    refine flow_l (by rfl) ?_
    go_wp2
    refine ⟨hS.alloc _, ?_⟩
    refine flow_l (by rfl) ?_
    go_wp2
    refine loud_forget (by repeat' (first | exact hS.alloc _ | exact (Ch.refl [] w1).alloc _ | (refine Ch.drew ?_) | (refine Ch.setCell ?_ _ _ (.inr (by simp))))) (fun w2 hS2 => ?_)
    refine flow_t ?_
    clear f0 f5 fl hne hS
    simp only [List.drop_succ_cons, List.drop_zero]
    go_wp2
    refine shut0_normal ?_
    simp only [Exit.then, Exit.inBlock]
    have A2 := A1.keep hS2
    have M2 := M1.keep hS2
    have hb2 := hS2.keep hb (by simp)
    have hc2 := hc1.thenNil hS2
    have b6 : w2.cell? ⟨w.heap.size, 6, none⟩ = some (.string payload) := cell_of_heap hb2 6
    by_cases hp : payload = ⟨#[]⟩
    · subst hp
      go_wp2
      refine wp_region_flow (Ch [] w2) 6 [(true, 0), (true, 1), (true, 2), (true, 3), (true, 4), (true, 5)] (by kernel_rfl) (by kernel_rfl) (Ch.refl [] w2).drew ?_
      intro hS hne
      have f0 := wd_cell A2.head 0 (v := .map (some bm)) rfl
      have f5 := wd_cell hb2 5 rfl
      repeat (refine flow_q (by rfl) ?_; go_big_quiet_step (fail); refine flow_n ?_)
      refine flow_t ?_
      clear f0 f5 hne hS
      obtain ⟨w3, hrun, hm3, hc3, hs3⟩ := (A2.map.keep (Ch.refl [] w2).drew (by simp)).run_del kStr Tryd.underlying140 topic 0
      simp only [List.drop_succ_cons, List.drop_zero]
      go_wp2
      refine shut0_normal ?_
      simp only [Exit.then, Exit.inBlock]
      go_wp2
      go_ret
      refine ⟨_, rfl, by simp [setS], adel l topic, A2.turn (m' := adel l topic) hc3.fromDrew (by rw [adel_map (fun q : MsgR × Value => q.1.v q.2)]; exact hm3) (fun p hp => A2.each p ((adel_sub l topic).subset hp)), by rw [absM_del]; simp [setS], hc2.ofNil.then hc3.fromDrew, fun p hp => .inl ((adel_sub l topic).subset hp)⟩
    · have e1 : (payload.toList == []) = false := bytes_lit hp
      have hset : setS (absM l) most ⟨fr, at_, qos, ret, props, topic, payload⟩ = (aset (absM l) topic ⟨fr, at_, qos, ret, props, topic, payload⟩, 0) := by unfold setS; rw [if_neg hp, if_neg (fun h => by rw [hla] at h; cases h.1)]
      go_wp2
      refine wp_region_flow (Ch [] w2) 14 [(true, 0), (true, 1), (true, 2), (true, 3), (true, 4), (true, 5), (true, 6), (true, 7), (true, 8), (true, 9), (true, 10), (true, 11), (true, 12), (true, 13)] (by kernel_rfl) (by kernel_rfl) (Ch.refl [] w2).drew ?_
      intro hS hne
      repeat (refine flow_q (by rfl) ?_; go_big_quiet_step (fail); refine flow_n ?_)
      refine flow_t ?_
      clear hne hS
      simp only [List.drop_succ_cons, List.drop_zero]
      go_wp2
      refine shut0_normal ?_
      simp only [Exit.then, Exit.inBlock]
      have hcl := clone_read clonePr_lays (t := 27) (e := 62) rfl elProp Tryd.sizeOf62 w2.drew (.slice p1 p2 p3) props.length (props.flatMap PropR.cells) M2.sl (by have := hm.few; simp only at this; omega) (by omega) (by
        intro u hu
        obtain ⟨x, _, hx⟩ := List.mem_flatMap.1 hu
        simp [PropR.cells] at hx
        rcases hx with rfl | rfl | rfl | rfl <;> rfl)
      have b4 : w2.cell? ⟨w.heap.size, 4, none⟩ = some (.slice p1 p2 p3) := cell_of_heap hb2 4
      go_wp2_with fail
      refine Calls.mono hcl ?_
      rintro e w3 ⟨v', rfl, hown, hsl, hk3⟩
      have hsv : ∃ v1 v2 v3, v' = .slice v1 v2 v3 := by obtain ⟨bo, cap, rfl, _⟩ := hsl; exact ⟨_, _, _, rfl⟩
      obtain ⟨v1, v2, v3, rfl⟩ := hsv
      have hb3 := hk3.fromDrew.keep hb2 (by simp)
      have c4 : w3.cell? ⟨w.heap.size, 4, none⟩ = some (.slice p1 p2 p3) := cell_of_heap hb3 4
      have f4 : w3.frozen? ⟨w.heap.size, 4, none⟩ = false := free_of_heap hb3 4
      have hc3 := hc2.thenNil hk3.fromDrew
      go_wp2
      have hb4 := heap_setCell_at (i := 4) hb3 (.slice v1 v2 v3)
      simp only [List.setIfInBounds_toArray, List.set_cons_zero, List.set_cons_succ] at hb4
      have hc4 := hc3.setCell ⟨w.heap.size, 4, none⟩ (.slice v1 v2 v3) (.inr (by simp))
      have hsl4 : Sl (w3.setCell ⟨w.heap.size, 4, none⟩ (.slice v1 v2 v3)) (.slice v1 v2 v3) 4 props.length (props.flatMap PropR.cells) := hsl.keep (S := [w.heap.size]) ((Ch.refl _ w3).setCell _ _ (.inl (by simp))) (fun b hb => by
        rcases hown with hown | h0
        · refine .inl ?_
          have h1 := (ownBlock_lt hown hb).1
          have h2 := lt_of_heap hb2
          simp only [List.mem_singleton]
          have h3 : w2.drew.heap.size = w2.heap.size := rfl
          omega
        · exact .inr (by rw [h0]))
      have hfr4 : Fresh w.heap.size (w3.setCell ⟨w.heap.size, 4, none⟩ (.slice v1 v2 v3)) (⟨fr, at_, qos, ret, props, topic, payload⟩, .slice v1 v2 v3) := hown.imp (fun h1 => row_base (row_keep (S := [w.heap.size]) h1 ((Ch.refl _ w3).setCell _ _ (.inl (by simp))) (fun b hb => by
        have h2 := (ownBlock_lt h1 hb).1
        have h3 := lt_of_heap hb2
        have h4 : w2.drew.heap.size = w2.heap.size := rfl
        simp only [List.mem_singleton]
        omega)) hc2.size) id
      generalize w3.setCell ⟨w.heap.size, 4, none⟩ (.slice v1 v2 v3) = w4 at hb4 hc4 hsl4 hfr4 ⊢
      have A4 := h.keep hc4
      have M4 : MsgAt w4 ⟨fr, at_, qos, ret, props, topic, payload⟩ (.slice v1 v2 v3) := ⟨hsl4, hm.few, hm.at0, hm.at1, hm.nums⟩
      refine wp_region_flow (Ch [] w4) 7 [(true, 0), (true, 1), (true, 2), (true, 3), (true, 4), (true, 5), (true, 6)] (by kernel_rfl) (by kernel_rfl) (Ch.refl [] w4).drew ?_
      intro hS hne
      have g0 := wd_cell A4.head 0 (v := .map (some bm)) rfl
      have k0 := wd_cell hb4 0 rfl
      have k1 := wd_cell hb4 1 rfl
      have k2 := wd_cell hb4 2 rfl
      have k3 := wd_cell hb4 3 rfl
      have k4 := wd_cell hb4 4 rfl
      have k5 := wd_cell hb4 5 rfl
      have k6 := wd_cell hb4 6 rfl
      repeat (refine flow_q (by rfl) ?_; go_big_quiet_step (fail); refine flow_n ?_)
      refine flow_t ?_
      clear g0 k0 k1 k2 k3 k4 k5 k6 hne hS
      obtain ⟨w5, hrun, hm5, hc5, hs5⟩ := (A4.map.keep (Ch.refl [] w4).drew (by simp)).run_put kStr Tryd.underlying140 topic (.agg #[.string fr, .int .i64 at_, .int .u8 qos, .bool ret, .slice v1 v2 v3, .string topic, .string payload])
      simp only [List.drop_succ_cons, List.drop_zero]
      go_wp2
      refine shut0_normal ?_
      simp only [Exit.then, Exit.inBlock]
      go_wp2
      go_ret
      rw [hset]
      refine ⟨_, rfl, rfl, aset l topic (⟨fr, at_, qos, ret, props, topic, payload⟩, .slice v1 v2 v3), A4.turn hc5.fromDrew (by rw [aset_map (fun q : MsgR × Value => q.1.v q.2)]; exact hm5) (fun p hp => ?_), by rw [absM_set], hc4.ofNil.then hc5.fromDrew, fun p hp => ?_⟩
      · rcases mem_aset hp with rfl | ⟨h1, _⟩
        · exact M4
        · exact A4.each p h1
      · rcases mem_aset hp with rfl | ⟨h1, _⟩
        · refine .inr (hfr4.imp (fun h1 => row_keep h1 hc5.fromDrew (fun b hb => ?_)) id)
          have h2 := (ownBlock_lt h1 hb).1
          have h3 := h.map.lt
          simp only [List.mem_singleton]
          omega
        · exact .inl h1

end Go.Proofs.YticfeikmdfijiaaDoor
