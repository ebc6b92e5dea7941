/- RetainFull. -/
import Derived.Test.YticfeikmdfijiaaDoorRawake
import Derived.Test.YticfeikmdfijiaaDoorBox
import Derived.Test.YticfeikmdfijiaaDoorLastPlain
import Derived.Test.YticfeikmdfijiaaDoorRapart
import Derived.Laws.Runes
import Derived.Deep.Cut
import Derived.Lib.Hide
import Derived.Laws.Cover4
namespace Go.Proofs.YticfeikmdfijiaaDoor
open Go Go.RowKit

theorem absM_len (l : List (ByteArray × MsgR × Value)) : (absM l).length = l.length := by simp [absM]

/-- The bare message of a topic. -/
theorem bareMsg (w : World) (t p : ByteArray) : MsgAt w ⟨⟨#[]⟩, 0, 0, false, [], t, p⟩ (.slice none 0 0) := ⟨Sl.nil _ _, by simp, by simp, by simp, by simp⟩

theorem keys_le {k : Nat} {l : List (ByteArray × MsgR × Value)} (h : Held k (absM l)) (hk : k ≤ 30) : ∀ p ∈ l, p.1.size ≤ 100000 := fun p hp => by
  have h1 : p.1 ∈ (absM l).map (·.1) := by simp [absM]; exact ⟨_, _, hp⟩
  rw [h.keys] at h1
  obtain ⟨j, hj, e⟩ := List.mem_map.1 h1
  have := topicF_size j (by have := List.mem_range.1 hj; omega)
  rw [← e]
  omega

set_option maxHeartbeats 4000000 in
theorem rfull_call (w : World) (n : Int) (m : MsgR) (pv : Value) (h : ArgSl w pv m.props) (hn : NumsR m.props) (hi : IntAt w) :
    Gives Tryd.prog 7 #[.int .i64 n, m.v pv] w fun r w' => r = .bool true ∧ Ch [] w w' := by
  obtain ⟨p1, p3, hpv⟩ := h.shape'
  have hfew : ∀ w', Ch [] w w' → _ := fun w' (hc : Ch [] w w') => fewM_call w' m pv (h.keep hc) hn
  obtain ⟨fr, at_, qos, ret, props, topic, payload⟩ := m
  simp only at h hn hpv
  generalize hp2 : props.length = p2 at hpv
  subst hpv
  simp only [MsgR.v] at hfew ⊢
  generalize fewM ⟨fr, at_, qos, ret, props, topic, payload⟩ = mf at hfew
  obtain ⟨ffr, fat, fqos, fret, fprops, ftopic, fpay⟩ := mf
  have hc0 : Ch [] w (w.alloc (.cells #[.string fr, .int .i64 at_, .int .u8 qos, .bool ret, .slice p1 p2 p3, .string topic, .string payload] 58)) := (Ch.refl [] w).alloc _
  have hb0 := heap_new w (.cells #[.string fr, .int .i64 at_, .int .u8 qos, .bool ret, .slice p1 p2 p3, .string topic, .string payload] 58)
  have hi0 := hi.keep hc0 (by simp)
  clear hp2 h hn
  have HF := Lib.hid hfew
  clear hfew
  go_enter Tryd.func7, Tryd.ntmps7
  by_cases hlo : n < 0
  · have d1 : decide (n < 0) = true := by simpa using hlo
    go_wp2_with fail
    generalize w.alloc (.cells #[.string fr, .int .i64 at_, .int .u8 qos, .bool ret, .slice p1 p2 p3, .string topic, .string payload] 58) = w1 at hc0 hb0 hi0 ⊢
    refine Calls.mono (rawake_call w1 hi0) ?_
    rintro e w2 ⟨v, rfl, rfl, hk2⟩
    go_wp2_with fail
    refine Calls.mono (rawake_call w2 (hi0.keep hk2 (by simp))) ?_
    rintro e w3 ⟨v, rfl, rfl, hk3⟩
    go_wp2_with fail
    go_ret
    exact ⟨_, rfl, rfl, (hc0.thenNil hk2).thenNil hk3⟩
  have d1 : decide (n < 0) = false := by simpa using hlo
  by_cases hhi : 30 < n
  · have d2 : decide (30 < n) = true := by simpa using hhi
    go_wp2_with fail
    generalize w.alloc (.cells #[.string fr, .int .i64 at_, .int .u8 qos, .bool ret, .slice p1 p2 p3, .string topic, .string payload] 58) = w1 at hc0 hb0 hi0 ⊢
    refine Calls.mono (rawake_call w1 hi0) ?_
    rintro e w2 ⟨v, rfl, rfl, hk2⟩
    go_wp2_with fail
    refine Calls.mono (rawake_call w2 (hi0.keep hk2 (by simp))) ?_
    rintro e w3 ⟨v, rfl, rfl, hk3⟩
    go_wp2_with fail
    go_ret
    exact ⟨_, rfl, rfl, (hc0.thenNil hk2).thenNil hk3⟩
  have d2 : decide (30 < n) = false := by simpa using hhi
  obtain ⟨n, rfl⟩ : ∃ k : Nat, n = k := ⟨n.toNat, by omega⟩
  have hn0 : (0 : Int) ≤ n := by omega
  have hn30 : n ≤ 30 := by omega
  go_wp2_with fail
  generalize w.alloc (.cells #[.string fr, .int .i64 at_, .int .u8 qos, .bool ret, .slice p1 p2 p3, .string topic, .string payload] 58) = w1 at hc0 hb0 hi0 ⊢
  refine Calls.mono (rawake_call w1 hi0) ?_
  rintro e w2 ⟨v, rfl, rfl, hk2⟩
  go_wp2_with fail
  refine Calls.mono (store_new w2 n (by omega) (by omega)) ?_
  rintro e w3 ⟨v, rfl, bs, bm, rfl, A3, hk3, hbs, hbm⟩
  have hb3 := (hk2.thenNil hk3).keep hb0 (by simp)
  have hc3 := (hc0.thenNil hk2).thenNil hk3
  have hlt0 := lt_of_heap hb0
  have hsz2 := hk2.size
  clear d1 d2 hlo hhi
  go_wp2_with fail
  go_loopw [6] (fun v6 wr => ∃ (i : Nat) (l : List (ByteArray × MsgR × Value)), v6 = .int .i64 i ∧ i ≤ n ∧ StAt wr bs bm n l ∧ Held i (absM l) ∧ Ch [bm] w3 wr) (fun v6 _ => match v6 with | .int _ x => n - x.toNat | _ => 0)
  case atStart => exact ⟨0, [], rfl, by omega, A3, Held.nil, Ch.refl _ _⟩
  case round =>
    obtain ⟨i, l, rfl, hin, A, H, hcr⟩ := hrel
    by_cases hlt : i < n
    · have d3 : decide ((i : Int) < (n : Int)) = true := by simpa using hlt
      have x1 : IntKind.i64.wrap ((97 : Int) + i) = 97 + i := by rw [IntKind.wrap_i64]; omega
      have x2 : wrap32 ((97 : Int) + i) = 97 + i := by unfold wrap32; omega
      have x3 := encode_size_le ((97 : Int) + i)
      go_wp2_with fail
      refine Calls.mono (store_set wr bs bm n l A ⟨⟨#[]⟩, 0, 0, false, [], topicF i, ⟨#[120]⟩⟩ (.slice none 0 0) (bareMsg _ _ _)) ?_
      rintro e w4 ⟨v, rfl, hv, l', A', hl', hk', _⟩
      have hg := H.grow hlt hn30 ⟨⟨#[]⟩, 0, 0, false, [], topicF i, ⟨#[120]⟩⟩ rfl (by simp) rfl
      rw [hg.1] at hv
      subst hv
      have H' : Held (i + 1) (absM l') := by rw [hl']; exact hg.2
      clear hg hl' x1 x2 x3
      go_wp2_with fail
      exact ⟨⟨i + 1, l', by simp, by omega, A', H', hcr.then hk'⟩, by simp; omega⟩
    · have d3 : decide ((i : Int) < (n : Int)) = false := by simpa using hlt
      obtain rfl : i = n := by omega
      have hb4 := hcr.keep hb3 (by simp only [List.mem_singleton]; omega)
      have hc4 : Ch [] w wr := hc3.trans hcr (fun x hx => .inr (by simp only [List.mem_singleton] at hx; have := hc0.size; omega))
      obtain ⟨c0, c1, c2, c3, c4, c5, c6⟩ := cells7 hb4
      go_wp2_with fail
      refine Calls.mono (HF.out wr hc4) ?_
      rintro e w5 ⟨v, rfl, pv', rfl, hfr, hM5, hk5⟩
      obtain ⟨r1, r3, hpv⟩ := hM5.sl.shape'
      simp only at hpv
      generalize hr2 : fprops.length = r2 at hpv
      subst hpv
      have HR : Hid (fprops.length = r2) := hr2
      clear hr2 c0 c1 c2 c3 c4 c5 c6
      have hb5 := hk5.keep hb4 (by simp)
      have hc5 := hc4.thenNil hk5
      have A5 := A.keep hk5
      obtain ⟨c0, c1, c2, c3, c4, c5, c6⟩ := cells7 hb5
      obtain ⟨f0, f1, f2, f3, f4, f5, f6⟩ := frees7 hb5
      have hblt := lt_of_heap hb5
      go_upto_region 11 with fail
      have hb9 := heap_set1 6 (.string ⟨#[121]⟩) (cs := [.string ffr, .int .i64 fat, .int .u8 fqos, .bool fret, .slice r1 r2 r3, .string ⟨#[111, 116, 104, 101, 114]⟩, .string fpay]) (heap_set1 5 (.string ⟨#[111, 116, 104, 101, 114]⟩) (cs := [.string ffr, .int .i64 fat, .int .u8 fqos, .bool fret, .slice r1 r2 r3, .string ftopic, .string fpay]) (heap_set7 (v0 := .string ffr) (v1 := .int .i64 fat) (v2 := .int .u8 fqos) (v3 := .bool fret) (v4 := .slice r1 r2 r3) (v5 := .string ftopic) (v6 := .string fpay) hb5))
      have hk9 : Ch [w.heap.size] w5 (((((((((w5.setCell ⟨w.heap.size, 0, none⟩ (.string ffr)).setCell ⟨w.heap.size, 1, none⟩ (.int .i64 fat)).setCell ⟨w.heap.size, 2, none⟩ (.int .u8 fqos)).setCell ⟨w.heap.size, 3, none⟩ (.bool fret)).setCell ⟨w.heap.size, 4, none⟩ (.slice r1 r2 r3)).setCell ⟨w.heap.size, 5, none⟩ (.string ftopic)).setCell ⟨w.heap.size, 6, none⟩ (.string fpay)).setCell ⟨w.heap.size, 5, none⟩ (.string ⟨#[111, 116, 104, 101, 114]⟩)).setCell ⟨w.heap.size, 6, none⟩ (.string ⟨#[121]⟩)) := (((Ch.refl [w.heap.size] w5).set7 (b := w.heap.size) (v0 := .string ffr) (v1 := .int .i64 fat) (v2 := .int .u8 fqos) (v3 := .bool fret) (v4 := .slice r1 r2 r3) (v5 := .string ftopic) (v6 := .string fpay) (.inl (by simp))).setCell ⟨w.heap.size, 5, none⟩ (.string ⟨#[111, 116, 104, 101, 114]⟩) (.inl (by simp))).setCell ⟨w.heap.size, 6, none⟩ (.string ⟨#[121]⟩) (.inl (by simp))
      clear c0 c1 c2 c3 c4 c5 c6 f0 f1 f2 f3 f4 f5 f6
      generalize (((((((((w5.setCell ⟨w.heap.size, 0, none⟩ (.string ffr)).setCell ⟨w.heap.size, 1, none⟩ (.int .i64 fat)).setCell ⟨w.heap.size, 2, none⟩ (.int .u8 fqos)).setCell ⟨w.heap.size, 3, none⟩ (.bool fret)).setCell ⟨w.heap.size, 4, none⟩ (.slice r1 r2 r3)).setCell ⟨w.heap.size, 5, none⟩ (.string ftopic)).setCell ⟨w.heap.size, 6, none⟩ (.string fpay)).setCell ⟨w.heap.size, 5, none⟩ (.string ⟨#[111, 116, 104, 101, 114]⟩)).setCell ⟨w.heap.size, 6, none⟩ (.string ⟨#[121]⟩)) = w9 at hb9 hk9 ⊢
      simp only [List.set_cons_succ, List.set_cons_zero] at hb9
      have hM9 : MsgAt w9 ⟨ffr, fat, fqos, fret, fprops, ⟨#[111, 116, 104, 101, 114]⟩, ⟨#[121]⟩⟩ (.slice r1 r2 r3) := by
        refine ⟨hM5.sl.keep hk9 (fun b hb => ?_), hM5.few, hM5.at0, hM5.at1, hM5.nums⟩
        rcases hfr with h1 | h1
        · refine .inl ?_
          have h2 := (ownBlock_lt h1 hb).1
          have h3 := lt_of_heap hb4
          simp only [List.mem_singleton]
          omega
        · exact .inr (by rw [h1])
      have A9 : StAt w9 bs bm i l := A5.keepS hk9 (by simp only [List.mem_singleton]; omega) (by simp only [List.mem_singleton]; omega) (fun p hp b hb => .inr (by have := H.bare (p.1, p.2.1) (List.mem_map.2 ⟨p, hp, rfl⟩); simp only at this; rw [this]; rfl))
      have hc9 := hc5.trans hk9 (fun x hx => .inr (by simp only [List.mem_singleton] at hx; omega))
      obtain ⟨c0, c1, c2, c3, c4, c5, c6⟩ := cells7 hb9
      go_wp2_with fail
      refine Calls.mono (store_set w9 bs bm i l A9 ⟨ffr, fat, fqos, fret, fprops, ⟨#[111, 116, 104, 101, 114]⟩, ⟨#[121]⟩⟩ (.slice r1 r2 r3) hM9) ?_
      rintro e w10 ⟨v, rfl, hv, l', A10, hl', hk10, _⟩
      have hset := H.full hn30 ⟨ffr, fat, fqos, fret, fprops, ⟨#[111, 116, 104, 101, 114]⟩, ⟨#[121]⟩⟩ rfl (by simp)
      rw [hset] at hv hl'
      subst hv
      have H' : Held i (absM l') := by rw [hl']; exact H
      have hlen : l'.length = i := by have := H'.len; rwa [absM_len] at this
      have hLen := store_len w10 bs bm i l' A10
      rw [hlen] at hLen
      have hc10 : Ch [] w w10 := hc9.trans hk10 (fun x hx => .inr (by simp only [List.mem_singleton] at hx; have := hc0.size; omega))
      have HL : Hid (l'.length = i) := hlen
      clear hset hl' hlen c0 c1 c2 c3 c4 c5 c6 hM9 hfr hM5 H A A5 A9 hcr
      go_wp2_with fail
      refine Calls.mono hLen ?_
      rintro e w10 ⟨v, rfl, rfl, rfl⟩
      clear hLen
      go_wp2_with fail
      go_loopw [7] (fun v7 wr => ∃ (j : Nat) (l : List (ByteArray × MsgR × Value)), v7 = .int .i64 j ∧ j ≤ i ∧ StAt wr bs bm i l ∧ Held i (absM l) ∧ Ch [bm] w10 wr) (fun v7 _ => match v7 with | .int _ x => i - x.toNat | _ => 0)
      case atStart => exact ⟨0, l', rfl, by omega, A10, H', Ch.refl _ _⟩
      case round =>
        obtain ⟨j, q, rfl, hjn, A, H, hcr⟩ := hrel
        by_cases hlt : j < i
        · have d3 : decide ((j : Int) < (i : Int)) = true := by simpa using hlt
          have x1 : IntKind.i64.wrap ((97 : Int) + j) = 97 + j := by rw [IntKind.wrap_i64]; omega
          have x2 : wrap32 ((97 : Int) + j) = 97 + j := by unfold wrap32; omega
          have x3 := encode_size_le ((97 : Int) + j)
          go_wp2_with fail
          refine Calls.mono (store_set wr bs bm i q A ⟨⟨#[]⟩, 0, 0, false, [], topicF j, ⟨#[122]⟩⟩ (.slice none 0 0) (bareMsg _ _ _)) ?_
          rintro e w4 ⟨v, rfl, hv, q', A', hq', hk', _⟩
          have hg := H.again hn30 hlt ⟨⟨#[]⟩, 0, 0, false, [], topicF j, ⟨#[122]⟩⟩ rfl (by simp) rfl
          rw [hg.1] at hv
          subst hv
          have H' : Held i (absM q') := by rw [hq']; exact hg.2
          clear hg hq' x1 x2 x3
          go_wp2_with fail
          exact ⟨⟨j + 1, q', by simp, by omega, A', H', hcr.then hk'⟩, by simp; omega⟩
        · have d3 : decide ((j : Int) < (i : Int)) = false := by simpa using hlt
          have hcz : Ch [] w wr := hc10.trans hcr (fun x hx => .inr (by simp only [List.mem_singleton] at hx; have := hc0.size; omega))
          have hlen : q.length = i := by have := H.len; rwa [absM_len] at this
          have hLen := store_len wr bs bm i q A
          rw [hlen] at hLen
          have HQ : Hid (q.length = i) := hlen
          clear hlen
          go_wp2_with fail
          refine Calls.mono hLen ?_
          rintro e wz ⟨v, rfl, rfl, rfl⟩
          clear hLen
          go_wp2_with fail
          refine Calls.mono (store_match wz bs bm i q A ⟨#[43]⟩ 0 (by decide) (by omega) (by omega) (keys_le H hn30) (by have := HQ.out; omega) (hi.keep hcz (by simp))) ?_
          rintro e w12 ⟨v, rfl, ks, outs, hks, _, hou, hrow, _, hk12⟩
          have hlo : outs.length = i := by
            have h1 := congrArg List.length hou
            rw [List.length_map, H.met hn30 (by simpa [absM, List.map_map, Function.comp_def] using hks)] at h1
            exact h1
          obtain ⟨o1, o2, rfl⟩ := row_shape hrow
          rw [hlo]
          have HO : Hid (outs.length = i) := hlo
          clear hlo hou hrow hks
          go_wp2_with fail
          go_ret
          exact ⟨_, rfl, rfl, hcz.thenNil hk12⟩

end Go.Proofs.YticfeikmdfijiaaDoor
