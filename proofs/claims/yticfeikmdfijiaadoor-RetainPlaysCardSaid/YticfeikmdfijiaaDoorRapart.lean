/- RetainApart. -/
import Derived.Test.YticfeikmdfijiaaDoorRawake
import Derived.Test.YticfeikmdfijiaaDoorBox
import Derived.Test.YticfeikmdfijiaaDoorLastPlain
import Derived.Deep.Cut
namespace Go.Proofs.YticfeikmdfijiaaDoor
open Go Go.RowKit

theorem StAt.keepS {S : List Nat} {w w' : World} {bs bm : Nat} {most : Int} {m : List (ByteArray × MsgR × Value)} (h : StAt w bs bm most m) (hc : Ch S w w') (h1 : bs ∉ S) (h2 : bm ∉ S) (h3 : ∀ p ∈ m, ∀ b, p.2.2.ownBlock = some b → b ∉ S ∨ p.2.1.props.length = 0) : StAt w' bs bm most m :=
  ⟨hc.keep h.head h1, h.map.keep hc h2, fun p hp => ⟨(h.each p hp).sl.keep hc (fun b hb => (h3 p hp b hb).imp id (fun e => by rw [e])), (h.each p hp).few, (h.each p hp).at0, (h.each p hp).at1, (h.each p hp).nums⟩⟩

theorem matches_one (s : List (ByteArray × MsgR)) (f : ByteArray) (now : Int) (k : ByteArray) : (matchesS s f now [k]).length ≤ 1 := by
  have : matchesS s f now [k] = matchOne s f now k ++ [] := rfl
  rw [this, List.append_nil]
  unfold matchOne
  split
  · simp
  · split <;> simp

set_option maxHeartbeats 4000000 in
theorem rapart_call (w : World) (m : MsgR) (pv : Value) (f : ByteArray) (h : ArgSl w pv m.props) (hn : NumsR m.props) (hi : IntAt w) :
    Gives Tryd.prog 8 #[m.v pv, .string f] w fun r w' => r = .bool true ∧ Ch [] w w' := by
  obtain ⟨p1, p3, hpv⟩ := h.shape'
  have hfew := fun w' (hc : Ch [] w w') => fewM_call w' m pv (h.keep hc) hn
  obtain ⟨fr, at_, qos, ret, props, topic, payload⟩ := m
  simp only at h hn hpv
  generalize hp2 : props.length = p2 at hpv
  subst hpv
  simp only [MsgR.v] at hfew ⊢
  have ht30 : (fewM ⟨fr, at_, qos, ret, props, topic, payload⟩).topic.size ≤ 30 := cutS_size _ _
  have hy30 : (fewM ⟨fr, at_, qos, ret, props, topic, payload⟩).payload.size ≤ 30 := cutS_size _ _
  generalize fewM ⟨fr, at_, qos, ret, props, topic, payload⟩ = mf at hfew ht30 hy30
  obtain ⟨ffr, fat, fqos, fret, fprops, ftopic, fpay⟩ := mf
  simp only at ht30 hy30
  have hc0 : Ch [] w (w.alloc (.cells #[.string fr, .int .i64 at_, .int .u8 qos, .bool ret, .slice p1 p2 p3, .string topic, .string payload] 58)) := (Ch.refl [] w).alloc _
  have hb0 := heap_new w (.cells #[.string fr, .int .i64 at_, .int .u8 qos, .bool ret, .slice p1 p2 p3, .string topic, .string payload] 58)
  have hf0 := hfew _ hc0
  clear hfew hp2 h hn
  go_enter Tryd.func8, Tryd.ntmps8
  go_wp2_with fail
  refine Calls.mono hf0 ?_
  rintro e w2 ⟨v, rfl, pv', rfl, hfr, hM2, hk2⟩
  have ha0 := hM2.at0
  have ha1 := hM2.at1
  simp only at ha0 ha1
  obtain ⟨r1, r3, hpv⟩ := hM2.sl.shape'
  simp only at hpv
  generalize hr2 : fprops.length = r2 at hpv
  subst hpv
  clear hr2 hf0 hfr hM2
  have hb2 := hk2.keep hb0 (by simp)
  have hc2 : Ch [] w w2 := hc0.thenNil hk2
  obtain ⟨c0, c1, c2, c3, c4, c5, c6⟩ := cells7 hb2
  obtain ⟨f0, f1, f2, f3, f4, f5, f6⟩ := frees7 hb2
  go_upto_region 2 with fail
  clear c0 c1 c2 c3 c4 c5 c6 f0 f1 f2 f3 f4 f5 f6
  have hb4 := heap_set7 (v0 := .string ffr) (v1 := .int .i64 fat) (v2 := .int .u8 fqos) (v3 := .bool fret) (v4 := .slice r1 r2 r3) (v5 := .string ftopic) (v6 := .string fpay) hb2
  have hc4 := hc2.set7 (b := w.heap.size) (v0 := .string ffr) (v1 := .int .i64 fat) (v2 := .int .u8 fqos) (v3 := .bool fret) (v4 := .slice r1 r2 r3) (v5 := .string ftopic) (v6 := .string fpay) (.inr (Nat.le_refl _))
  generalize (((((((w2.setCell ⟨w.heap.size, 0, none⟩ (.string ffr)).setCell ⟨w.heap.size, 1, none⟩ (.int .i64 fat)).setCell ⟨w.heap.size, 2, none⟩ (.int .u8 fqos)).setCell ⟨w.heap.size, 3, none⟩ (.bool fret)).setCell ⟨w.heap.size, 4, none⟩ (.slice r1 r2 r3)).setCell ⟨w.heap.size, 5, none⟩ (.string ftopic)).setCell ⟨w.heap.size, 6, none⟩ (.string fpay)) = w4 at hb4 hc4 ⊢
  obtain ⟨c0, c1, c2, c3, c4, c5, c6⟩ := cells7 hb4
  obtain ⟨f0, f1, f2, f3, f4, f5, f6⟩ := frees7 hb4
  have hlt4 := lt_of_heap hb4
  go_upto_region 3 with fail
  clear c0 c1 c2 c3 c4 c5 c6 f0 f1 f2 f3 f4 f5 f6
  have hb6 := heap_old (heap_set1 4 (.slice (some ⟨w4.heap.size, 0, none⟩) 1 1) (cs := [.string ffr, .int .i64 fat, .int .u8 fqos, .bool fret, .slice r1 r2 r3, .string ftopic, .string fpay]) hb4) (.cells #[.int .i64 3, .int .u32 0, .string ⟨#[97]⟩, .string ⟨#[]⟩] 62)
  have hp6 := heap_new (w4.setCell ⟨w.heap.size, 4, none⟩ (.slice (some ⟨w4.heap.size, 0, none⟩) 1 1)) (.cells #[.int .i64 3, .int .u32 0, .string ⟨#[97]⟩, .string ⟨#[]⟩] 62)
  have hc6 := (hc4.setCell ⟨w.heap.size, 4, none⟩ (.slice (some ⟨w4.heap.size, 0, none⟩) 1 1) (.inr (Nat.le_refl _))).alloc (.cells #[.int .i64 3, .int .u32 0, .string ⟨#[97]⟩, .string ⟨#[]⟩] 62)
  have hsz : (w4.setCell ⟨w.heap.size, 4, none⟩ (.slice (some ⟨w4.heap.size, 0, none⟩) 1 1)).heap.size = w4.heap.size := by simp
  rw [hsz] at hp6
  have hw4 : w.heap.size < w4.heap.size := lt_of_heap hb4
  clear hsz hlt4 hb4 hc4
  generalize (w4.setCell ⟨w.heap.size, 4, none⟩ (.slice (some ⟨w4.heap.size, 0, none⟩) 1 1)).alloc (.cells #[.int .i64 3, .int .u32 0, .string ⟨#[97]⟩, .string ⟨#[]⟩] 62) = w6 at hb6 hp6 hc6 ⊢
  generalize w4.heap.size = pb at hb6 hp6 hw4 ⊢
  simp only [List.set_cons_succ, List.set_cons_zero] at hb6
  obtain ⟨c0, c1, c2, c3, c4, c5, c6⟩ := cells7 hb6
  obtain ⟨f0, f1, f2, f3, f4, f5, f6⟩ := frees7 hb6
  have hx30 : (⟨#[120]⟩ ++ fpay : ByteArray).size ≤ 31 := by rw [ByteArray.size_append]; have : (⟨#[120]⟩ : ByteArray).size = 1 := rfl; omega
  go_wp2_with fail
  generalize hxp : (⟨#[120]⟩ ++ fpay : ByteArray) = xp at hx30 ⊢
  have hxne : xp ≠ ⟨#[]⟩ := by
    rintro rfl
    have := congrArg ByteArray.size hxp
    rw [ByteArray.size_append] at this
    have h1 : (⟨#[120]⟩ : ByteArray).size = 1 := rfl
    have h0 : (⟨#[]⟩ : ByteArray).size = 0 := rfl
    omega
  clear hxp
  have hb7 := heap_set1 6 (.string xp) (cs := [.string ffr, .int .i64 fat, .int .u8 fqos, .bool fret, .slice (some ⟨pb, 0, none⟩) 1 1, .string ftopic, .string fpay]) hb6
  have hp7 := heap_setCell_ne hp6 (p := ⟨w.heap.size, 6, none⟩) (show pb ≠ w.heap.size by omega) (.string xp)
  have hc7 := hc6.setCell ⟨w.heap.size, 6, none⟩ (.string xp) (.inr (Nat.le_refl _))
  clear c0 c1 c2 c3 c4 c5 c6 f0 f1 f2 f3 f4 f5 f6 hb6 hp6 hc6
  generalize w6.setCell ⟨w.heap.size, 6, none⟩ (.string xp) = w7 at hb7 hp7 hc7 ⊢
  simp only [List.set_cons_succ, List.set_cons_zero] at hb7
  refine Calls.mono (cut_call _ f 30 (by omega)) ?_
  rintro e w7 ⟨v, rfl, rfl, rfl⟩
  have hf30 := cutS_size f 30
  generalize cutS f 30 = cf at hf30 ⊢
  go_wp2_with fail
  refine Calls.mono (rawake_call w7 (hi.keep hc7 (by simp))) ?_
  rintro e w8 ⟨v, rfl, rfl, hk8⟩
  have hb8 := hk8.keep hb7 (by simp)
  have hp8 := hk8.keep hp7 (by simp)
  have hc8 := hc7.thenNil hk8
  go_wp2_with fail
  refine Calls.mono (store_new w8 5 (by decide) (by decide)) ?_
  rintro e w9 ⟨v, rfl, bs, bm, rfl, A9, hk9, hbs, hbm⟩
  have hb9 := hk9.keep hb8 (by simp)
  have hp9 := hk9.keep hp8 (by simp)
  have hc9 := hc8.thenNil hk9
  have hM9 : MsgAt w9 ⟨ffr, fat, fqos, fret, [⟨3, 0, ⟨#[97]⟩, ⟨#[]⟩⟩], ftopic, xp⟩ (.slice (some ⟨pb, 0, none⟩) 1 1) := by
    refine ⟨⟨some (pb, 0), 1, rfl, rfl, Nat.le_refl _, le_maxLen (by simp), fun j u hj => ⟨pb, 0, rfl, ?_⟩⟩, by simp, ha0, ha1, by simp⟩
    rw [cell_of_heap hp9]
    simpa [PropR.cells] using hj
  obtain ⟨c0, c1, c2, c3, c4, c5, c6⟩ := cells7 hb9
  go_wp2_with fail
  refine Calls.mono (store_set w9 bs bm 5 [] A9 ⟨ffr, fat, fqos, fret, [⟨3, 0, ⟨#[97]⟩, ⟨#[]⟩⟩], ftopic, xp⟩ (.slice (some ⟨pb, 0, none⟩) 1 1) hM9) ?_
  rintro e w10 ⟨v, rfl, hv, l', A10, hl10, hk10, hfr10⟩
  have hset : setS (absM []) 5 ⟨ffr, fat, fqos, fret, [⟨3, 0, ⟨#[97]⟩, ⟨#[]⟩⟩], ftopic, xp⟩ = ([(ftopic, ⟨ffr, fat, fqos, fret, [⟨3, 0, ⟨#[97]⟩, ⟨#[]⟩⟩], ftopic, xp⟩)], 0) := by simp [setS, hxne, alook, aset, absM]
  rw [hset] at hv hl10
  subst hv
  obtain ⟨pv4, rfl⟩ : ∃ pv4, l' = [(ftopic, (⟨ffr, fat, fqos, fret, [⟨3, 0, ⟨#[97]⟩, ⟨#[]⟩⟩], ftopic, xp⟩, pv4))] := by
    clear hM9 A10 hfr10 hset
    match l', hl10 with
    | [], h => simp [absM] at h
    | [(k, (m, pv))], h =>
      simp only [absM, List.map_cons, List.map_nil, List.cons.injEq, Prod.mk.injEq, and_true] at h
      obtain ⟨rfl, rfl⟩ := h
      exact ⟨pv, rfl⟩
    | a :: b :: l, h => simp [absM] at h
  have hfr : Fresh w9.heap.size w10 (⟨ffr, fat, fqos, fret, [⟨3, 0, ⟨#[97]⟩, ⟨#[]⟩⟩], ftopic, xp⟩, pv4) := (hfr10 (ftopic, (⟨ffr, fat, fqos, fret, [⟨3, 0, ⟨#[97]⟩, ⟨#[]⟩⟩], ftopic, xp⟩, pv4)) (by simp)).resolve_left (by simp)
  clear hset hl10 hfr10 c0 c1 c2 c3 c4 c5 c6
  have hlt7 := lt_of_heap hp8
  have hb10 := hk10.keep hb9 (by have := lt_of_heap hb8; simp only [List.mem_singleton]; omega)
  have hp10 := hk10.keep hp9 (by simp only [List.mem_singleton]; omega)
  have hc10 : Ch [] w w10 := hc9.trans hk10 (fun x hx => .inr (by simp only [List.mem_singleton] at hx; have := hc8.size; omega))
  obtain ⟨c0, c1, c2, c3, c4, c5, c6⟩ := cells7 hb10
  obtain ⟨d0, d1, d2, d3⟩ := cells4 hp10
  obtain ⟨f0, f1, f2, f3⟩ := frees4 hp10
  go_wp2_with fail
  have hbw := lt_of_heap hb10
  have hb11 := heap_setCell_ne hb10 (p := ⟨pb, 2, none⟩) (show w.heap.size ≠ pb by omega) (.string ⟨#[98]⟩)
  have hp11 := heap_set1 2 (.string ⟨#[98]⟩) (cs := [.int .i64 3, .int .u32 0, .string ⟨#[97]⟩, .string ⟨#[]⟩]) hp10
  have hc11 := hc10.setCell ⟨pb, 2, none⟩ (.string ⟨#[98]⟩) (.inr (show w.heap.size ≤ pb by omega))
  have A11 : StAt (w10.setCell ⟨pb, 2, none⟩ (.string ⟨#[98]⟩)) bs bm 5 [(ftopic, (⟨ffr, fat, fqos, fret, [⟨3, 0, ⟨#[97]⟩, ⟨#[]⟩⟩], ftopic, xp⟩, pv4))] := by
    refine A10.keepS (S := [pb]) ((Ch.refl _ w10).setCell _ _ (.inl (by simp))) (by simp only [List.mem_singleton]; omega) (by simp only [List.mem_singleton]; omega) (fun p hp b hb => .inl ?_)
    rw [List.mem_singleton.1 hp] at hb
    rcases hfr with h1 | h1
    · have h2 := (ownBlock_lt h1 hb).1
      have h3 := hk9.size
      simp only [List.mem_singleton]
      omega
    · simp at h1
  clear c0 c1 c2 c3 c4 c5 c6 d0 d1 d2 d3 f0 f1 f2 f3
  simp only [List.set_cons_succ, List.set_cons_zero] at hp11
  generalize w10.setCell ⟨pb, 2, none⟩ (.string ⟨#[98]⟩) = w11 at hb11 hp11 hc11 A11 ⊢
  have hi11 := hi.keep hc11 (by simp)
  have hmatch := fun w' (hc : Ch [] w11 w') => store_match w' bs bm 5 _ (A11.keep hc) cf 0 (by omega) (by omega) (by omega) (by simp; omega) (by simp) (hi11.keep hc (by simp))
  refine Calls.mono (hmatch w11 (Ch.refl _ _)) ?_
  rintro e w12 ⟨v, rfl, ks, outs, hks, _, hou, hrow12, hev12, hk12⟩
  have hks' : ks = [ftopic] := List.perm_singleton.1 hks
  subst hks'
  have HO : Hid (outs.length ≤ 1 ∧ ∀ p ∈ outs, p.1 = ⟨ffr, fat, fqos, fret, [⟨3, 0, ⟨#[97]⟩, ⟨#[]⟩⟩], ftopic, xp⟩) := by
    refine ⟨?_, fun p hp => ?_⟩
    · have h1 := matches_one (absM [(ftopic, (⟨ffr, fat, fqos, fret, [⟨3, 0, ⟨#[97]⟩, ⟨#[]⟩⟩], ftopic, xp⟩, pv4))]) cf 0 ftopic
      rw [← hou] at h1
      simpa using h1
    · have h1 : p.1 ∈ outs.map (·.1) := List.mem_map.2 ⟨p, hp, rfl⟩
      rw [hou] at h1
      obtain ⟨k, hk⟩ := matches_mem h1
      simp only [absM, List.map_cons, List.map_nil, alook] at hk
      split at hk
      · exact (Option.some.inj hk).symm
      · cases hk
  clear hou hks
  obtain ⟨o1, o2, rfl⟩ := row_shape hrow12
  generalize hn1 : outs.length = n1 at hrow12
  have HN : Hid (outs.length = n1) := hn1
  clear hn1
  have HV : Hid (∀ p ∈ outs, MsgAt w12 p.1 p.2 ∧ Fresh w11.heap.size w12 p) := hev12
  clear hev12
  go_wp2_with fail
  go_loopw [37] (fun v37 wr => ∃ i : Nat, v37 = .int .i64 i ∧ i ≤ n1 ∧ Ch [] w11 wr ∧ (i = 0 → wr = w12)) (fun v37 _ => match v37 with | .int _ x => n1 - x.toNat | _ => 0)
  case atStart => exact ⟨0, rfl, by omega, hk12, fun _ => rfl⟩
  case round =>
    obtain ⟨i, rfl, hin, hcr, hw0⟩ := hrel
    by_cases hi1 : i < n1
    · have hlt : decide ((i : Int) < (n1 : Int)) = true := by simpa using hi1
      have hi0 : i = 0 := by have := HO.out.1; have := HN.out; omega
      obtain rfl := hw0 hi0
      have hil : i < outs.length := by have := HN.out; omega
      have hp : outs[i]? = some outs[i] := List.getElem?_eq_getElem hil
      obtain ⟨hM, hF⟩ := HV.out _ (List.mem_of_getElem? hp)
      have hms := HO.out.2 _ (List.mem_of_getElem? hp)
      generalize outs[i] = p at hp hM hF hms
      obtain ⟨pm, po⟩ := p
      simp only at hms
      subst hms
      replace hF := hF.resolve_right (by simp)
      simp only [List.length_singleton] at hF
      obtain ⟨q1, q3, rfl⟩ := row_shape hF
      obtain ⟨g, rfl, _, hg⟩ := row_some hF (by omega)
      obtain ⟨b, o, cap', hsv, hcell⟩ := (Sl.ofRow hrow12).at (f := fun p : MsgR × Value => p.1.cells p.2) (i := i) (fun _ => rfl) (by omega) hp
      cases hsv
      have e0 := hcell 0 _ rfl
      have e1 := hcell 1 _ rfl
      have e2 := hcell 2 _ rfl
      have e3 := hcell 3 _ rfl
      have e4 := hcell 4 _ rfl
      have e5 := hcell 5 _ rfl
      have e6 := hcell 6 _ rfl
      simp only [← Nat.add_assoc, Nat.add_zero] at e0 e1 e2 e3 e4 e5 e6
      have hfz : wr.frozen? ⟨g, 2, none⟩ = false := hF.frozenAt 2
      have hgc : wr.cell? ⟨g, 2, none⟩ = some (.string ⟨#[97]⟩) := hF.cellAt 2 (by omega)
      have hi9 : i ≤ 1 := by omega
      have HP : Hid (outs[i]? = some (⟨ffr, fat, fqos, fret, [⟨3, 0, ⟨#[97]⟩, ⟨#[]⟩⟩], ftopic, xp⟩, .slice (some ⟨g, 0, none⟩) 1 q3)) := hp
      have hglt : g < wr.heap.size := (ownBlock_lt hF rfl).2
      clear hp hcell hM hi0 hw0
      go_wp2_with fail
      refine ⟨⟨i + 1, by simp, by omega, (hcr.setCell ⟨g, 2, none⟩ _ (.inr hg)).alloc _, fun h => by omega⟩, by simp; omega⟩
    · have hlt : decide ((i : Int) < (n1 : Int)) = false := by simpa using hi1
      clear hin hw0 hk12 HV hrow12
      go_wp2_with fail
      refine Calls.mono (hmatch wr hcr) ?_
      rintro e w13 ⟨v, rfl, ks, outs2, hks, _, hou, hrow13, hev13, hk13⟩
      have hks' : ks = [ftopic] := List.perm_singleton.1 hks
      subst hks'
      have hn2b : outs2.length ≤ 1 := by
        have h1 := matches_one (absM [(ftopic, (⟨ffr, fat, fqos, fret, [⟨3, 0, ⟨#[97]⟩, ⟨#[]⟩⟩], ftopic, xp⟩, pv4))]) cf 0 ftopic
        rw [← hou] at h1
        simpa using h1
      have HO2 : Hid (∀ p ∈ outs2, p.1 = ⟨ffr, fat, fqos, fret, [⟨3, 0, ⟨#[97]⟩, ⟨#[]⟩⟩], ftopic, xp⟩) := by
        intro p hp
        have h1 : p.1 ∈ outs2.map (·.1) := List.mem_map.2 ⟨p, hp, rfl⟩
        rw [hou] at h1
        obtain ⟨k, hk⟩ := matches_mem h1
        simp only [absM, List.map_cons, List.map_nil, alook] at hk
        split at hk
        · exact (Option.some.inj hk).symm
        · cases hk
      clear hou hks hlt hi1
      obtain ⟨u1, u2, rfl⟩ := row_shape hrow13
      generalize hn2 : outs2.length = n2 at hrow13 hn2b
      have HN2 : Hid (outs2.length = n2) := hn2
      clear hn2
      have HV2 : Hid (∀ p ∈ outs2, MsgAt w13 p.1 p.2) := fun p hp => (hev13 p hp).1
      clear hev13
      have hb13 := (hcr.thenNil hk13).keep hb11 (by simp)
      have hp13 := (hcr.thenNil hk13).keep hp11 (by simp)
      have hc13 := (hc11.thenNil hcr).thenNil hk13
      go_wp2_with fail
      go_loopw [50] (fun v50 wr => ∃ i : Nat, v50 = .int .i64 i ∧ i ≤ n2 ∧ Ch [] w13 wr) (fun v50 _ => match v50 with | .int _ x => n2 - x.toNat | _ => 0)
      case atStart => exact ⟨0, rfl, by omega, Ch.refl _ _⟩
      case round =>
        obtain ⟨j, rfl, hjn, hcq⟩ := hrel
        by_cases hj1 : j < n2
        · have hlt : decide ((j : Int) < (n2 : Int)) = true := by simpa using hj1
          have hjl : j < outs2.length := by have := HN2.out; omega
          have hp : outs2[j]? = some outs2[j] := List.getElem?_eq_getElem hjl
          have hM := HV2.out _ (List.mem_of_getElem? hp)
          have hms := HO2.out _ (List.mem_of_getElem? hp)
          generalize outs2[j] = p at hp hM hms
          obtain ⟨pm, po⟩ := p
          simp only at hms
          subst hms
          obtain ⟨bo, pcap, hpo, _, _, _, hpc⟩ := hM.sl
          obtain ⟨g, go, hbo, hg2⟩ := hpc 2 (.string ⟨#[97]⟩) rfl
          subst hbo
          have hpo' : po = .slice (some ⟨g, go, none⟩) 1 pcap := hpo
          clear hpo
          subst hpo'
          have k2 := hcq.cell hg2 (by simp)
          obtain ⟨b, o, cap', hsv, hcell⟩ := ((Sl.ofRow hrow13).keep hcq (by simp)).at (f := fun p : MsgR × Value => p.1.cells p.2) (i := j) (fun _ => rfl) (by omega) hp
          cases hsv
          have e0 := hcell 0 _ rfl
          have e1 := hcell 1 _ rfl
          have e2 := hcell 2 _ rfl
          have e3 := hcell 3 _ rfl
          have e4 := hcell 4 _ rfl
          have e5 := hcell 5 _ rfl
          have e6 := hcell 6 _ rfl
          simp only [← Nat.add_assoc, Nat.add_zero] at e0 e1 e2 e3 e4 e5 e6
          have hglt : g < wr.heap.size := World.block_lt_of_cell? wr _ k2
          clear hp hcell hM hpc hg2
          go_wp2_with fail
          refine ⟨⟨j + 1, by simp, by omega, hcq.alloc _⟩, by simp; omega⟩
        · have hlt : decide ((j : Int) < (n2 : Int)) = false := by simpa using hj1
          clear hjn
          have hbq := hcq.keep hb13 (by simp)
          have hpq := hcq.keep hp13 (by simp)
          have hcz := hc13.thenNil hcq
          have hMq : MsgAt wr ⟨ffr, fat, fqos, fret, [⟨3, 0, ⟨#[98]⟩, ⟨#[]⟩⟩], ftopic, xp⟩ (.slice (some ⟨pb, 0, none⟩) 1 1) := by
            refine ⟨⟨some (pb, 0), 1, rfl, rfl, Nat.le_refl _, le_maxLen (by simp), fun j u hj => ⟨pb, 0, rfl, ?_⟩⟩, by simp, ha0, ha1, by simp⟩
            rw [cell_of_heap hpq]
            simpa [PropR.cells] using hj
          obtain ⟨c0, c1, c2, c3, c4, c5, c6⟩ := cells7 hbq
          go_wp2_with fail
          refine Calls.mono (pub_call wr ⟨ffr, fat, fqos, fret, [⟨3, 0, ⟨#[98]⟩, ⟨#[]⟩⟩], ftopic, xp⟩ _ 0 hMq (by decide) (by decide)) ?_
          rintro e w14 ⟨v, rfl, pv', rfl, hrow14, _, hk14⟩
          replace hrow14 := hrow14.resolve_right (by simp)
          simp only [List.length_singleton] at hrow14
          obtain ⟨y1, y3, rfl⟩ := row_shape hrow14
          obtain ⟨g, rfl, _, hg⟩ := row_some hrow14 (by omega)
          have hglt : g < w14.heap.size := (ownBlock_lt hrow14 rfl).2
          have hgf : w14.frozen? ⟨g, 2, none⟩ = false := hrow14.frozenAt 2
          have hgc : w14.cell? ⟨g, 2, none⟩ = some (.string ⟨#[98]⟩) := hrow14.cellAt 2 (by omega)
          have hb14 := hk14.keep hbq (by simp)
          have hp14 := hk14.keep hpq (by simp)
          have hplt := lt_of_heap hpq
          have hblt := lt_of_heap hbq
          have hpg : ¬ pb = g := by omega
          have hbg : ¬ w.heap.size = g := by omega
          have hplt2 := lt_of_heap hp14
          have hblt2 := lt_of_heap hb14
          clear c0 c1 c2 c3 c4 c5 c6
          obtain ⟨c0, c1, c2, c3, c4, c5, c6⟩ := cells7 hb14
          obtain ⟨d0, d1, d2, d3⟩ := cells4 hp14
          go_wp2_with fail
          go_ret
          exact ⟨_, rfl, rfl, ((hcz.thenNil hk14).setCell ⟨g, 2, none⟩ _ (.inr (show w.heap.size ≤ g by have := hcz.size; omega))).alloc _⟩

end Go.Proofs.YticfeikmdfijiaaDoor
