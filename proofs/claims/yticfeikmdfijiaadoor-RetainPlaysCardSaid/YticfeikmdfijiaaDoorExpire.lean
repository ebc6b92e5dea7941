/- The store's Expire: a range over a map that deletes what it stands at. -/
import Derived.Test.YticfeikmdfijiaaDoorSmatch
import Derived.Test.YticfeikmdfijiaaDoorIt
import Derived.Test.YticfeikmdfijiaaDoorBox
import Derived.Deep.Cut
import Derived.Deep.CutBlock
namespace Go.Proofs.YticfeikmdfijiaaDoor
open Go Go.RowKit Go.MapKept

section
variable {κ γ : Type} [DecidableEq κ] {enc : κ → Value} {f : γ → Value × Value} {P : Program} {w : World} {b r : Nat} {left : List γ} {t k e : TypeId}

/-- delete(m, x), where x isn't still to come. -/
theorem ItAt.del {m : List (κ × Value)} (h : ItAt f w r b left) (hm : IsMap enc w b m) (K : KeyTy P k enc) (ht : P.underlying t = some (.map k e)) (x : κ) (hx : ∀ p ∈ left, (f p).1 ≠ enc x) (ty : TypeId) :
    ∃ w', (Builtin.delete_ #[t, k] ty #[.map (some b), enc x]).run P w = .ok (.tuple #[]) w' ∧ IsMap enc w' b (adel m x) ∧ ItAt f w' r b left ∧ Ch [b] w w' := by
  have hne := h.ne
  obtain ⟨es, c, seen, hr, hb, hs, hp⟩ := h
  obtain ⟨es', c', hb', hs', he⟩ := hm
  rw [hb] at hb'
  cases hb'
  obtain ⟨d, hd, hk⟩ := K.desc
  have hc := IsMap.run_check K x es.isEmpty w
  have hkeep : ∀ o, ({ w with heap := w.heap.setIfInBounds b o } : World).heap[r]? = some (.mapIter (some b) c seen c) := fun o => (ch_setHeap w b o).keep hr (by simpa using hne)
  rcases find_pairs K hd x es.toList m 0 he with ⟨h1, h2⟩ | ⟨j, v0, h1, h2, _, h4, h5, y, hy, hyk⟩
  · refine ⟨{ w with heap := w.heap.setIfInBounds b (.map es c) }, ?_, ⟨_, _, (heap_set hb).1, hs, by rw [adel_none h2]; exact he⟩, ⟨es, c, seen, hkeep _, (heap_set hb).1, hs, hp⟩, ch_setHeap _ _ _⟩
    simp [Builtin.delete_, run_underlying ht, MapKept.run_getObj_map hb, hc, run_findKey hd h1, MapKept.run_setObj_map _ hb, Result.andThen]
  · have hj : j < es.size := by simpa using h5
    have e1 : (es.eraseIdxIfInBounds j).toList = es.toList.eraseIdx j := by
      unfold Array.eraseIdxIfInBounds
      simp [hj]
    have hseen : seen.contains y.born = true := by
      cases hc' : seen.contains y.born with
      | true => rfl
      | false =>
        have hmem : y ∈ (leftOf es seen).toList := by
          unfold leftOf
          rw [Array.toList_filter]
          exact List.mem_filter.2 ⟨List.mem_of_getElem? hy, by rw [hc']; rfl⟩
        have := hp.subset (List.mem_map.2 ⟨y, hmem, rfl⟩)
        obtain ⟨p, hpl, hpe⟩ := List.mem_map.1 this
        exact absurd (by rw [hpe]; exact hyk) (hx p hpl)
    have hleft : (leftOf (es.eraseIdxIfInBounds j) seen).toList = (leftOf es seen).toList := by
      unfold leftOf
      rw [Array.toList_filter, Array.toList_filter, e1, List.eraseIdx_eq_take_drop_succ]
      have e2 : es.toList = es.toList.take j ++ y :: es.toList.drop (j + 1) := by
        rw [← drop_at hy, List.take_append_drop]
      conv => rhs; rw [e2]
      have hs2 : y.born ∈ seen := by simpa using hseen
      simp [hs2, List.filter_append]
    refine ⟨{ w with heap := w.heap.setIfInBounds b (.map (es.eraseIdxIfInBounds j) c) }, ?_, ⟨_, _, (heap_set hb).1, stamped_erase hs j, by rw [e1]; exact h4⟩, ⟨_, c, seen, hkeep _, (heap_set hb).1, stamped_erase hs j, by rw [hleft]; exact hp⟩, ch_setHeap _ _ _⟩
    simp [Builtin.delete_, run_underlying ht, MapKept.run_getObj_map hb, hc, run_findKey hd h1, MapKept.run_setObj_map _ hb, Result.andThen]
end

theorem mem_adel {α : Type} {l : List (ByteArray × α)} (hn : (l.map (·.1)).Nodup) {x : ByteArray} {q : ByteArray × α} : q ∈ adel l x ↔ q ∈ l ∧ q.1 ≠ x := by
  constructor
  · intro h
    refine ⟨(adel_sub l x).subset h, fun e => ?_⟩
    have h1 := alook_of_mem (adel_nodup hn x) (x := q.1) (v := q.2) h
    rw [alook_adel hn, if_pos e.symm] at h1
    cases h1
  · rintro ⟨h, hne⟩
    have h1 := alook_of_mem hn (x := q.1) (v := q.2) h
    have h2 : alook (adel l x) q.1 = some q.2 := by rw [alook_adel hn, if_neg (fun e => hne e.symm)]; exact h1
    exact alook_mem h2

set_option maxHeartbeats 1000000 in
theorem expire1_call (w : World) (bn : Nat) (now : Int) (k : ByteArray) (m : MsgR) (pv : Value) (hM : MsgAt w m pv) (hn : w.cell? ⟨bn, 0, none⟩ = some (.int .i64 now)) (n0 : 0 ≤ now) (n1 : now ≤ 1000000) :
    Gives Tryd.prog 71 #[.string k, m.v pv, .pointer (some ⟨bn, 0, none⟩)] w fun r w' => r = .bool (goneS m now) ∧ Ch [] w w' := by
  have hg : ∀ w', Ch [] w w' → _ := fun w' (hc : Ch [] w w') => gone_call w' m pv now (hM.keep hc) n0 n1
  obtain ⟨p1, p3, hpv⟩ := hM.sl.shape'
  obtain ⟨fr, at_, qos, ret, props, topic, payload⟩ := m
  simp only at hpv
  generalize props.length = p2 at hpv
  subst hpv
  simp only [MsgR.v] at hg ⊢
  have hcB : Ch [] w (w.alloc (.cells #[.string fr, .int .i64 at_, .int .u8 qos, .bool ret, .slice p1 p2 p3, .string topic, .string payload] 58)) := (Ch.refl [] w).alloc _
  have hbB := heap_new w (.cells #[.string fr, .int .i64 at_, .int .u8 qos, .bool ret, .slice p1 p2 p3, .string topic, .string payload] 58)
  clear hM
  go_enter Tryd.func71, Tryd.ntmps71
  go_upto_region 1 with fail
  generalize w.alloc (.cells #[.string fr, .int .i64 at_, .int .u8 qos, .bool ret, .slice p1 p2 p3, .string topic, .string payload] 58) = w1 at hcB hbB ⊢
  obtain ⟨c0, c1, c2, c3, c4, c5, c6⟩ := cells7 hbB
  have hn1 := hcB.cell hn (by simp)
  have hg1 := hg w1 hcB
  clear hg hn
  go_wp2_with fail
  refine Calls.mono hg1 ?_
  rintro e w2 ⟨v, rfl, rfl, hk2⟩
  go_wp2_with fail
  go_ret
  exact ⟨_, rfl, rfl, hcB.thenNil hk2⟩

theorem nodup_of_map {α β : Type} {f : α → β} {l : List α} (h : (l.map f).Nodup) : l.Nodup := by
  induction l with
  | nil => exact List.nodup_nil
  | cons x l ih =>
    simp only [List.map_cons, List.nodup_cons] at h ⊢
    exact ⟨fun hx => h.1 (List.mem_map.2 ⟨x, hx, rfl⟩), ih h.2⟩

/-- What is left when p's turn is over. -/
structure Left (now : Int) (l C left : List (ByteArray × MsgR × Value)) : Prop where
  iff : ∀ q, q ∈ C ↔ q ∈ l ∧ (goneS q.2.1 now = false ∨ q ∈ left)
  sub : ∀ q ∈ left, q ∈ l
  nodup : (left.map (·.1)).Nodup

theorem Left.step {now : Int} {l C left left' : List (ByteArray × MsgR × Value)} {p : ByteArray × MsgR × Value} (h : Left now l C left) (hp : left.Perm (p :: left')) (hC : (C.map (·.1)).Nodup) (hl : (l.map (·.1)).Nodup) :
    p ∈ C ∧ (∀ q ∈ left', q.1 ≠ p.1) ∧ (goneS p.2.1 now = false → Left now l C left') ∧ (goneS p.2.1 now = true → Left now l (adel C p.1) left') := by
  have hpl : p ∈ left := hp.symm.subset List.mem_cons_self
  have hnd := (hp.map (·.1)).nodup_iff.1 h.nodup
  simp only [List.map_cons, List.nodup_cons] at hnd
  have hne : ∀ q ∈ left', q.1 ≠ p.1 := fun q hq e => hnd.1 (List.mem_map.2 ⟨q, hq, e⟩)
  have hsub : ∀ q ∈ left', q ∈ left := fun q hq => hp.symm.subset (List.mem_cons_of_mem _ hq)
  have hmem : ∀ q, q ∈ left ↔ q = p ∨ q ∈ left' := fun q => (hp.mem_iff (a := q)).trans List.mem_cons
  refine ⟨(h.iff p).2 ⟨h.sub p hpl, .inr hpl⟩, hne, fun hg => ⟨fun q => ?_, fun q hq => h.sub q (hsub q hq), hnd.2⟩, fun hg => ⟨fun q => ?_, fun q hq => h.sub q (hsub q hq), hnd.2⟩⟩
  · rw [h.iff q, hmem q]
    constructor
    · rintro ⟨h1, h2 | rfl | h2⟩
      · exact ⟨h1, .inl h2⟩
      · exact ⟨h1, .inl hg⟩
      · exact ⟨h1, .inr h2⟩
    · rintro ⟨h1, h2 | h2⟩
      · exact ⟨h1, .inl h2⟩
      · exact ⟨h1, .inr (.inr h2)⟩
  · rw [mem_adel hC, h.iff q, hmem q]
    constructor
    · rintro ⟨⟨h1, h2 | rfl | h2⟩, h3⟩
      · exact ⟨h1, .inl h2⟩
      · exact absurd rfl h3
      · exact ⟨h1, .inr h2⟩
    · rintro ⟨h1, h2 | h2⟩
      · refine ⟨⟨h1, .inl h2⟩, fun e => ?_⟩
        have := map_nodup_inj hl h1 (h.sub p hpl) e
        subst this
        rw [hg] at h2
        cases h2
      · exact ⟨⟨h1, .inr (.inr h2)⟩, hne q h2⟩

theorem Left.done {now : Int} {l C : List (ByteArray × MsgR × Value)} (h : Left now l C []) (hC : (C.map (·.1)).Nodup) (hl : (l.map (·.1)).Nodup) : C.Perm (l.filter fun p => !goneS p.2.1 now) := by
  refine (List.perm_ext_iff_of_nodup (nodup_of_map hC) ((nodup_of_map hl).filter _)).2 fun q => ?_
  rw [h.iff q, List.mem_filter]
  simp

set_option maxHeartbeats 2000000 in
theorem delfunc_call (w : World) (bs bm bn : Nat) (most : Int) (l : List (ByteArray × MsgR × Value)) (h : StAt w bs bm most l) (now : Int) (hn : w.cell? ⟨bn, 0, none⟩ = some (.int .i64 now)) (hne : bn ≠ bm) (n0 : 0 ≤ now) (n1 : now ≤ 1000000) :
    Gives Tryd.prog 70 #[.map (some bm), .func (.func 71) #[] #[.pointer (some ⟨bn, 0, none⟩)]] w fun _ w' => ∃ C, StAt w' bs bm most C ∧ C.Perm (l.filter fun p => !goneS p.2.1 now) ∧ Ch [bm] w w' := by
  have hlp : (l.map (·.1)).Nodup := by have := h.map.nodup; simpa [List.map_map, Function.comp_def] using this
  obtain ⟨o, hrange, hIt⟩ := h.map.run_range Tryd.underlying140
  have hc5 : Ch [] w (w.alloc o) := (Ch.refl [] w).alloc o
  have hlt := h.map.lt
  have hn5 := hc5.cell hn (by simp)
  have hM5 := h.map.keep hc5 (by simp)
  have hfrom : ∀ (C : List (ByteArray × MsgR × Value)) (w' : World), IsMap Value.string w' bm (C.map fun p => (p.1, p.2.1.v p.2.2)) → Ch [bm] w w' → (∀ q ∈ C, q ∈ l) → StAt w' bs bm most C := by
    intro C w' hm hc hq
    obtain ⟨es, c, hb, _⟩ := h.map
    exact ⟨hc.keep h.head (by simp [h.ne]), hm, fun p hp => (h.each p (hq p hp)).keepMap hb hc⟩
  have HF := Lib.hid hfrom
  clear hfrom h
  go_enter Tryd.func70, Tryd.ntmps70
  go_upto_block 0 with fail
  generalize w.alloc o = w5 at hIt hc5 hM5 hn5 ⊢
  obtain ⟨r, hr⟩ : ∃ r, r = w.heap.size := ⟨_, rfl⟩
  rw [← hr] at hIt hlt ⊢
  have HR : Hid (r = w.heap.size) := hr
  clear hr hrange
  go_wp2_with fail
  go_loopw [4] (fun v4 wr => ∃ (C left : List (ByteArray × MsgR × Value)), v4 = v4 ∧ IsMap Value.string wr bm (C.map fun p => (p.1, p.2.1.v p.2.2)) ∧ ItAt (fun p => (Value.string p.1, p.2.1.v p.2.2)) wr r bm left ∧ Left now l C left ∧ Ch [bm] w wr) (fun _ wr => wr.rangeLeft bm r)
  case atStart => exact ⟨l, l, rfl, hM5, hIt, ⟨fun q => ⟨fun h => ⟨h, .inr h⟩, fun h => h.1⟩, fun q hq => hq, hlp⟩, hc5.ofNil⟩
  case round =>
    obtain ⟨C, left, -, hM, hit, hL, hcr⟩ := hrel
    have hCp : (C.map (·.1)).Nodup := by have := hM.nodup; simpa [List.map_map, Function.comp_def] using this
    rcases hit.next (P := Tryd.prog) with ⟨rfl, hnx⟩ | ⟨p, left', w7, hperm, hnx, hent, hit', hk7⟩
    · have hres := hL.done hCp hlp
      have A := HF.out C wr hM hcr (fun q hq => ((hL.iff q).1 hq).1)
      go_wp2_with fail
      go_end0
      exact ⟨_, rfl, C, A, hres, hcr⟩
    · obtain ⟨h1, h2, h3, h4⟩ := hL.step hperm hCp hlp
      have hdl : w7.rangeLeft bm r < wr.rangeLeft bm r := by
        rw [hit.left_eq, hit'.left_eq, hperm.length_eq]
        simp
      have hc7 : Ch [bm] w w7 := hcr.trans hk7 (fun x hx => .inr (by have := HR.out; simp only [List.mem_singleton] at hx; omega))
      have hM7 := hM.keep hk7 (by simpa using fun e => hit.ne e.symm)
      have A7 := HF.out C w7 hM7 hc7 (fun q hq => ((hL.iff q).1 hq).1)
      have hMp := A7.each p h1
      obtain ⟨pk, pm, pv⟩ := p
      simp only at hnx hent h2 h3 h4 hMp
      obtain ⟨p1, p3, hpv⟩ := hMp.sl.shape'
      obtain ⟨fr, at_, qos, ret, props, topic, payload⟩ := pm
      simp only at hpv
      obtain ⟨p2, hp2⟩ : ∃ p2, p2 = props.length := ⟨_, rfl⟩
      rw [← hp2] at hpv
      subst hpv
      have hx1 := fun w' (hc : Ch [] w7 w') => expire1_call w' bn now pk ⟨fr, at_, qos, ret, props, topic, payload⟩ (.slice p1 p2 p3) (hMp.keep hc) (hc.cell (hc7.cell hn (by simpa using hne)) (by simp)) n0 n1
      simp only [MsgR.v] at hx1 hnx hent
      have HX := Lib.hid hx1
      have HA := Lib.hid A7
      have HH := Lib.hid (And.intro h3 h4)
      have hcB : Ch [] w7 (w7.alloc (.cells #[.string fr, .int .i64 at_, .int .u8 qos, .bool ret, .slice p1 p2 p3, .string topic, .string payload] 58)) := (Ch.refl [] w7).alloc _
      have hbB := heap_new w7 (.cells #[.string fr, .int .i64 at_, .int .u8 qos, .bool ret, .slice p1 p2 p3, .string topic, .string payload] 58)
      clear hx1 A7 h3 h4 hp2
      go_upto_region 3 with fail
      generalize w7.alloc (.cells #[.string fr, .int .i64 at_, .int .u8 qos, .bool ret, .slice p1 p2 p3, .string topic, .string payload] 58) = w8 at hcB hbB ⊢
      obtain ⟨c0, c1, c2, c3, c4, c5, c6⟩ := cells7 hbB
      have hx8 := HX.out w8 hcB
      have hM9 := fun w' (hc : Ch [] w8 w') => (hM7.keep hcB (by simp)).keep hc (by simp)
      have hit9 := fun w' (hc : Ch [] w8 w') => (hit'.keep hcB (by simp) (by simp)).keep hc (by simp) (by simp)
      cases hg : goneS ⟨fr, at_, qos, ret, props, topic, payload⟩ now with
      | false =>
        rw [hg] at hx8
        have hL' := HH.out.1 hg
        clear hg
        go_wp2_with fail
        refine Calls.mono hx8 ?_
        rintro e w9 ⟨v, rfl, rfl, hk9⟩
        have hit10 := hit9 w9 hk9
        have hM10 := hM9 w9 hk9
        have hdl : w9.rangeLeft bm r < wr.rangeLeft bm r := by
          rw [hit.left_eq, hit10.left_eq, hperm.length_eq]
          simp
        have hc10 := (hc7.thenNil hcB).thenNil hk9
        clear hx8 hM9 hit9 hit hit' hM hM7 c0 c1 c2 c3 c4 c5 c6 hnx hent
        go_wp2_with fail
        exact ⟨⟨C, left', trivial, hM10, hit10, hL', hc10⟩, hdl⟩
      | true =>
        rw [hg] at hx8
        have hL' := HH.out.2 hg
        clear hg
        go_wp2_with fail
        refine Calls.mono hx8 ?_
        rintro e w9 ⟨v, rfl, rfl, hk9⟩
        obtain ⟨w10, hrun, hM10, hit10, hk10⟩ := (hit9 w9 hk9).del (hM9 w9 hk9) kStr Tryd.underlying140 pk (fun p hp e => h2 p hp (by simpa using e)) 0
        have hdl : w10.rangeLeft bm r < wr.rangeLeft bm r := by
          rw [hit.left_eq, hit10.left_eq, hperm.length_eq]
          simp
        have hc10 := ((hc7.thenNil hcB).thenNil hk9).then hk10
        clear hx8 hM9 hit9 hit hit' hM hM7 c0 c1 c2 c3 c4 c5 c6 hnx hent
        go_wp2_with fail
        exact ⟨⟨adel C pk, left', trivial, by rw [adel_map (fun q : MsgR × Value => q.1.v q.2)]; exact hM10, hit10, hL', hc10⟩, hdl⟩

set_option maxHeartbeats 1000000 in
theorem store_expire (w : World) (bs bm : Nat) (most : Int) (l : List (ByteArray × MsgR × Value)) (h : StAt w bs bm most l) (now : Int) (hl : l.length ≤ 100000) (n0 : 0 ≤ now) (n1 : now ≤ 1000000) :
    Gives Tryd.prog 43 #[.pointer (some ⟨bs, 0, none⟩), .int .i64 now] w fun r w' => ∃ C, r = .int .i64 ((l.length : Int) - C.length) ∧ StAt w' bs bm most C ∧ C.Perm (l.filter fun p => !goneS p.2.1 now) ∧ Ch [bm] w w' := by
  have hcB : Ch [] w (w.alloc (.cells #[.int .i64 now] 3)) := (Ch.refl [] w).alloc _
  have hbB := heap_new w (.cells #[.int .i64 now] 3)
  have hlt := h.map.lt
  have A1 := h.keep hcB
  go_enter Tryd.func43, Tryd.ntmps43
  go_upto_region 1 with fail
  generalize w.alloc (.cells #[.int .i64 now] 3) = w1 at hcB hbB A1 ⊢
  have c0 : w1.cell? ⟨bs, 0, none⟩ = some (.map (some bm)) := cell_of_heap A1.head 0
  have hn : w1.cell? ⟨w.heap.size, 0, none⟩ = some (.int .i64 now) := cell_of_heap hbB 0
  have hlen := A1.map.run_len Tryd.underlying140
  simp only [List.length_map] at hlen
  have hdf := delfunc_call w1 bs bm w.heap.size most l A1 now hn (by omega) n0 n1
  have HB := Lib.hid hl
  clear hl
  go_wp2_with fail
  refine Calls.mono hdf ?_
  rintro e w2 ⟨v, rfl, C, A2, hC, hk2⟩
  have hCl : C.length ≤ l.length := by rw [hC.length_eq]; exact List.length_filter_le _ _
  have c0' : w2.cell? ⟨bs, 0, none⟩ = some (.map (some bm)) := cell_of_heap A2.head 0
  have hlen' := A2.map.run_len Tryd.underlying140
  simp only [List.length_map] at hlen'
  clear hlen c0 hdf
  have hw1 : IntKind.i64.wrap ((l.length : Int) - (C.length : Int)) = (l.length : Int) - (C.length : Int) := by rw [IntKind.wrap_i64]; have := HB.out; omega
  go_wp2_with fail
  go_ret
  exact ⟨_, rfl, C, rfl, A2, hC, hcB.ofNil.then hk2⟩

end Go.Proofs.YticfeikmdfijiaaDoor
