/- RetainPlays. -/
import Derived.Test.YticfeikmdfijiaaDoorPlaysPlain
import Derived.Test.YticfeikmdfijiaaDoorIs
import Derived.Test.YticfeikmdfijiaaDoorRlast
namespace Go.Proofs.YticfeikmdfijiaaDoor
open Go Go.RowKit

/-- A move. -/
structure ActR where
  kind : Int
  m : MsgR
  filter : ByteArray
  now : Int
def ActR.cells (a : ActR) (pv : Value) : List Value := [.int .i64 a.kind, .string a.m.from_, .int .i64 a.m.at_, .int .u8 a.m.qos, .bool a.m.ret, pv, .string a.m.topic, .string a.m.payload, .string a.filter, .int .i64 a.now]
/-- A row of moves as an argument may bear it. -/
def ArgActs (w : World) (v : Value) (l : List (ActR × Value)) : Prop :=
  ∃ ao cap, v = .slice ao l.length cap ∧ (l = [] ∨ Sl w v 10 l.length (l.flatMap fun p => p.1.cells p.2)) ∧ ∀ p ∈ l, ArgSl w p.2 p.1.m.props ∧ NumsR p.1.m.props

theorem cells10 {w : World} {b : Nat} {T : TypeId} {a0 a1 a2 a3 a4 a5 a6 a7 a8 a9 : Value} (h : w.heap[b]? = some (.cells #[a0, a1, a2, a3, a4, a5, a6, a7, a8, a9] T (0, 0))) :
    w.cell? ⟨b, 0, none⟩ = some a0 ∧ w.cell? ⟨b, 1, none⟩ = some a1 ∧ w.cell? ⟨b, 2, none⟩ = some a2 ∧ w.cell? ⟨b, 3, none⟩ = some a3 ∧ w.cell? ⟨b, 4, none⟩ = some a4 ∧ w.cell? ⟨b, 5, none⟩ = some a5 ∧ w.cell? ⟨b, 6, none⟩ = some a6 ∧ w.cell? ⟨b, 7, none⟩ = some a7 ∧ w.cell? ⟨b, 8, none⟩ = some a8 ∧ w.cell? ⟨b, 9, none⟩ = some a9 :=
  ⟨cell_of_heap h 0, cell_of_heap h 1, cell_of_heap h 2, cell_of_heap h 3, cell_of_heap h 4, cell_of_heap h 5, cell_of_heap h 6, cell_of_heap h 7, cell_of_heap h 8, cell_of_heap h 9⟩

theorem row_keepMap {w w' : World} {base e size n : Nat} {v : Value} {xs : List Value} {bm : Nat} {es : Array MapEntry} {c : Nat} (h : w.ownsRow base e size v n xs) (hm : w.heap[bm]? = some (.map es c)) (hc : Ch [bm] w w') : w'.ownsRow base e size v n xs := by
  refine row_keep h hc fun b hb => ?_
  obtain ⟨cur, hcur⟩ := row_block h hb
  simp only [List.mem_singleton]
  rintro rfl
  rw [hm] at hcur
  cases hcur
theorem RefL.keepMap {w w' : World} {v : Value} {l : List (MsgR × Value)} {bm bs : Nat} {most : Int} {sl : List (ByteArray × MsgR × Value)} (h : RefL w v l) (hA : StAt w bs bm most sl) (hc : Ch [bm] w w') : RefL w' v l := by
  obtain ⟨es, c, hb, _⟩ := hA.map
  exact ⟨row_keepMap h.row hb hc, fun p hp => row_keepMap (h.each p hp) hb hc⟩
theorem StAt.nodup {w : World} {bm bs : Nat} {most : Int} {sl : List (ByteArray × MsgR × Value)} (hA : StAt w bs bm most sl) : ((absM sl).map (·.1)).Nodup := by
  have := hA.map.nodup
  simpa [absM, List.map_map, Function.comp_def] using this
theorem PL.sizes {S : List (ByteArray × MsgR × Value)} {R : List (MsgR × Value)} (h : PL (absM S) R) (hok : ∀ p ∈ R, MsgOk p.1) : ∀ p ∈ S, p.1.size ≤ 100000 := by
  intro p hp
  have h1 : (p.1, p.2.1) ∈ absM S := List.mem_map.2 ⟨p, hp, rfl⟩
  have h2 := h.keys _ h1
  obtain ⟨r, hr, e⟩ := List.mem_map.1 (h.perm.subset (List.mem_map.2 ⟨_, h1, rfl⟩))
  have h3 := (hok r hr).name
  simp only at h2 e
  rw [h2, ← e]
  exact h3
theorem setR_ok {R : List (MsgR × Value)} {m : MsgR} {pv : Value} {most : Int} (hok : ∀ p ∈ R, MsgOk p.1) (hm : MsgOk m) : ∀ p ∈ (setR R (m, pv) most).1, MsgOk p.1 := by
  intro p hp
  unfold setR at hp
  split at hp
  · exact hok p (List.mem_filter.1 hp).1
  · split at hp
    · exact hok p hp
    · rcases ins_mem hp with rfl | hp
      · exact hm
      · exact hok p (List.mem_filter.1 hp).1
theorem setR_length (R : List (MsgR × Value)) (x : MsgR × Value) (most : Int) : (setR R x most).1.length ≤ R.length + 1 := by
  have hf : (R.filter (otherT x.1.topic)).length ≤ R.length := List.length_filter_le _ _
  unfold setR
  split
  · exact Nat.le_succ_of_le hf
  · split
    · exact Nat.le_succ _
    · simp only [ins_length]
      omega

set_option maxHeartbeats 2000000 in
theorem store_new' (w : World) (n : Int) :
    Gives Tryd.prog 26 #[.int .i64 n] w fun r w' => ∃ bs bm, r = .pointer (some ⟨bs, 0, none⟩) ∧ StAt w' bs bm (max n 0) [] ∧ Ch [] w w' ∧ w.heap.size ≤ bs ∧ w.heap.size ≤ bm := by
  have hmm := @run_makeMap Tryd.prog
  have hc1 : Ch [] w (w.alloc (Obj.map #[] 0)) := (Ch.refl [] w).alloc _
  have hc2 : Ch [] (w.alloc (Obj.map #[] 0)) ((w.alloc (Obj.map #[] 0)).alloc (Obj.cells #[.map (some w.heap.size), .int .i64 (max n 0)] 142)) := (Ch.refl [] _).alloc _
  have e1 : (w.alloc (Obj.map #[] 0)).heap.size = w.heap.size + 1 := by simp
  have hh := heap_new (w.alloc (Obj.map #[] 0)) (Obj.cells #[.map (some w.heap.size), .int .i64 (max n 0)] 142)
  rw [e1] at hh
  go_enter Tryd.func26, Tryd.ntmps26
  go_wp2
  go_ret
  exact ⟨_, rfl, w.heap.size + 1, w.heap.size, rfl, ⟨hh, (isMap_new w).keep hc2 (by simp), by simp⟩, hc1.thenNil hc2, by omega, by omega⟩

set_option maxRecDepth 20000 in
set_option maxHeartbeats 8000000 in
theorem rplays_call (w : World) (a0 : Int) (v : Value) (l : List (ActR × Value)) (h : ArgActs w v l) (hi : IntAt w) :
    Gives Tryd.prog 10 #[.int .i64 a0, v] w fun r w' => r = .bool true ∧ Ch [] w w' := by
  obtain ⟨a1, a3, rfl, hor, hel⟩ := h
  obtain ⟨n, hn⟩ : ∃ n, n = l.length := ⟨_, rfl⟩
  rw [← hn]
  have HN : Hid (n = l.length) := hn
  have HE : Hid (∀ p ∈ l, ArgSl w p.2 p.1.m.props ∧ NumsR p.1.m.props) := hel
  clear hn hel
  go_enter Tryd.func10, Tryd.ntmps10
  go_wp2_with fail
  refine Calls.mono (rawake_call w hi) ?_
  rintro e w2 ⟨v, rfl, rfl, hk2⟩
  go_wp2_with fail
  refine Calls.mono (store_new' w2 a0) ?_
  rintro e w3 ⟨v, rfl, bs, bm, rfl, A3, hk3, hbs, hbm⟩
  have hc3 := hk2.thenNil hk3
  have hbm0 : w.heap.size ≤ bm := by have := hk2.size; omega
  have hc4 := hc3.alloc (.cells #[] 84)
  have hb4 := heap_new w3 (.cells #[] 84)
  have A4 := A3.keep ((Ch.refl [] w3).alloc (.cells #[] 84))
  go_upto_region 5 with fail
  generalize w3.alloc (.cells #[] 84) = w4 at hc4 hb4 A4 ⊢
  generalize w3.heap.size = br at hb4 ⊢
  clear hk2 hk3 hc3 A3 hbs hbm
  go_wp2_with fail
  go_loopw [6, 7] (fun v6 v7 wr => ∃ (i : Nat) (sl : List (ByteArray × MsgR × Value)) (R : List (MsgR × Value)) (o1 : Option Addr) (o2 : Nat), v7 = .int .i64 i ∧ v6 = .slice o1 R.length o2 ∧ i ≤ n ∧ i ≤ 30 ∧ StAt wr bs bm (max a0 0) sl ∧ RefL wr (.slice o1 R.length o2) R ∧ PL (absM sl) R ∧ R.length ≤ i ∧ (∀ p ∈ R, MsgOk p.1) ∧ Ch [] w wr)
    (fun _ v7 _ => match v7 with | .int _ x => n - x.toNat | _ => 0)
  case atStart => exact ⟨0, [], [], some ⟨br, 0, none⟩, 0, rfl, rfl, by omega, by omega, A4, ⟨⟨rfl, .inr ⟨br, 0, #[], rfl, Nat.zero_le _, hb4, by simp, by decide, rfl, rfl⟩⟩, fun p hp => by cases hp⟩, PL.nil, by simp, (fun p hp => by cases hp), hc4⟩
  case round =>
    obtain ⟨i, sl, R, o1, o2, rfl, rfl, hin, hi30, A, X, P, hRi, hok, hcr⟩ := hrel
    by_cases hlt : i < n ∧ i < 30
    · have d1 : decide ((i : Int) < (n : Int)) = true := by simpa using hlt.1
      have d2 : decide ((i : Int) < 30) = true := by simp; omega
      obtain ⟨d3, d4⟩ := hlt
      have hil : i < l.length := by have := HN.out; omega
      have hp : l[i]? = some l[i] := List.getElem?_eq_getElem hil
      obtain ⟨hA, hNu⟩ := HE.out _ (List.mem_of_getElem? hp)
      have hs := (hor.resolve_left (by rintro rfl; simp at hil)).keep hcr (by simp)
      obtain ⟨b, o, cap', hsv, hcell⟩ := hs.at (f := fun p : ActR × Value => p.1.cells p.2) (i := i) (fun _ => rfl) (by omega) hp
      cases hsv
      generalize l[i] = p at hp hA hNu hcell
      obtain ⟨⟨kd, am, ft, nw⟩, po⟩ := p
      simp only at hA hNu hcell
      have hfew : ∀ w', Ch [] wr w' → _ := fun w' (hc : Ch [] wr w') => fewM_call w' am po ((hA.keep hcr).keep hc) hNu
      have hok5 : (fewM am).topic.size ≤ 30 := cutS_size _ _
      obtain ⟨p1, p3, hq⟩ := hA.shape'
      obtain ⟨fr, at_, qos, ret, props, topic, payload⟩ := am
      simp only at hq hfew hcell
      generalize props.length = p2 at hq
      subst hq
      simp only [MsgR.v] at hfew
      generalize fewM ⟨fr, at_, qos, ret, props, topic, payload⟩ = mf at hfew hok5
      obtain ⟨ffr, fat, fqos, fret, fprops, ftopic, fpay⟩ := mf
      simp only at hok5
      have HF := Lib.hid hfew
      have e0 := hcell 0 _ rfl
      have e1 := hcell 1 _ rfl
      have e2 := hcell 2 _ rfl
      have e3 := hcell 3 _ rfl
      have e4 := hcell 4 _ rfl
      have e5 := hcell 5 _ rfl
      have e6 := hcell 6 _ rfl
      have e7 := hcell 7 _ rfl
      have e8 := hcell 8 _ rfl
      have e9 := hcell 9 _ rfl
      simp only [← Nat.add_assoc, Nat.add_zero] at e0 e1 e2 e3 e4 e5 e6 e7 e8 e9
      clear hp hcell hA hNu hs hil hfew
      have hcB : Ch [] wr (wr.alloc (.cells #[.int .i64 kd, .string fr, .int .i64 at_, .int .u8 qos, .bool ret, .slice p1 p2 p3, .string topic, .string payload, .string ft, .int .i64 nw] 98)) := (Ch.refl [] wr).alloc _
      have hbB := heap_new wr (.cells #[.int .i64 kd, .string fr, .int .i64 at_, .int .u8 qos, .bool ret, .slice p1 p2 p3, .string topic, .string payload, .string ft, .int .i64 nw] 98)
      go_upto_region 9 with fail
      generalize wr.alloc (.cells #[.int .i64 kd, .string fr, .int .i64 at_, .int .u8 qos, .bool ret, .slice p1 p2 p3, .string topic, .string payload, .string ft, .int .i64 nw] 98) = w5 at hcB hbB ⊢
      have A5 := A.keep hcB
      have X5 := X.keep hcB
      have hbx : bm < wr.heap.size := A.map.lt
      generalize wr.heap.size = bx at hbB hbx ⊢
      clear e0 e1 e2 e3 e4 e5 e6 e7 e8 e9
      obtain ⟨c0, c1, c2, c3, c4, c5, c6, c7, c8, c9⟩ := cells10 hbB
      have hnow := tickS_range nw
      have n0 : 0 ≤ tickS nw := hnow.1
      have n1 : tickS nw ≤ 1000000 := by omega
      have hc5 := hcr.thenNil hcB
      clear hnow
      go_wp2_with fail
      refine Calls.mono (tick_call w5 nw) ?_
      rintro e w' ⟨v, rfl, rfl, hw⟩
      replace hw := hw.symm
      subst hw
      generalize tickS nw = now at n0 n1
      have hlS : sl.length = R.length := by have := P.len; rwa [absM_len'] at this
      have hi5 := hi.keep hc5 (by simp)
      have HKS := Lib.hid (P.sizes hok)
      have HNR := Lib.hid A.nodup
      have HP := Lib.hid P
      have HOK := Lib.hid hok
      clear P hok A X hi hor
      by_cases hk1 : kd = 1
      · subst hk1
        go_wp2_with fail
        refine Calls.mono (HF.out w5 hcB) ?_
        rintro e w6 ⟨v, rfl, pv', rfl, hfr, hM6, hk6⟩
        obtain ⟨r1, r3, hpv⟩ := hM6.sl.shape'
        simp only at hpv
        have hMok : MsgOk ⟨ffr, fat, fqos, fret, fprops, ftopic, fpay⟩ := ⟨hM6.few, hM6.at0, hM6.at1, hM6.nums, by show ftopic.size ≤ 100000; omega⟩
        obtain ⟨r2, hr2⟩ : ∃ r2, r2 = fprops.length := ⟨_, rfl⟩
        rw [← hr2] at hpv
        subst hpv
        have HM := Lib.hid hMok
        have hc6 := hc5.thenNil hk6
        have A6 := A5.keep hk6
        have X6 := X5.keep hk6
        have hbY := heap_new w6 (.cells #[.string ffr, .int .i64 fat, .int .u8 fqos, .bool fret, .slice r1 r2 r3, .string ftopic, .string fpay] 58)
        have hcY : Ch [] w6 (w6.alloc (.cells #[.string ffr, .int .i64 fat, .int .u8 fqos, .bool fret, .slice r1 r2 r3, .string ftopic, .string fpay] 58)) := (Ch.refl [] w6).alloc _
        have HR2 := Lib.hid hr2
        clear hr2 hMok hfr c0 c1 c2 c3 c4 c5 c6 c7 c8 c9 A5 X5
        go_upto_region 13 with fail
        generalize w6.alloc (.cells #[.string ffr, .int .i64 fat, .int .u8 fqos, .bool fret, .slice r1 r2 r3, .string ftopic, .string fpay] 58) = w7 at hcY hbY ⊢
        have A7 := A6.keep hcY
        have X7 := X6.keep hcY
        have hM7 := hM6.keep hcY
        have hc7 := hc6.thenNil hcY
        have hby : bm < w6.heap.size := A6.map.lt
        generalize w6.heap.size = by_ at hbY hby ⊢
        clear A6 X6 hM6 hc6 hc5
        obtain ⟨f0, f1, f2, f3, f4, f5, f6⟩ := cells7 hbY
        obtain ⟨st, hst⟩ : ∃ st, st = (setS (absM sl) (max a0 0) ⟨ffr, fat, fqos, fret, fprops, ftopic, fpay⟩).2 := ⟨_, rfl⟩
        have hset := store_set w7 bs bm (max a0 0) sl A7 ⟨ffr, fat, fqos, fret, fprops, ftopic, fpay⟩ (.slice r1 r2 r3) hM7
        simp only [MsgR.v] at hset
        go_wp2_with fail
        refine Calls.mono hset ?_
        rintro e w8 ⟨v, rfl, hv, sl', A8, hl8, hk8, _⟩
        rw [← hst] at hv
        subst hv
        have HST := Lib.hid hst
        clear hst
        have hM8 : MsgAt w8 ⟨ffr, fat, fqos, fret, fprops, ftopic, fpay⟩ (.slice r1 r2 r3) := by
          obtain ⟨es, c, hbm8, _⟩ := A7.map
          exact hM7.keepMap hbm8 hk8
        have X8 := X7.keepMap A7 hk8
        have hbY8 := hk8.keep hbY (by simp only [List.mem_singleton]; omega)
        have hc8 : Ch [] w w8 := hc7.trans hk8 (fun x hx => .inr (by simp only [List.mem_singleton] at hx; omega))
        clear hset f0 f1 f2 f3 f4 f5 f6 hM7 X7 A7 hbY hc7
        obtain ⟨f0, f1, f2, f3, f4, f5, f6⟩ := cells7 hbY8
        have htold := told12_call w8 ⟨ffr, fat, fqos, fret, fprops, ftopic, fpay⟩ (.slice r1 r2 r3) hM8.sl.arg hM8.few
        simp only [MsgR.v] at htold
        go_wp2_with fail
        refine Calls.mono htold ?_
        rintro e w9 ⟨v, rfl, pv9, rfl, hrow9, hk9⟩
        have X9 := X8.keep hk9
        have A9 := A8.keep hk9
        have hc9 := hc8.thenNil hk9
        have hrs := rset_call w9 (.slice o1 R.length o2) R ⟨ffr, fat, fqos, fret, fprops, ftopic, fpay⟩ pv9 (max a0 0) X9 (by omega) (row_base hrow9 (Nat.zero_le _))
        have hps := HP.out.set HNR.out (max a0 0) ⟨ffr, fat, fqos, fret, fprops, ftopic, fpay⟩ pv9
        rw [← hl8, ← HST.out] at hps
        have hlen9 := setR_length R (⟨ffr, fat, fqos, fret, fprops, ftopic, fpay⟩, pv9) (max a0 0)
        have hok9 := setR_ok (pv := pv9) (most := max a0 0) HOK.out HM.out
        obtain ⟨R', hR'⟩ : ∃ R', R' = (setR R (⟨ffr, fat, fqos, fret, fprops, ftopic, fpay⟩, pv9) (max a0 0)).1 := ⟨_, rfl⟩
        rw [← hR'] at hrs hps hlen9 hok9
        obtain ⟨P9, hs9⟩ := hps
        simp only [MsgR.v] at hrs
        clear HST hl8 hR' htold f0 f1 f2 f3 f4 f5 f6 X8 A8 hM8 hc8 hrow9
        rcases hs9 with ⟨s1, s2⟩ | ⟨s1, s2⟩
        all_goals
          rw [s2] at hrs
          subst s1
          go_wp2_with fail
          refine Calls.mono hrs ?_
          rintro e w10 ⟨v, rfl, v', rfl, X10, hk10⟩
          obtain ⟨q1, q2, hv'⟩ := row_shape X10.row
          subst hv'
          have A10 := A9.keep hk10
          have hc10 := hc9.thenNil hk10
          clear hrs
          have hlen := (P9).len
          rw [absM_len'] at hlen
          have HL := Lib.hid hlen
          clear hlen hlS
          go_wp2_with fail
          refine Calls.mono (store_len w10 bs bm (max a0 0) sl' A10) ?_
          rintro e wl ⟨v, rfl, hv, hw⟩
          rw [HL.out] at hv
          subst hv
          replace hw := hw.symm
          subst hw
          go_wp2_with fail
          exact ⟨⟨i + 1, sl', R', q1, q2, by simp, rfl, by omega, by omega, A10, X10, P9, by omega, hok9, hc10⟩, by simp; omega⟩
      · by_cases hk2 : kd = 2
        · subst hk2
          have hsl : sl.length ≤ 100000 := by omega
          go_wp2_with fail
          refine Calls.mono (store_expire w5 bs bm (max a0 0) sl A5 now hsl n0 n1) ?_
          rintro e w6 ⟨v, rfl, C, hv, A6, hC, hk6⟩
          have X6 := X5.keepMap A5 hk6
          have hc6 : Ch [] w w6 := hc5.trans hk6 (fun x hx => .inr (by simp only [List.mem_singleton] at hx; omega))
          have hbB6 := hk6.keep hbB (by simp only [List.mem_singleton]; omega)
          have P6 : PL (absM C) (R.filter (stays now)) := HP.out.expire now (by
            have h9 := hC.map (fun p : ByteArray × MsgR × Value => (p.1, p.2.1))
            refine h9.trans (List.Perm.of_eq ?_)
            unfold absM
            rw [List.filter_map]
            rfl)
          have hlC : C.length = (R.filter (stays now)).length := by have := P6.len; rwa [absM_len'] at this
          have hex := rexpire_call w6 (.slice o1 R.length o2) R now X6 (by omega) HOK.out n0 n1
          have hok6 : ∀ p ∈ R.filter (stays now), MsgOk p.1 := fun p hp => HOK.out p (List.mem_filter.1 hp).1
          have hl6 : (R.filter (stays now)).length ≤ R.length := List.length_filter_le _ _
          rw [hlS, hlC] at hv
          subst hv
          clear c0 c1 c2 c3 c4 c5 c6 c7 c8 c9
          generalize R.filter (stays now) = R' at P6 hex hok6 hl6
          clear hC hlC
          go_wp2_with fail
          refine Calls.mono hex ?_
          rintro e w7 ⟨v, rfl, X7, hk7⟩
          obtain ⟨q1, q2, hv'⟩ := row_shape X7.row
          subst hv'
          have A7 := A6.keep hk7
          have hc7 := hc6.thenNil hk7
          have hw1 : IntKind.i64.wrap ((R.length : Int) - (R'.length : Int)) = (R.length : Int) - (R'.length : Int) := by rw [IntKind.wrap_i64]; omega
          clear hex A5 X5 A6 X6
          have hlen := (P6).len
          rw [absM_len'] at hlen
          have HL := Lib.hid hlen
          clear hlen hlS
          go_wp2_with fail
          refine Calls.mono (store_len w7 bs bm (max a0 0) C A7) ?_
          rintro e wl ⟨v, rfl, hv, hw⟩
          rw [HL.out] at hv
          subst hv
          replace hw := hw.symm
          subst hw
          go_wp2_with fail
          exact ⟨⟨i + 1, C, R', q1, q2, by simp, rfl, by omega, by omega, A7, X7, P6, by omega, hok6, hc7⟩, by simp; omega⟩
        · by_cases hk3 : kd = 3
          · subst hk3
            go_wp2_with fail
            refine Calls.mono (cut_call w5 ft 30 (by omega)) ?_
            rintro e w' ⟨v, rfl, rfl, hw⟩
            replace hw := hw.symm
            subst hw
            have hfs : (cutS ft 30).size ≤ 30 := cutS_size _ _
            generalize cutS ft 30 = f at hfs
            have hsm := store_match w5 bs bm (max a0 0) sl A5 f now (by omega) n0 n1 HKS.out (by omega) hi5
            clear c0 c1 c2 c3 c4 c5 c6 c7 c8 c9
            go_wp2_with fail
            refine Calls.mono hsm ?_
            rintro e w6 ⟨v, rfl, ks, outs, hks, hsort, hou, hrow, hev, hk6⟩
            have he := hou.trans (HP.out.matches HNR.out (by simpa [absM, List.map_map, Function.comp_def] using hks) hsort f now)
            have X6 := X5.keep hk6
            have hrm := rmatches_call w6 (.slice o1 R.length o2) R f now X6 (by omega) HOK.out (by omega) n0 n1
            have hO6 : OutL w6 v outs := ⟨⟨_, hrow⟩, fun p hp => ⟨(hev p hp).1.sl.arg, (hev p hp).1.few⟩⟩
            have hol : outs.length ≤ 100000 := by
              have h1 := congrArg List.length he
              simp only [List.length_map] at h1
              have h2 : (R.filter (tells f now)).length ≤ R.length := List.length_filter_le _ _
              omega
            clear hsm hks hsort hou hrow hev
            go_wp2_with fail
            refine Calls.mono hrm ?_
            rintro e w7 ⟨v7, rfl, X7, hk7⟩
            have his := is_call w7 v v7 outs (R.filter (tells f now)) (hO6.keep hk7) X7 he hol
            go_wp2_with fail
            refine Calls.mono his ?_
            rintro e w8 ⟨v8, rfl, rfl, hk8⟩
            have hk68 := (hk6.thenNil hk7).thenNil hk8
            have A8 := A5.keep hk68
            have X8 := X5.keep hk68
            have hc8 := hc5.thenNil hk68
            clear hrm his A5 X5 X6 X7
            have hlen := (HP.out).len
            rw [absM_len'] at hlen
            have HL := Lib.hid hlen
            clear hlen hlS
            go_wp2_with fail
            refine Calls.mono (store_len w8 bs bm (max a0 0) sl A8) ?_
            rintro e wl ⟨v, rfl, hv, hw⟩
            rw [HL.out] at hv
            subst hv
            replace hw := hw.symm
            subst hw
            go_wp2_with fail
            exact ⟨⟨i + 1, sl, R, o1, o2, by simp, rfl, by omega, by omega, A8, X8, HP.out, by omega, HOK.out, hc8⟩, by simp; omega⟩
          · have t1 : (kd == 1) = false := by simpa using hk1
            have t2 : (kd == 2) = false := by simpa using hk2
            have t3 : (kd == 3) = false := by simpa using hk3
            have hlen := (HP.out).len
            rw [absM_len'] at hlen
            have HL := Lib.hid hlen
            clear hlen hlS
            go_wp2_with fail
            refine Calls.mono (store_len w5 bs bm (max a0 0) sl A5) ?_
            rintro e wl ⟨v, rfl, hv, hw⟩
            rw [HL.out] at hv
            subst hv
            replace hw := hw.symm
            subst hw
            go_wp2_with fail
            exact ⟨⟨i + 1, sl, R, o1, o2, by simp, rfl, by omega, by omega, A5, X5, HP.out, by omega, HOK.out, hc5⟩, by simp; omega⟩
    · have key : (¬ i < n ∧ decide ((i : Int) < (n : Int)) = false) ∨ (i < n ∧ ¬ i < 30 ∧ decide ((i : Int) < (n : Int)) = true ∧ decide ((i : Int) < 30) = false) := by
        by_cases h1 : i < n
        · exact .inr ⟨h1, by omega, by simpa using h1, by simp; omega⟩
        · exact .inl ⟨h1, by simpa using h1⟩
      have hi1 := hi.keep hcr (by simp)
      have hlS : sl.length = R.length := by have := P.len; rwa [absM_len'] at this
      have hsm := store_match wr bs bm (max a0 0) sl A ⟨#[35]⟩ 0 (by decide) (by omega) (by omega) (P.sizes hok) (by omega) hi1
      have hrm : ∀ w', Ch [] wr w' → _ := fun w' (hc : Ch [] wr w') => rmatches_call w' (.slice o1 R.length o2) R ⟨#[35]⟩ 0 (X.keep hc) (by omega) hok (by decide) (by omega) (by omega)
      have HRM := Lib.hid hrm
      have HP := Lib.hid P
      have HNR := Lib.hid A.nodup
      have hR30 : R.length ≤ 30 := by omega
      clear hlt hin hi30 hrm P hor
      rcases key with ⟨n1, d1⟩ | ⟨n1, n2, d1, d2⟩
      all_goals
        go_wp2_with fail
        refine Calls.mono hsm ?_
        rintro e w6 ⟨v, rfl, ks, outs, hks, hsort, hou, hrow, hev, hk6⟩
        have he := hou.trans (HP.out.matches HNR.out (by simpa [absM, List.map_map, Function.comp_def] using hks) hsort ⟨#[35]⟩ 0)
        have hO6 : OutL w6 v outs := ⟨⟨_, hrow⟩, fun p hp => ⟨(hev p hp).1.sl.arg, (hev p hp).1.few⟩⟩
        have hol : outs.length ≤ 100000 := by
          have h1 := congrArg List.length he
          simp only [List.length_map] at h1
          have h2 : (R.filter (tells ⟨#[35]⟩ 0)).length ≤ R.length := List.length_filter_le _ _
          omega
        have hrm := HRM.out w6 hk6
        clear hsm hks hsort hou hrow hev
        go_wp2_with fail
        refine Calls.mono hrm ?_
        rintro e w7 ⟨v7, rfl, X7, hk7⟩
        have his := is_call w7 v v7 outs (R.filter (tells ⟨#[35]⟩ 0)) (hO6.keep hk7) X7 he hol
        go_wp2_with fail
        refine Calls.mono his ?_
        rintro e w8 ⟨v8, rfl, rfl, hk8⟩
        go_wp2_with fail
        go_ret
        exact ⟨_, rfl, rfl, ((hcr.thenNil hk6).thenNil hk7).thenNil hk8⟩

end Go.Proofs.YticfeikmdfijiaaDoor
