/- RetainLast. -/
import Derived.Test.YticfeikmdfijiaaDoorRapart
import Derived.Test.YticfeikmdfijiaaDoorIt
import Derived.Deep.CutBlock
namespace Go.Proofs.YticfeikmdfijiaaDoor
open Go Go.RowKit

/-- A row of messages as an argument may bear it. -/
def ArgMs (w : World) (v : Value) (l : List (MsgR × Value)) : Prop :=
  ∃ ao cap, v = .slice ao l.length cap ∧ (l = [] ∨ Sl w v 7 l.length (l.flatMap fun p => p.1.cells p.2)) ∧ ∀ p ∈ l, ArgSl w p.2 p.1.props ∧ NumsR p.1.props

theorem StAt.keepM {w w' : World} {bs bm bl : Nat} {most : Int} {m : List (ByteArray × MsgR × Value)} {es : Array MapEntry} {c : Nat} (h : StAt w bs bm most m) (hl : w.heap[bl]? = some (.map es c)) (hc : Ch [bl] w w') (hne : bm ≠ bl) : StAt w' bs bm most m := by
  refine ⟨hc.keep h.head ?_, h.map.keep hc (by simpa using hne), fun p hp => (h.each p hp).keepMap hl hc⟩
  simp only [List.mem_singleton]
  rintro rfl
  have := h.head
  rw [hl] at this
  cases this

theorem absM_len' (l : List (ByteArray × MsgR × Value)) : (absM l).length = l.length := by simp [absM]

theorem setS_keys {s : List (ByteArray × MsgR)} {most : Int} {m : MsgR} {p : ByteArray × MsgR} (h : p ∈ (setS s most m).1) : p ∈ s ∨ p.1 = m.topic := by
  unfold setS at h
  split at h
  · exact .inl ((adel_sub _ _).subset h)
  · split at h
    · exact .inl h
    · rcases mem_aset h with rfl | ⟨h1, _⟩
      · exact .inr rfl
      · exact .inl h1

theorem matches_le (s : List (ByteArray × MsgR)) (f : ByteArray) (now : Int) (ks : List ByteArray) : (matchesS s f now ks).length ≤ ks.length := by
  induction ks with
  | nil => simp [matchesS]
  | cons k ks ih =>
    have e : matchesS s f now (k :: ks) = matchesS s f now [k] ++ matchesS s f now ks := by simp [matchesS]
    rw [e, List.length_append, List.length_cons]
    have := matches_one s f now k
    omega

def cntNe (l : List (ByteArray × ByteArray)) : Nat := (l.filter fun p => decide (p.2 ≠ ⟨#[]⟩)).length
theorem cntNe_perm {l m : List (ByteArray × ByteArray)} (h : l.Perm m) : cntNe l = cntNe m := (h.filter _).length_eq
theorem cntNe_cons (p : ByteArray × ByteArray) (l : List (ByteArray × ByteArray)) : cntNe (p :: l) = cntNe l + if p.2 = ⟨#[]⟩ then 0 else 1 := by
  unfold cntNe
  rw [List.filter_cons]
  by_cases h : p.2 = ⟨#[]⟩
  · rw [if_neg (by simpa using h), if_pos h]; rfl
  · rw [if_pos (by simpa using h), if_neg h]; rfl

set_option maxHeartbeats 4000000 in
theorem rlast_call (w : World) (v : Value) (l : List (MsgR × Value)) (h : ArgMs w v l) (hi : IntAt w) :
    Gives Tryd.prog 6 #[v] w fun r w' => r = .bool true ∧ Ch [] w w' := by
  obtain ⟨a1, a3, rfl, hor, hel⟩ := h
  obtain ⟨n, hn⟩ : ∃ n, n = l.length := ⟨_, rfl⟩
  rw [← hn]
  have HN : Hid (n = l.length) := hn
  have HE : Hid (∀ p ∈ l, ArgSl w p.2 p.1.props ∧ NumsR p.1.props) := hel
  clear hn hel
  go_enter Tryd.func6, Tryd.ntmps6
  go_wp2_with fail
  refine Calls.mono (rawake_call w hi) ?_
  rintro e w2 ⟨v, rfl, rfl, hk2⟩
  go_wp2_with fail
  refine Calls.mono (store_new w2 100 (by decide) (by decide)) ?_
  rintro e w3 ⟨v, rfl, bs, bm, rfl, A3, hk3, hbs, hbm⟩
  have hmm := @run_makeMap Tryd.prog
  have hc3 := hk2.thenNil hk3
  have hM4 := isMap_new (enc := Value.string) w3
  have hc4 := hc3.alloc (.map #[] 0)
  have A4 := A3.keep ((Ch.refl [] w3).alloc (.map #[] 0))
  have hne : bm ≠ w3.heap.size := by have := A3.map.lt; omega
  have hbl0 : w.heap.size ≤ w3.heap.size := hc3.size
  have hbm0 : w.heap.size ≤ bm := by have := hk2.size; omega
  go_upto_region 5 with fail
  clear hmm
  generalize w3.alloc (.map #[] 0) = w4 at hM4 hc4 A4 ⊢
  generalize w3.heap.size = bl at hM4 hne hbl0 ⊢
  go_wp2_with fail
  go_loopw [5] (fun v5 wr => ∃ (i : Nat) (sl : List (ByteArray × MsgR × Value)) (last : List (ByteArray × ByteArray)), v5 = .int .i64 i ∧ i ≤ n ∧ i ≤ 20 ∧ StAt wr bs bm 100 sl ∧ IsMap Value.string wr bl (last.map fun p => (p.1, Value.string p.2)) ∧ RL (absM sl) last ∧ sl.length ≤ i ∧ (∀ p ∈ sl, p.1.size ≤ 100000) ∧ Ch [] w wr)
    (fun v5 _ => match v5 with | .int _ x => n - x.toNat | _ => 0)
  case atStart => exact ⟨0, [], [], rfl, by omega, by omega, A4, hM4, RL.nil, by simp, by simp, hc4⟩
  case round =>
    obtain ⟨i, sl, last, rfl, hin, hi20, A, hML, hRL, hsl, hks, hcr⟩ := hrel
    by_cases hlt : i < n ∧ i < 20
    · have d1 : decide ((i : Int) < (n : Int)) = true := by simpa using hlt.1
      have d2 : decide ((i : Int) < 20) = true := by simp; omega
      have hil : i < l.length := by have := HN.out; omega
      have hp : l[i]? = some l[i] := List.getElem?_eq_getElem hil
      obtain ⟨hA, hNu⟩ := HE.out _ (List.mem_of_getElem? hp)
      have hs := (hor.resolve_left (by rintro rfl; simp at hil)).keep hcr (by simp)
      obtain ⟨b, o, cap', hsv, hcell⟩ := hs.at (f := fun p : MsgR × Value => p.1.cells p.2) (i := i) (fun _ => rfl) (by omega) hp
      cases hsv
      generalize l[i] = p at hp hA hNu hcell
      obtain ⟨pm, po⟩ := p
      have hfew := fewM_call wr pm po (hA.keep hcr) hNu
      obtain ⟨q1, q3, hq⟩ := hA.shape'
      obtain ⟨fr, at_, qos, ret, props, topic, payload⟩ := pm
      simp only at hq hfew hcell
      generalize props.length = q2 at hq
      subst hq
      have ht30 : (fewM ⟨fr, at_, qos, ret, props, topic, payload⟩).topic.size ≤ 30 := cutS_size _ _
      simp only [MsgR.v] at hfew
      generalize fewM ⟨fr, at_, qos, ret, props, topic, payload⟩ = mf at hfew ht30
      obtain ⟨ffr, fat, fqos, fret, fprops, ftopic, fpay⟩ := mf
      simp only at ht30
      have e0 := hcell 0 _ rfl
      have e1 := hcell 1 _ rfl
      have e2 := hcell 2 _ rfl
      have e3 := hcell 3 _ rfl
      have e4 := hcell 4 _ rfl
      have e5 := hcell 5 _ rfl
      have e6 := hcell 6 _ rfl
      simp only [← Nat.add_assoc, Nat.add_zero] at e0 e1 e2 e3 e4 e5 e6
      clear hp hcell hA hNu hs hil
      go_wp2_with fail
      refine Calls.mono hfew ?_
      rintro e w5 ⟨v, rfl, pv', rfl, hfr, hM5, hk5⟩
      have ha0 := hM5.at0
      have ha1 := hM5.at1
      simp only at ha0 ha1
      obtain ⟨r1, r3, hpv⟩ := hM5.sl.shape'
      simp only at hpv
      generalize fprops.length = r2 at hpv
      subst hpv
      clear hfew hfr hM5 e0 e1 e2 e3 e4 e5 e6
      have hb6 := heap_new w5 (.cells #[.string ffr, .int .i64 fat, .int .u8 fqos, .bool fret, .slice r1 r2 r3, .string ftopic, .string fpay] 58)
      have hc6 : Ch [] wr (w5.alloc (.cells #[.string ffr, .int .i64 fat, .int .u8 fqos, .bool fret, .slice r1 r2 r3, .string ftopic, .string fpay] 58)) := hk5.alloc _
      go_upto_region 9 with fail
      generalize w5.alloc (.cells #[.string ffr, .int .i64 fat, .int .u8 fqos, .bool fret, .slice r1 r2 r3, .string ftopic, .string fpay] 58) = w6 at hb6 hc6 ⊢
      have hbx : wr.heap.size ≤ w5.heap.size := hk5.size
      generalize w5.heap.size = bx at hb6 hbx ⊢
      obtain ⟨f0, f1, f2, f3, f4, f5, f6⟩ := frees7 hb6
      obtain ⟨c0, c1, c2, c3, c4, c5, c6⟩ := cells7 hb6
      have hlt6 := lt_of_heap hb6
      go_upto_region 10 with fail
      have hb7 := heap_set1 4 (.slice none 0 0) (cs := [.string ffr, .int .i64 fat, .int .u8 fqos, .bool fret, .slice r1 r2 r3, .string ftopic, .string fpay]) hb6
      have hc7 := hc6.setCell ⟨bx, 4, none⟩ (.slice none 0 0) (.inr hbx)
      clear f0 f1 f2 f3 f4 f5 f6 c0 c1 c2 c3 c4 c5 c6 hb6 hc6 hlt6
      generalize w6.setCell ⟨bx, 4, none⟩ (.slice none 0 0) = w7 at hb7 hc7 ⊢
      simp only [List.set_cons_succ, List.set_cons_zero] at hb7
      obtain ⟨c0, c1, c2, c3, c4, c5, c6⟩ := cells7 hb7
      have A7 := A.keep hc7
      have hset := hRL.set (by have := A.map.nodup; simpa [absM, List.map_map, Function.comp_def] using this) (most := 100) (by rw [absM_len']; omega) ⟨ffr, fat, fqos, fret, [], ftopic, fpay⟩
      go_wp2_with fail
      refine Calls.mono (store_set w7 bs bm 100 sl A7 ⟨ffr, fat, fqos, fret, [], ftopic, fpay⟩ (.slice none 0 0) ⟨Sl.nil _ _, by simp, ha0, ha1, by simp⟩) ?_
      rintro e w8 ⟨v, rfl, hv, sl', A8, hl8, hk8, _⟩
      rw [hset.1] at hv
      subst hv
      have hRL' : RL (absM sl') (aset last ftopic fpay) := by rw [hl8]; exact hset.2.1
      have hsl' : sl'.length ≤ i + 1 := by
        have h1 := hset.2.2
        rw [← hl8, absM_len', absM_len'] at h1
        omega
      have hks' : ∀ p ∈ sl', p.1.size ≤ 100000 := fun p hp => by
        have h1 : (p.1, p.2.1) ∈ absM sl' := List.mem_map.2 ⟨p, hp, rfl⟩
        rw [hl8] at h1
        rcases setS_keys h1 with h2 | h2
        · obtain ⟨p', hp', e⟩ := List.mem_map.1 h2
          simp only [Prod.mk.injEq] at e
          rw [← e.1]
          exact hks p' hp'
        · simp only at h2
          rw [h2]
          omega
      clear hset hl8 c0 c1 c2 c3 c4 c5 c6
      have hbne : bx ≠ bm := by have := A.map.lt; omega
      have hb8 := hk8.keep hb7 (by simpa using hbne)
      have hML8 := (hML.keep hc7 (by simp)).keep hk8 (by simpa using fun e => hne e.symm)
      obtain ⟨w9, hrun, hML9, hk9, hs9⟩ := hML8.run_put kStr Tryd.underlying70 ftopic (.string fpay)
      obtain ⟨c0, c1, c2, c3, c4, c5, c6⟩ := cells7 hb8
      have A9 : StAt w9 bs bm 100 sl' := by
        obtain ⟨es, cl, hbl, _⟩ := hML8
        exact A8.keepM hbl hk9 hne
      have hcw8 : Ch [bm] wr w8 := (hc7.ofNil).then hk8
      have hc9 : Ch [] w w9 := (hcr.trans hcw8 (fun x hx => .inr (by simp only [List.mem_singleton] at hx; omega))).trans hk9 (fun x hx => .inr (by simp only [List.mem_singleton] at hx; omega))
      go_wp2_with fail
      refine ⟨⟨i + 1, sl', aset last ftopic fpay, by simp, by omega, by omega, A9, by rw [aset_map Value.string]; exact hML9, hRL', hsl', hks', hc9⟩, by simp; omega⟩
    · have key : (¬ i < n ∧ decide ((i : Int) < (n : Int)) = false) ∨ (i < n ∧ ¬ i < 20 ∧ decide ((i : Int) < (n : Int)) = true ∧ decide ((i : Int) < 20) = false) := by
        by_cases h1 : i < n
        · exact .inr ⟨h1, by omega, by simpa using h1, by simp; omega⟩
        · exact .inl ⟨h1, by simpa using h1⟩
      have hi1 := hi.keep hcr (by simp)
      have hsl100 : sl.length ≤ 100000 := by omega
      have hlp : (last.map (·.1)).Nodup := by have := hML.nodup; simpa [List.map_map, Function.comp_def] using this
      have hsp : ((absM sl).map (·.1)).Nodup := by have := A.map.nodup; simpa [absM, List.map_map, Function.comp_def] using this
      have hcount : cntNe last = sl.length := by rw [← absM_len' sl]; exact (hRL.count hsp hlp).symm
      have HC : Hid (cntNe last = sl.length) := hcount
      have HR : Hid (RL (absM sl) last) := hRL
      have HK : Hid (∀ p ∈ sl, p.1.size ≤ 100000) := hks
      clear hcount hlp hsp hRL hks hlt hin hi20
      obtain ⟨o, hrange, hIt⟩ := hML.run_range Tryd.underlying70
      have hbi := hML.lt
      rcases key with ⟨n1, d1⟩ | ⟨n1, n2, d1, d2⟩
      all_goals
        go_upto_block 2 with fail
        have hc5 : Ch [] wr (wr.alloc o) := (Ch.refl [] wr).alloc o
        have HB : Hid (∀ w', Ch [wr.heap.size] (wr.alloc o) w' → StAt w' bs bm 100 sl ∧ IsMap Value.string w' bl (last.map fun p => (p.1, Value.string p.2)) ∧ Ch [] w w' ∧ IntAt w') := by
          intro w' hc
          have hc' : Ch [] wr w' := hc5.trans hc (fun x hx => .inr (by simp only [List.mem_singleton] at hx; omega))
          exact ⟨A.keep hc', hML.keep hc' (by simp), hcr.thenNil hc', hi1.keep hc' (by simp)⟩
        clear hrange hcr A hML hi1 hc5
        generalize wr.alloc o = w5 at hIt HB ⊢
        generalize wr.heap.size = r at hIt hbi HB ⊢
        go_wp2_with fail
        go_loopw [7] (fun v7 wr => ∃ (c : Nat) (left : List (ByteArray × ByteArray)), v7 = .int .i64 c ∧ ItAt (fun p => (Value.string p.1, Value.string p.2)) wr r bl left ∧ c + cntNe left = cntNe last ∧ Ch [r] w5 wr) (fun _ wr => wr.rangeLeft bl r)
        case atStart => exact ⟨0, last, rfl, hIt, by omega, Ch.refl _ _⟩
        case round =>
          obtain ⟨c, left, rfl, hit, hcn, hcr⟩ := hrel
          have hc0 : c ≤ 100000 := by have := HC.out; omega
          have HCN : Hid (c + cntNe left = cntNe last) := hcn
          clear hcn
          rcases hit.next (P := Tryd.prog) with ⟨rfl, hnx⟩ | ⟨p, left', w7, hperm, hnx, hent, hit', hk7⟩
          · obtain ⟨A6, hML6, hc6, hi6⟩ := HB.out wr hcr
            obtain rfl : c = sl.length := by
              have h1 := HCN.out
              have h2 := HC.out
              have h3 : cntNe [] = 0 := rfl
              omega
            clear hcr HB hit HCN hc0
            go_wp2_with fail
            refine Calls.mono (store_match wr bs bm 100 sl A6 ⟨#[35]⟩ 0 (by decide) (by omega) (by omega) HK.out hsl100 hi6) ?_
            rintro e w8 ⟨v, rfl, ks, outs, hks, _, hou, hrow, hev, hk8⟩
            have HO : Hid (∀ p ∈ outs, p.1.payload ≠ ⟨#[]⟩ ∧ alook last p.1.topic = some p.1.payload) := by
              intro p hp
              have h1 : p.1 ∈ outs.map (·.1) := List.mem_map.2 ⟨p, hp, rfl⟩
              rw [hou] at h1
              obtain ⟨k, hk⟩ := matches_mem h1
              obtain ⟨h2, h3, h4⟩ := HR.out.of k p.1 hk
              rw [h2]
              exact ⟨h3, h4⟩
            have hol : outs.length ≤ 100000 := by
              have h1 := matches_le (absM sl) ⟨#[35]⟩ 0 ks
              rw [← hou, List.length_map] at h1
              have h2 := hks.length_eq
              simp only [List.length_map] at h2
              omega
            clear hou hks
            obtain ⟨o1, o2, rfl⟩ := row_shape hrow
            generalize hn1 : outs.length = n1 at hrow hol
            have HN1 : Hid (outs.length = n1) := hn1
            have HV : Hid (∀ p ∈ outs, MsgAt w8 p.1 p.2) := fun p hp => (hev p hp).1
            clear hn1 hev hnx
            have A8 := A6.keep hk8
            have hML8 := hML6.keep hk8 (by simp)
            have hc8 := hc6.thenNil hk8
            go_wp2_with fail
            go_loopw [54] (fun v54 wr => ∃ i : Nat, v54 = .int .i64 i ∧ i ≤ n1 ∧ Ch [] w8 wr) (fun v54 _ => match v54 with | .int _ x => n1 - x.toNat | _ => 0)
            case atStart => exact ⟨0, rfl, by omega, Ch.refl _ _⟩
            case round =>
              obtain ⟨j, rfl, hjn, hcr⟩ := hrel
              by_cases hj : j < n1
              · have d3 : decide ((j : Int) < (n1 : Int)) = true := by simpa using hj
                have hjl : j < outs.length := by have := HN1.out; omega
                have hp : outs[j]? = some outs[j] := List.getElem?_eq_getElem hjl
                obtain ⟨hpne, hplk⟩ := HO.out _ (List.mem_of_getElem? hp)
                have hM := HV.out _ (List.mem_of_getElem? hp)
                generalize outs[j] = p at hp hpne hplk hM
                obtain ⟨⟨fr, at_, qos, ret, props, topic, payload⟩, pv⟩ := p
                simp only at hpne hplk
                obtain ⟨q1, q3, hq⟩ := hM.sl.shape'
                simp only at hq
                generalize props.length = q2 at hq
                subst hq
                obtain ⟨b, o, cap', hsv, hcell⟩ := ((Sl.ofRow hrow).keep hcr (by simp)).at (f := fun p : MsgR × Value => p.1.cells p.2) (i := j) (fun _ => rfl) (by omega) hp
                cases hsv
                have e0 := hcell 0 _ rfl
                have e1 := hcell 1 _ rfl
                have e2 := hcell 2 _ rfl
                have e3 := hcell 3 _ rfl
                have e4 := hcell 4 _ rfl
                have e5 := hcell 5 _ rfl
                have e6 := hcell 6 _ rfl
                simp only [← Nat.add_assoc, Nat.add_zero] at e0 e1 e2 e3 e4 e5 e6
                have hcA : Ch [] wr (wr.alloc (Obj.cells #[.string fr, .int .i64 at_, .int .u8 qos, .bool ret, .slice q1 q2 q3, .string topic, .string payload] 58)) := (Ch.refl [] wr).alloc _
                have hlk := ((hML8.keep hcr (by simp)).keep hcA (by simp)).run_look kStr Tryd.underlying70 (Tryd.zeroValue9 _) topic
                rw [alook_map Value.string, hplk] at hlk
                simp only [Option.map_some, Option.getD_some] at hlk
                have e9 : (payload.toList == []) = false := bytes_lit hpne
                have HPK : Hid (alook last topic = some payload ∧ payload ≠ ⟨#[]⟩) := ⟨hplk, hpne⟩
                clear hp hcell hM hplk hpne
                go_wp2_with fail
                refine ⟨⟨j + 1, by simp, by omega, hcr.thenNil hcA⟩, by simp; omega⟩
              · have d3 : decide ((j : Int) < (n1 : Int)) = false := by simpa using hj
                have hLen := store_len wr bs bm 100 sl (A8.keep hcr)
                have hcz := hc8.thenNil hcr
                clear hjn
                go_wp2_with fail
                refine Calls.mono hLen ?_
                rintro e wz ⟨v, rfl, rfl, rfl⟩
                clear hLen
                go_wp2_with fail
                go_ret
                exact ⟨_, rfl, rfl, hcz⟩
          · have hm1 := hit.left_eq
            have hm2 := hit'.left_eq
            have hm3 := hperm.length_eq
            have HM : Hid (w7.rangeLeft bl r < wr.rangeLeft bl r) := by
              show w7.rangeLeft bl r < wr.rangeLeft bl r
              rw [hm1, hm2, hm3]
              simp
            have HCP : Hid (cntNe left = cntNe left' + if p.2 = ⟨#[]⟩ then 0 else 1) := by rw [cntNe_perm hperm, cntNe_cons]; rfl
            clear hm1 hm2 hm3 hperm hit
            obtain ⟨pk, pp⟩ := p
            simp only at hnx hent
            by_cases hpe : pp = ⟨#[]⟩
            · subst hpe
              go_wp2_with fail
              refine ⟨⟨c, left', rfl, hit', ?_, hcr.then hk7⟩, HM.out⟩
              have h1 := HCN.out
              have h2 := HCP.out
              simp at h2
              omega
            · have e1 : (pp.toList == []) = false := bytes_lit hpe
              have HPE : Hid (pp ≠ ⟨#[]⟩) := hpe
              clear hpe
              go_wp2_with fail
              refine ⟨⟨c + 1, left', by simp, hit', ?_, hcr.then hk7⟩, HM.out⟩
              have h1 := HCN.out
              have h2 := HCP.out
              simp only at h2
              rw [if_neg HPE.out] at h2
              omega

end Go.Proofs.YticfeikmdfijiaaDoor
