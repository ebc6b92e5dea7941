/- The store: Match. -/
import Derived.Test.YticfeikmdfijiaaDoorSkeys
namespace Go.Proofs.YticfeikmdfijiaaDoor
open Go Go.RowKit

theorem elMsg : ElemTy Tryd.prog 67 58 (.agg #[.string ⟨#[]⟩, .int .i64 0, .int .u8 0, .bool false, .slice none 0 0, .string ⟨#[]⟩, .string ⟨#[]⟩]) 7 88 := ⟨Tryd.underlying67, by kernel_rfl, rfl, by decide⟩

def matchOne (s : List (ByteArray × MsgR)) (filter : ByteArray) (now : Int) (k : ByteArray) : List MsgR :=
  match alook s k with
  | none => []
  | some m => if matchS filter k = true ∧ goneS m now = false then [m] else []
def matchesS (s : List (ByteArray × MsgR)) (filter : ByteArray) (now : Int) (ks : List ByteArray) : List MsgR := ks.flatMap (matchOne s filter now)
theorem matchesS_snoc (s : List (ByteArray × MsgR)) (filter : ByteArray) (now : Int) (ks : List ByteArray) (k : ByteArray) : matchesS s filter now (ks ++ [k]) = matchesS s filter now ks ++ matchOne s filter now k := by simp [matchesS]
theorem take_snoc {α : Type} {l : List α} {i : Nat} {x : α} (h : l[i]? = some x) : l.take (i + 1) = l.take i ++ [x] := by rw [List.take_add_one, h]; rfl

/-- A message's row of properties is one's own, or there are none. -/
theorem row_apart {w : World} {B B' e e' size size' n n' : Nat} {v v' : Value} {xs xs' : List Value} (h : w.ownsRow B e size v n xs) (h' : w.ownsRow B' e' size' v' n' xs') (he : e ≠ e') : ∀ b, v.ownBlock = some b → b ∉ v'.ownBlock.toList := by
  intro b hb hm
  obtain ⟨c, hc⟩ := row_block h hb
  obtain ⟨c', hc'⟩ := row_block h' (by simpa using hm)
  rw [hc] at hc'
  cases hc'
  exact he rfl
theorem Fresh.grow {B B' n : Nat} {w w' : World} {p : MsgR × Value} {v : Value} {xs : List Value} (h : Fresh B w p) (hr : w.ownsRow B' 58 7 v n xs) (hc : Ch v.ownBlock.toList w w') : Fresh B w' p :=
  h.imp (fun h1 => row_keep h1 hc (row_apart h1 hr (by decide))) id
theorem MsgAt.grow {B B' n : Nat} {w w' : World} {p : MsgR × Value} {v : Value} {xs : List Value} (hm : MsgAt w p.1 p.2) (h : Fresh B w p) (hr : w.ownsRow B' 58 7 v n xs) (hc : Ch v.ownBlock.toList w w') : MsgAt w' p.1 p.2 :=
  ⟨hm.sl.keep hc (fun b hb => by
    rcases h with h1 | h1
    · exact .inl (row_apart h1 hr (by decide) b hb)
    · exact .inr (by rw [h1])), hm.few, hm.at0, hm.at1, hm.nums⟩
theorem propCells_one {l : List PropR} : ∀ u ∈ l.flatMap PropR.cells, u.oneCell' = true := by
  intro u hu
  obtain ⟨x, _, hx⟩ := List.mem_flatMap.1 hu
  simp [PropR.cells] at hx
  rcases hx with rfl | rfl | rfl | rfl <;> rfl
theorem Sl.shape' {w : World} {v : Value} {size n : Nat} {cs : List Value} (h : Sl w v size n cs) : ∃ ao cap, v = .slice ao n cap := by
  obtain ⟨bo, cap, rfl, _⟩ := h
  exact ⟨_, _, rfl⟩
theorem Sl.str_at {w : World} {v : Value} {n : Nat} {ks : List ByteArray} (h : Sl w v 1 n (ks.map Value.string)) {i : Nat} {k : ByteArray} (hk : ks[i]? = some k) : ∃ b o cap, v = .slice (some ⟨b, o, none⟩) n cap ∧ w.cell? ⟨b, o + i, none⟩ = some (.string k) := by
  obtain ⟨bo, cap, rfl, hl, _, _, hc⟩ := h
  obtain ⟨b, o, rfl, hcell⟩ := hc i (.string k) (by simp [hk])
  exact ⟨b, o, cap, rfl, hcell⟩

set_option maxHeartbeats 8000000 in
theorem store_match (w : World) (bs bm : Nat) (most : Int) (l : List (ByteArray × MsgR × Value)) (h : StAt w bs bm most l) (filter : ByteArray) (now : Int) (hf : filter.size ≤ 100000) (n0 : 0 ≤ now) (n1 : now ≤ 1000000) (hk : ∀ p ∈ l, p.1.size ≤ 100000) (hl : l.length ≤ 100000) (hi : IntAt w) :
    Gives Tryd.prog 28 #[.pointer (some ⟨bs, 0, none⟩), .string filter, .int .i64 now] w fun v w' =>
      ∃ (ks : List ByteArray) (outs : List (MsgR × Value)), ks.Perm (l.map (·.1)) ∧ ks.Pairwise (fun a b => leK a b = true) ∧ outs.map (·.1) = matchesS (absM l) filter now ks ∧
        w'.ownsRow w.heap.size 58 7 v outs.length (outs.flatMap fun p => p.1.cells p.2) ∧ (∀ p ∈ outs, MsgAt w' p.1 p.2 ∧ Fresh w.heap.size w' p) ∧ Ch [] w w' := by
  have c0 : w.cell? ⟨bs, 0, none⟩ = some (.map (some bm)) := cell_of_heap h.head 0
  have hkc := skeys_call (some bm) w
  have hsk := ssorted_call bm _ w h.map (fun p hp => by
    obtain ⟨q, hq, rfl⟩ := List.mem_map.1 hp
    exact le_maxLen (by have := hk q hq; simp only; omega)) (by simp; omega)
  go_enter Tryd.func28, Tryd.ntmps28
  go_wp2_with (first
    | (go_at_call 65; refine Calls.mono hkc ?_; rintro e w' ⟨r, rfl, rfl, rfl⟩)
    | (go_at_call 64; refine Calls.mono hsk ?_; rintro e w1 ⟨kv, rfl, ks, hkp, hks, hkr, hk1⟩; obtain ⟨ka, kc, rfl⟩ := hkr.shape'))
  obtain ⟨n, hn⟩ : ∃ n, n = ks.length := ⟨_, rfl⟩
  have hnn : n ≤ 100000 := by rw [hn, hkp.length_eq]; simpa using hl
  have hkm : ∀ k ∈ ks, ∃ q, alook l k = some q ∧ k.size ≤ 100000 := fun k hk' => by
    obtain ⟨p, hp, rfl⟩ := List.mem_map.1 (hkp.subset hk')
    obtain ⟨p', hp', e⟩ := List.mem_map.1 hp
    subst e
    have hnd := h.map.nodup
    simp only [List.map_map, Function.comp_def] at hnd
    exact ⟨p'.2, alook_of_mem hnd hp', hk p' hp'⟩
  have A1 := h.keep hk1
  have hi1 := hi.keep hk1 (by simp)
  have HK : Hid (n = ks.length ∧ ks.Perm (l.map (·.1)) ∧ ks.Pairwise (fun a b => leK a b = true) ∧ (∀ k ∈ ks, ∃ q, alook l k = some q ∧ k.size ≤ 100000)) := by
    refine ⟨hn, ?_, hks, hkm⟩
    simpa [List.map_map, Function.comp_def] using hkp
  rw [← hn]
  clear hkc hsk c0 hn hkm hk hl hkp hks
  go_loopw [7, 18] (fun v7 v18 wr => ∃ (i : Nat) (o1 : Option Addr) (o2 : Nat) (outs : List (MsgR × Value)), v18 = .int .i64 i ∧ v7 = .slice o1 outs.length o2 ∧ i ≤ n ∧ outs.length ≤ i ∧ outs.map (·.1) = matchesS (absM l) filter now (ks.take i) ∧
      wr.ownsRow w1.heap.size 58 7 (.slice o1 outs.length o2) outs.length (outs.flatMap fun p => p.1.cells p.2) ∧ (∀ p ∈ outs, MsgAt wr p.1 p.2 ∧ Fresh w1.heap.size wr p) ∧ Ch [] w1 wr)
    (fun _ v18 _ => match v18 with | .int _ x => n - x.toNat | _ => 0)
  case atStart => exact ⟨0, none, 0, [], rfl, rfl, by omega, by simp, rfl, ⟨rfl, .inl ⟨rfl, rfl⟩⟩, by simp, Ch.refl _ _⟩
  case round =>
    obtain ⟨i, o1, o2, outs, rfl, rfl, hin, hol, hmap, hrow, hall, hcr⟩ := hrel
    have HA : Hid (∀ p ∈ outs, MsgAt wr p.1 p.2 ∧ Fresh w1.heap.size wr p) := hall
    have HM : Hid (outs.map (·.1) = matchesS (absM l) filter now (ks.take i)) := hmap
    clear hall hmap
    by_cases hin2 : i < n
    · have hlt : decide ((i : Int) < (n : Int)) = true := by simpa using hin2
      have hki : i < ks.length := by have := HK.out; omega
      obtain ⟨k, hkk⟩ : ∃ k, ks[i]? = some k := ⟨_, List.getElem?_eq_getElem hki⟩
      obtain ⟨⟨⟨fr, at_, qos, ret, props, topic, payload⟩, pv⟩, hlk, hksz⟩ := HK.out.2.2.2 k (List.mem_of_getElem? hkk)
      have HKX : Hid (ks[i]? = some k) := hkk
      have hsr := (hkr.keep hcr (by simp))
      obtain ⟨b, o, cap', hsv, e0⟩ := hsr.str_at hkk
      cases hsv
      have A := A1.keep hcr
      have Mg := A.each _ (alook_mem hlk)
      obtain ⟨po, pcap, hpv, _⟩ := Mg.sl
      have hsh : ∃ ao n c, pv = .slice ao n c := ⟨_, _, _, hpv⟩
      clear hpv
      obtain ⟨p1, p2, p3, rfl⟩ := hsh
      have hm := A.map.run_look kStr Tryd.underlying140 (Tryd.zeroValue58 _) k
      rw [alook_map (fun q : MsgR × Value => q.1.v q.2), hlk] at hm
      simp only [Option.map_some, Option.getD_some, MsgR.v] at hm
      have c0 : wr.cell? ⟨bs, 0, none⟩ = some (.map (some bm)) := cell_of_heap A.head 0
      have hcB : Ch [] wr (wr.alloc (Obj.cells #[.string fr, .int .i64 at_, .int .u8 qos, .bool ret, .slice p1 p2 p3, .string topic, .string payload] 58)) := (Ch.refl [] wr).alloc _
      have hbB := heap_new wr (Obj.cells #[.string fr, .int .i64 at_, .int .u8 qos, .bool ret, .slice p1 p2 p3, .string topic, .string payload] 58)
      have hmc := match_call (wr.alloc (Obj.cells #[.string fr, .int .i64 at_, .int .u8 qos, .bool ret, .slice p1 p2 p3, .string topic, .string payload] 58)) filter k hf hksz ((hi1.keep hcr (by simp)).keep hcB (by simp))
      have HLK : Hid (alook (absM l) k = some ⟨fr, at_, qos, ret, props, topic, payload⟩) := by show _ = _; rw [absM_look, hlk]; rfl
      have hcw : Ch [] w wr := hk1.thenNil hcr
      clear hkk hlk hki
      cases hms : matchS filter k with
      | false =>
        rw [hms] at hmc
        go_wp2_with (go_at_call 66; refine Calls.mono hmc ?_; rintro e w2 ⟨r, rfl, rfl, hk2⟩)
        have HCX := hcB.thenNil hk2
        refine ⟨⟨i + 1, o1, o2, outs, by simp, rfl, by omega, by omega, ?_, row_keep hrow HCX (by simp), fun p hp => ⟨(HA.out p hp).1.keep HCX, (HA.out p hp).2.keep HCX⟩, hcr.thenNil HCX⟩, by simp; omega⟩
        rw [take_snoc HKX.out, matchesS_snoc, HM.out]
        simp [matchOne, HLK.out, hms]
      | true =>
        rw [hms] at hmc
        have hgc := fun w2 (hk2 : Ch [] (wr.alloc (Obj.cells #[.string fr, .int .i64 at_, .int .u8 qos, .bool ret, .slice p1 p2 p3, .string topic, .string payload] 58)) w2) => gone_call w2 ⟨fr, at_, qos, ret, props, topic, payload⟩ (.slice p1 p2 p3) now ((Mg.keep hcB).keep hk2) n0 n1
        simp only [MsgR.v] at hgc
        cases hgo : goneS ⟨fr, at_, qos, ret, props, topic, payload⟩ now with
        | true =>
          rw [hgo] at hgc
          go_wp2_with (first
            | (go_at_call 66; refine Calls.mono hmc ?_; rintro e w2 ⟨r, rfl, rfl, hk2⟩; have hb2 := hk2.keep hbB (by simp);
               have f0 : w2.cell? ⟨wr.heap.size, 0, none⟩ = some (.string fr) := cell_of_heap hb2 0;
               have f1 : w2.cell? ⟨wr.heap.size, 1, none⟩ = some (.int .i64 at_) := cell_of_heap hb2 1;
               have f2 : w2.cell? ⟨wr.heap.size, 2, none⟩ = some (.int .u8 qos) := cell_of_heap hb2 2;
               have f3 : w2.cell? ⟨wr.heap.size, 3, none⟩ = some (.bool ret) := cell_of_heap hb2 3;
               have f4 : w2.cell? ⟨wr.heap.size, 4, none⟩ = some (.slice p1 p2 p3) := cell_of_heap hb2 4;
               have f5 : w2.cell? ⟨wr.heap.size, 5, none⟩ = some (.string topic) := cell_of_heap hb2 5;
               have f6 : w2.cell? ⟨wr.heap.size, 6, none⟩ = some (.string payload) := cell_of_heap hb2 6;
               have hg2 := hgc w2 hk2)
            | (go_at_call 25; refine Calls.mono hg2 ?_; rintro e w3 ⟨r, rfl, rfl, hk3⟩))
          have HCX := (hcB.thenNil hk2).thenNil hk3
          refine ⟨⟨i + 1, o1, o2, outs, by simp, rfl, by omega, by omega, ?_, row_keep hrow HCX (by simp), fun p hp => ⟨(HA.out p hp).1.keep HCX, (HA.out p hp).2.keep HCX⟩, hcr.thenNil HCX⟩, by simp; omega⟩
          rw [take_snoc HKX.out, matchesS_snoc, HM.out]
          simp [matchOne, HLK.out, hms, hgo]
        | false =>
          rw [hgo] at hgc
          go_wp2_with fail
          refine Calls.mono hmc ?_
          rintro e w2 ⟨r, rfl, rfl, hk2⟩
          have hb2 := hk2.keep hbB (by simp)
          have f0 : w2.cell? ⟨wr.heap.size, 0, none⟩ = some (.string fr) := cell_of_heap hb2 0
          have f1 : w2.cell? ⟨wr.heap.size, 1, none⟩ = some (.int .i64 at_) := cell_of_heap hb2 1
          have f2 : w2.cell? ⟨wr.heap.size, 2, none⟩ = some (.int .u8 qos) := cell_of_heap hb2 2
          have f3 : w2.cell? ⟨wr.heap.size, 3, none⟩ = some (.bool ret) := cell_of_heap hb2 3
          have f4 : w2.cell? ⟨wr.heap.size, 4, none⟩ = some (.slice p1 p2 p3) := cell_of_heap hb2 4
          have f5 : w2.cell? ⟨wr.heap.size, 5, none⟩ = some (.string topic) := cell_of_heap hb2 5
          have f6 : w2.cell? ⟨wr.heap.size, 6, none⟩ = some (.string payload) := cell_of_heap hb2 6
          go_wp2_with fail
          refine Calls.mono (hgc w2 hk2) ?_
          rintro e w3 ⟨r, rfl, rfl, hk3⟩
          clear f0 f1 f2 f3 f4 f5 f6
          have hb3 := hk3.keep hb2 (by simp)
          have g4 : w3.cell? ⟨wr.heap.size, 4, none⟩ = some (.slice p1 p2 p3) := cell_of_heap hb3 4
          have hM3 := ((Mg.keep hcB).keep hk2).keep hk3
          have hcl := clone_read clonePr_lays (t := 27) (e := 62) rfl elProp Tryd.sizeOf62 w3 (.slice p1 p2 p3) props.length (props.flatMap PropR.cells) hM3.sl (by have := Mg.few; simp only at this; omega) (by omega) propCells_one
          go_wp2_with fail
          refine Calls.mono hcl ?_
          rintro e w4 ⟨v', rfl, hown, hsl, hk4⟩
          obtain ⟨v1, v3, rfl⟩ := hsl.shape'
          have hb4 := hk4.keep hb3 (by simp)
          have k4 : w4.cell? ⟨wr.heap.size, 4, none⟩ = some (.slice p1 p2 p3) := cell_of_heap hb4 4
          have kf4 : w4.frozen? ⟨wr.heap.size, 4, none⟩ = false := free_of_heap hb4 4
          have hc4 : Ch [] wr w4 := ((hcB.thenNil hk2).thenNil hk3).thenNil hk4
          have hc5 := hc4.setCell ⟨wr.heap.size, 4, none⟩ (.slice v1 props.length v3) (.inr (by simp))
          have hb5 := heap_setCell_at (i := 4) hb4 (.slice v1 props.length v3)
          simp only [List.setIfInBounds_toArray, List.set_cons_zero, List.set_cons_succ] at hb5
          have hm45 : Ch [wr.heap.size] w4 (w4.setCell ⟨wr.heap.size, 4, none⟩ (.slice v1 props.length v3)) := (Ch.refl _ w4).setCell _ _ (.inl (by simp))
          have hfr : Fresh w1.heap.size (w4.setCell ⟨wr.heap.size, 4, none⟩ (.slice v1 props.length v3)) (⟨fr, at_, qos, ret, props, topic, payload⟩, .slice v1 props.length v3) := by
            rcases hown with h1 | h1
            · refine .inl (row_base (row_keep h1 hm45 ?_) ?_)
              · intro b hb
                have h2 := (ownBlock_lt h1 hb).1
                have h3 := lt_of_heap hb3
                simp only [List.mem_singleton]
                omega
              · exact Nat.le_trans (hcr.thenNil ((hcB.thenNil hk2).thenNil hk3)).size (Nat.le_refl _)
            · exact .inr h1
          have hsl5 : Sl (w4.setCell ⟨wr.heap.size, 4, none⟩ (.slice v1 props.length v3)) (.slice v1 props.length v3) 4 props.length (props.flatMap PropR.cells) := by
            rcases hfr with h1 | h1
            · exact Sl.ofRow h1
            · exact hsl.keep hm45 (fun b hb => .inr (by rw [h1]))
          have hM5 : MsgAt (w4.setCell ⟨wr.heap.size, 4, none⟩ (.slice v1 props.length v3)) ⟨fr, at_, qos, ret, props, topic, payload⟩ (.slice v1 props.length v3) := ⟨hsl5, hM3.few, hM3.at0, hM3.at1, hM3.nums⟩
          clear hsl5 hm45 hsl hown hcl hM3
          have m0 : (w4.setCell ⟨wr.heap.size, 4, none⟩ (.slice v1 props.length v3)).cell? ⟨wr.heap.size, 0, none⟩ = some (.string fr) := cell_of_heap hb5 0
          have m1 : (w4.setCell ⟨wr.heap.size, 4, none⟩ (.slice v1 props.length v3)).cell? ⟨wr.heap.size, 1, none⟩ = some (.int .i64 at_) := cell_of_heap hb5 1
          have m2 : (w4.setCell ⟨wr.heap.size, 4, none⟩ (.slice v1 props.length v3)).cell? ⟨wr.heap.size, 2, none⟩ = some (.int .u8 qos) := cell_of_heap hb5 2
          have m3 : (w4.setCell ⟨wr.heap.size, 4, none⟩ (.slice v1 props.length v3)).cell? ⟨wr.heap.size, 3, none⟩ = some (.bool ret) := cell_of_heap hb5 3
          have m4 : (w4.setCell ⟨wr.heap.size, 4, none⟩ (.slice v1 props.length v3)).cell? ⟨wr.heap.size, 4, none⟩ = some (.slice v1 props.length v3) := cell_of_heap hb5 4
          have m5 : (w4.setCell ⟨wr.heap.size, 4, none⟩ (.slice v1 props.length v3)).cell? ⟨wr.heap.size, 5, none⟩ = some (.string topic) := cell_of_heap hb5 5
          have m6 : (w4.setCell ⟨wr.heap.size, 4, none⟩ (.slice v1 props.length v3)).cell? ⟨wr.heap.size, 6, none⟩ = some (.string payload) := cell_of_heap hb5 6
          have k0 : w4.cell? ⟨wr.heap.size, 0, none⟩ = some (.string fr) := cell_of_heap hb4 0
          have k1 : w4.cell? ⟨wr.heap.size, 1, none⟩ = some (.int .i64 at_) := cell_of_heap hb4 1
          have k2 : w4.cell? ⟨wr.heap.size, 2, none⟩ = some (.int .u8 qos) := cell_of_heap hb4 2
          have k3 : w4.cell? ⟨wr.heap.size, 3, none⟩ = some (.bool ret) := cell_of_heap hb4 3
          have k5 : w4.cell? ⟨wr.heap.size, 5, none⟩ = some (.string topic) := cell_of_heap hb4 5
          have k6 : w4.cell? ⟨wr.heap.size, 6, none⟩ = some (.string payload) := cell_of_heap hb4 6
          have hxs := sl_new (w4.setCell ⟨wr.heap.size, 4, none⟩ (.slice v1 props.length v3)) [.string fr, .int .i64 at_, .int .u8 qos, .bool ret, .slice v1 props.length v3, .string topic, .string payload] 58 7 1 rfl (le_maxLen (by omega))
          have hcA := (Ch.refl [] (w4.setCell ⟨wr.heap.size, 4, none⟩ (.slice v1 props.length v3))).alloc (Obj.cells [.string fr, .int .i64 at_, .int .u8 qos, .bool ret, .slice v1 props.length v3, .string topic, .string payload].toArray 58)
          have hrA := row_keep (row_keep hrow hc5 (by simp)) hcA (by simp)
          have hsz : (w4.setCell ⟨wr.heap.size, 4, none⟩ (.slice v1 props.length v3)).heap.size = w4.heap.size := by simp
          rw [hsz] at hxs
          have q1 : outs.length + 1 ≤ maxLen := le_maxLen (by omega)
          have q2 : (outs.length + 1) * 88 ≤ 140737488355328 := by omega
          have q3 : w1.heap.size ≤ _ := Nat.le_trans (Nat.le_trans hcr.size hc5.size) hcA.size
          have q4 : ∀ u ∈ [Value.string fr, .int .i64 at_, .int .u8 qos, .bool ret, .slice v1 props.length v3, .string topic, .string payload], u.oneCell' = true := by simp [Value.oneCell']
          set_option maxRecDepth 6000 in
          go_wp2_with (at_builtin; refine wl_app rfl (.tmp 41) (.tmp 43) elMsg rfl hrA rfl hxs rfl q4 q1 q2 q3 ?_; intro v' w7 hr7 hg7 hnil7 hor7; obtain ⟨e1, e2, rfl⟩ := row_shape hr7)
          have hg := Ch.ofGrown hg7
          have key : ∀ p ∈ outs ++ [(⟨fr, at_, qos, ret, props, topic, payload⟩, .slice v1 props.length v3)], MsgAt w7 p.1 p.2 ∧ Fresh w1.heap.size w7 p := by
            intro p hp
            rcases List.mem_append.1 hp with h1 | h1
            · obtain ⟨h2, h3⟩ := HA.out p h1
              have h4 := (h3.keep hc5).keep hcA
              exact ⟨((h2.keep hc5).keep hcA).grow h4 hrA hg, h4.grow hrA hg⟩
            · rw [List.mem_singleton.1 h1]
              have h4 := hfr.keep hcA
              exact ⟨MsgAt.grow (p := (⟨fr, at_, qos, ret, props, topic, payload⟩, .slice v1 props.length v3)) (hM5.keep hcA) h4 hrA hg, h4.grow hrA hg⟩
          refine ⟨⟨i + 1, e1, e2, outs ++ [(⟨fr, at_, qos, ret, props, topic, payload⟩, .slice v1 props.length v3)], by simp, by simp, by omega, by simp; omega, ?_, by simpa [MsgR.cells] using hr7, key, ((hcr.thenNil hc5).thenNil hcA).trans hg (fun b hb => .inr (ownBlock_lt hrA (by simpa using hb)).1)⟩, by simp; omega⟩
          rw [take_snoc HKX.out, matchesS_snoc, List.map_append, HM.out]
          simp [matchOne, HLK.out, hms, hgo]
    · have hlt : decide ((i : Int) < (n : Int)) = false := by simpa using hin2
      go_wp2
      go_ret
      obtain ⟨hn, hkp, hks, _⟩ := HK.out
      have hi2 : i = n := by omega
      have hk3 : ks.take i = ks := by rw [hi2, hn]; exact List.take_length
      rw [hk3] at HM
      have hb1 : w.heap.size ≤ w1.heap.size := hk1.size
      exact ⟨_, rfl, ks, outs, hkp, hks, HM.out, row_base hrow hb1, fun p hp => ⟨(HA.out p hp).1, (HA.out p hp).2.base hb1⟩, hk1.thenNil hcr⟩

end Go.Proofs.YticfeikmdfijiaaDoor
