/- slices.Sorted(maps.Keys(m)) for keys of uint32: the iterator, slices.Collect, slices.AppendSeq. -/
import Derived.Test.YticfeikmdfijiaaDoorLedX
import Derived.RangeFuncFrom
import Derived.RangeFuncBox
import Derived.RangeFuncGives
import Derived.RangeFuncCalls
import Derived.RangeFuncLeaves
import Derived.Sort.MapsRangeIn
import Derived.Maps.OwnSet
import Derived.Sort.KeysCollected
import Derived.OwnWalkIn
import Derived.TacticsInMore
import Derived.RegionIn
import Derived.LoopNIn
import Derived.LoopIn
import Derived.Shelf.Abstract
import Derived.Lib.SlKeysI
namespace Go.Proofs.YticfeikmdfijiaaDoor
open Go Go.RowKit Go.Maps Go.Sort Go.Shelf

abbrev HH := Unit
abbrev RR : Value → Option (DataW HH × List MemPlace) := fun _ => some (.lit (.bool true), [])

section
variable {P : Program} {w : World} {b : Nat} {q : IntKind} {k : TypeId}

theorem keyOf_int (hk : P.underlying k = some (.int q)) {x : Int} (hw : (Lit.int q x).wf = true) : keyOf P k (.int q x) = some (.int q x) := by
  simp [keyOf, hk, mapKey, hw]

theorem isMap_owns {m : List (Int × Value)} (h : IsMap (Value.int q) w b m) (hk : P.underlying k = some (.int q)) (hw : ∀ p ∈ m, (Lit.int q p.1).wf = true) (hn : m.length ≤ maxLen) :
    ∃ D : DataW HH, w.ownsMap P k RR b m.length D := by
  obtain ⟨es, c, hb, hs, he⟩ := h
  have hlen : es.size = m.length := by have := congrArg List.length he; simpa using this
  refine ⟨_, es, c, hb, ⟨by omega, hs, fun x hx => ?_⟩, by omega, rfl⟩
  have hmem : (x.key, x.val) ∈ es.toList.map (fun x => (x.key, x.val)) := List.mem_map.2 ⟨x, hx, rfl⟩
  rw [he] at hmem
  obtain ⟨p, hp, e⟩ := List.mem_map.1 hmem
  have e1 : x.key = .int q p.1 := (congrArg Prod.fst e).symm
  exact ⟨_, by simp only [WideElems.rd, e1, keyOf_int hk (hw p hp), Option.bind_some, RR, Option.map_some]; rfl⟩

/-- What the map has. -/
theorem owns_has {m : List (Int × Value)} {D : DataW HH} {n : Nat} {t e : TypeId} (h : IsMap (Value.int q) w b m) (ho : w.ownsMap P k RR b n D) (hk : P.underlying k = some (.int q)) (ht : P.underlying t = some (.map k e)) {z : Value} (hz : (zeroValue e).run P w = .ok z w)
    {x : Int} (hx : (Lit.int q x).wf = true) : Maps.has D (.int q x) = (alook m x).isSome := by
  obtain ⟨v, ps, h1, _⟩ := ho.look_ok (int_keyed hk) ht hz (zd := .lit (.bool true)) (zp := []) rfl (keyOf_int hk hx)
  have h2 := h.run_look_ok (keyTy_int hk) ht hz x
  rw [h1] at h2
  simp only [Result.ok.injEq, Value.tuple.injEq, Array.mk.injEq, List.cons.injEq, Value.bool.injEq, and_true, true_and] at h2
  exact h2.2

def Coll (q : IntKind) (D0 : DataW HH) (left : Lit → Bool) (ss : List Int) : Prop := ss.Nodup ∧ (∀ x ∈ ss, (Lit.int q x).wf = true) ∧ ∀ x, x ∈ ss ↔ (Maps.has D0 (.int q x) = true ∧ left (.int q x) = false)

theorem Coll.start (q : IntKind) (D0 : DataW HH) : Coll q D0 (Maps.has D0) [] := ⟨List.nodup_nil, by simp, fun x => by cases Maps.has D0 (.int q x) <;> simp⟩
theorem Coll.step {D0 : DataW HH} {left : Lit → Bool} {ss : List Int} (h : Coll q D0 left ss) {x : Int} {y : DataW HH} (hw : (Lit.int q x).wf = true) (hlk : left (.int q x) = true) (hat : ∀ zd, D0.atKey (.int q x) zd = y) :
    Coll q D0 (fun z => left z && !z.sameKey (.int q x)) (ss ++ [x]) := by
  have hhas : Maps.has D0 (.int q x) = true := Maps.has_true_of_atKey hat
  have hnew : x ∉ ss := fun hx => by have := ((h.2.2 x).1 hx).2; rw [hlk] at this; cases this
  refine ⟨List.nodup_append.2 ⟨h.1, by simp, fun a ha b hb => by simp at hb; subst hb; exact fun e => hnew (e ▸ ha)⟩, fun y hy => ?_, fun y => ?_⟩
  · rcases List.mem_append.1 hy with h1 | h1
    · exact h.2.1 y h1
    · simp at h1; subst h1; exact hw
  · by_cases hy : y = x
    · subst hy; simp [hhas, Lit.sameKey]
    · simp [h.2.2 y, hy, Lit.sameKey]

theorem Coll.perm {D0 : DataW HH} {left : Lit → Bool} {ss : List Int} (h : Coll q D0 left ss) {m : List (Int × Value)} (hm : (m.map (·.1)).Nodup) (hmw : ∀ p ∈ m, (Lit.int q p.1).wf = true)
    (hh : ∀ x, (Lit.int q x).wf = true → Maps.has D0 (.int q x) = (alook m x).isSome) (hl : ∀ kl, left kl = false) : ss.Perm (m.map (·.1)) := by
  refine (List.perm_ext_iff_of_nodup h.1 hm).2 fun x => ?_
  rw [h.2.2 x, hl]
  constructor
  · rintro ⟨h1, _⟩
    have hx : x ∈ ss := (h.2.2 x).2 ⟨h1, hl _⟩
    rw [hh x (h.2.1 x hx)] at h1
    obtain ⟨v, hv⟩ := Option.isSome_iff_exists.1 h1
    exact List.mem_map.2 ⟨(x, v), alook_mem hv, rfl⟩
  · intro hx
    obtain ⟨p, hp, rfl⟩ := List.mem_map.1 hx
    rw [hh p.1 (hmw p hp), alook_of_mem hm hp]
    exact ⟨rfl, rfl⟩
end

set_option maxRecDepth 100000 in
set_option maxHeartbeats 1000000 in
/-- The iterator of maps.Keys. -/
theorem keysIter_in (n : Nat) (hn : 1 ≤ n) (l Bm b : Nat) (m : List (Int × Value)) (J Jx : List Int → World → Prop)
    (hY : ∀ pre x W, J pre W → pre.length < m.length → YieldAt Fence.wide (n - 1) Tryd.prog l #[.int .u32 x] W fun e W' =>
      (e = .returned (.bool true) ∧ J (pre ++ [x]) W' ∧ KeepsWalks W W') ∨ (e = .returned (.bool false) ∧ Jx (pre ++ [x]) W'))
    (W : World) (hJ : AbidesFrom W.heap.size J) (hm : W.cell? ⟨Bm, 0, none⟩ = some (.map (some b))) (hmap : IsMap (Value.int .u32) W b m) (hw : ∀ p ∈ m, (Lit.int .u32 p.1).wf = true) (hlen : m.length ≤ maxLen) (h0 : J [] W) :
    CallsIn Fence.wide n Tryd.prog 77 #[.func (.yield l) #[] #[], .pointer (some ⟨Bm, 0, none⟩)] W fun e W' => (∃ v, e = .returned v) ∧
      ((∃ ss : List Int, ss.Perm (m.map (·.1)) ∧ J ss W') ∨ (∃ pre : List Int, True ∧ Jx pre W')) := by
  obtain ⟨D0, hown⟩ := isMap_owns hmap Tryd.underlying22 hw hlen
  have hsz := hown.size_le
  have hh := fun x hx => owns_has (x := x) hmap hown Tryd.underlying22 Tryd.underlying105 (Tryd.zeroValue112 W) hx
  have hnd := hmap.nodup
  refine callsIn_of_wp Tryd.func77 rfl trivial ?_ rfl
  simp only [Tryd.ntmps77, List.size_toArray, List.length_cons, List.length_nil, Nat.reduceAdd, Nat.reduceSub, Array.replicate_succ, Array.replicate_zero, List.push_toArray, List.append_toArray, List.nil_append, List.cons_append]
  gi_wp2_with (first
    | (gi_at_range; refine wpListIn_range_own _ rfl _ 105 rfl 22 112 (int_keyed Tryd.underlying22) Tryd.underlying105 _ b m.length _ rfl hown ?_; intro w0 hrg0 hg0 hs0)
    | gi_in)
  go_frame
  gi_loopw [3] (fun _ wr => ∃ (left : Lit → Bool) (cnt : Nat) (ss : List Int), wr.ranges Tryd.prog 22 RR b W.heap.size m.length D0 left cnt ∧ ss.length + cnt ≤ Maps.size D0 ∧ Coll .u32 D0 left ss ∧ J ss wr)
    (fun _ wr => wr.rangeLeft b W.heap.size)
  case atStart =>
    exact ⟨_, _, [], hrg0, by simp, Coll.start _ D0, hJ [] W w0 none h0 hg0 (fun r e => by cases e)⟩
  case round =>
    obtain ⟨left, cnt, ss, hrg, hcs, hC, hJs⟩ := hrel
    gi_wp2_with (first
      | (gi_at_next; refine wpListIn_next_ranges _ rfl _ rfl 22 (int_keyed Tryd.underlying22) RR (Value.int .u32) id (fun key kl hk => by obtain ⟨x, hx, _⟩ := Maps.keyOf_int_inv Tryd.underlying22 hk; exact ⟨x, hx⟩) (fun v _ _ => ⟨v, rfl⟩) b W.heap.size m.length _ _ _ rfl hrg ?_ ?_)
      | gi_in)
    · intro hc0 hl0
      gi_wp2
      go_end0
      exact ⟨⟨_, rfl⟩, .inl ⟨ss, hC.perm hnd hw hh hl0, hJs⟩⟩
    · intro x c kl yd yp w2 cnt2 hkey hlk hv hvp hat hrg2 hlt hg2 hs2 hen
      obtain ⟨x', ex, rfl, hwx⟩ := Maps.keyOf_int_inv Tryd.underlying22 hkey
      obtain rfl : x = x' := by cases ex; rfl
      have hJ2 : J ss w2 := hJ ss wr w2 (some W.heap.size) hJs hg2 (fun r e => by cases e; exact ⟨Nat.le_refl _, hrg.iter_walk⟩)
      obtain ⟨fn, tmps, assign, body, hy, hR⟩ := hY ss x w2 hJ2 (by omega)
      clear hs2
      gi_wp2
      refine hR.mono ?_
      have hC2 := hC.step hwx hlk hat
      rintro e W3 (⟨rfl, hJ3, hk3⟩ | ⟨rfl, hJx3⟩)
      · gi_wp2
        have hrg3 := hrg2.of_walks hk3
        go_roundw
        case rel => exact ⟨_, cnt2, ss ++ [x], hrg3, by simp; omega, hC2, hJ3⟩
        case measure => rw [hrg3.left_eq, hrg.left_eq]; exact hlt
      · gi_wp2
        refine bodyPost_ret (results_none rfl _ _ _) rfl ?_
        exact ⟨⟨_, rfl⟩, .inr ⟨ss ++ [x], trivial, hJx3⟩⟩

def u32v (x : Int) : Value := .int .u32 x

attribute [local go_sem] Oper.semAt_some

set_option maxRecDepth 100000 in
set_option maxHeartbeats 2000000 in
/-- slices.AppendSeq(nil, seq). -/
theorem appendSeq_in (n : Nat) (hn : 2 ≤ n) (g : Nat) (lb : Array Value) (eg : ∀ args w, (callFunc g args).run Tryd.prog w = .ok (.enter g args) w) (S : List Int → Prop) (N : Nat) (hN : N ≤ 1000000) (w : World)
    (hseq : SeqStopsK Fence.wide (n - 1) Tryd.prog g lb (fun x : Int => #[.int .u32 x]) KeepsWalks S (fun _ => True) N w) :
    CallsIn Fence.wide n Tryd.prog 91 #[.slice none 0 0, .func (.func g) #[] lb] w fun e w' => ∃ (v : Value) (ss : List Int), e = .returned v ∧ S ss ∧ w'.ownsRow w.heap.size 22 1 v ss.length (ss.map (Value.int .u32)) ∧ Below w.heap.size w w' := by
  have h1 : 1 ≤ n := by omega
  refine callsIn_of_wp_marks Tryd.func91 rfl trivial ?_ rfl
  simp only [Tryd.ntmps91, List.size_toArray, List.length_cons, List.length_nil, Nat.reduceAdd, Nat.reduceSub, Array.replicate_succ, Array.replicate_zero, List.push_toArray, List.append_toArray, List.nil_append, List.cons_append]
  gi_wp2
  have hB0 : Below w.heap.size w (w.alloc (.cells #[.slice none 0 0] 121)) := (Below.refl _ w).alloc (Nat.le_refl _) _
  have hbx := Boxed.new w 121 (.slice none 0 0)
  obtain ⟨W0, hW0⟩ : ∃ W0, w.alloc (.cells #[.slice none 0 0] 121) = W0 := ⟨_, rfl⟩
  have hs0 : W0.heap.size = w.heap.size + 1 := by rw [← hW0]; simp
  rw [hW0] at hB0 hbx ⊢
  refine wpIn_rangeFunc_ownF rfl h1 (gf := g) (lb := lb) rfl trivial eg hseq walksK_t walksK_b hB0 (fun _ => rfl)
    (fun pre W => (∃ v, Boxed W w.heap.size 121 v ∧ W.ownsRow w.heap.size 22 1 v pre.length (pre.map (Value.int .u32)) ∧ True) ∧ Below w.heap.size w W)
    (fun _ _ _ => False)
    (OwnFrom.and (Own.from (holdsRow_own w.heap.size w.heap.size 121 22 1 (fun pre : List Int => pre.length) (fun pre => pre.map (Value.int .u32)) (fun _ _ => True)) _) (ownFrom_below (by omega) (by omega)))
    (fun _ _ _ _ _ hs _ _ => hs)
    ⟨⟨_, hbx, ⟨rfl, .inl ⟨rfl, rfl⟩⟩, trivial⟩, hB0⟩
    (fun x => { tmps := #[.slice none 0 0, .func (.func g) #[] lb, .pointer (some ⟨w.heap.size, 0, none⟩), undef, .slice none 0 0, .int .u32 x, .func (.func g) #[] lb, .int .u32 x, undef, undef, undef, undef, undef], defers := [] }) ?assign ?body ?done ?stop
  case assign =>
    intro l x W K hK
    gi_wp2
    exact hK
  case body =>
    rintro l pre x W ⟨⟨v, hbox, hrow, _⟩, hB⟩ hlen
    have hc := hbox.cell
    obtain ⟨i0, hi, hz0, hz1, hz2⟩ := info_parts (show (Tryd.prog.info? 22).map (fun i => (i.zero, i.size, i.bytes)) = some (some (.int .u32 0), 1, 4) by kernel_rfl)
    gi_wp2_with (first
      | (gi_at_builtin; refine wpListIn_append_own _ rfl _ _ 121 rfl w.heap.size 22 i0 (.int .u32 0) 1 4 Tryd.underlying121 hi hz0 hz1 hz2 rfl (by decide) _ _ _ rfl (hrow.alloc _) ⟨W.heap.size, 0, none⟩ 1 1 [.int .u32 x] rfl rfl (by
          intro j u hj
          rw [Addr.add_lit, World.cell?_alloc_new]
          simpa using hj) (by simp [Value.oneCell']) (le_maxLen (by omega)) (by omega) (by have := hB.size; simp; omega) ?_; intro v' w3 hown' hg3 hnil3
         obtain ⟨a1, a2, a3, a4, a5⟩ := Boxed.appended hbox (by decide) hrow hB.size (Nat.le_refl _) hown' hg3
         obtain ⟨d1, d2, rfl⟩ := row_shape hown'
         have c3 := a1.cell
         have f3 := a1.frozen
         go_frame)
      | gi_in)
    exact ⟨a4, a4.walks, ⟨_, a2, by simpa using a3, trivial⟩, hB.trans a5⟩
  case done =>
    rintro D ys W hD hS ⟨⟨v, hbox, hrow, _⟩, hB⟩ hK
    have hc := hbox.cell
    gi_wp2
    refine ⟨by simp, .inl ⟨_, _, rfl, run_takeDeferred hK, ?_⟩⟩
    exact ⟨_, results_tmp rfl _ _ _, v, ys, rfl, hS, ownsRow_putObj hrow _ hK rfl, hB.trans (belowK_b (w := w) (Nat.le_refl _) W D _ _ (by omega) hK rfl rfl)⟩
  case stop =>
    rintro D c pre W _ _ h _
    exact h.elim

set_option maxHeartbeats 1000000 in
/-- slices.Collect(seq). -/
theorem collect_in (n : Nat) (hn : 3 ≤ n) (g : Nat) (lb : Array Value) (eg : ∀ args w, (callFunc g args).run Tryd.prog w = .ok (.enter g args) w) (S : List Int → Prop) (N : Nat) (hN : N ≤ 1000000) (w : World)
    (hseq : SeqStopsK Fence.wide (n - 1 - 1) Tryd.prog g lb (fun x : Int => #[.int .u32 x]) KeepsWalks S (fun _ => True) N w) :
    CallsIn Fence.wide n Tryd.prog 75 #[.func (.func g) #[] lb] w fun e w' => ∃ (v : Value) (ss : List Int), e = .returned v ∧ S ss ∧ w'.ownsRow w.heap.size 22 1 v ss.length (ss.map (Value.int .u32)) ∧ Below w.heap.size w w' := by
  have h1 : 1 ≤ n := by omega
  have hf1 : Fence.wide.fn 91 := trivial
  refine callsIn_of_wp Tryd.func75 rfl trivial ?_ rfl
  simp only [Tryd.ntmps75, List.size_toArray, List.length_cons, List.length_nil, Nat.reduceAdd, Nat.reduceSub, Array.replicate_succ, Array.replicate_zero, List.push_toArray, List.append_toArray, List.nil_append, List.cons_append]
  gi_wp2_with (gi_at_call 91; refine (appendSeq_in (n - 1) (by omega) g lb eg S N hN _ hseq).mono ?_; rintro e w' ⟨v, ss, rfl, hS, hrow, hb⟩)
  go_ret
  exact ⟨v, ss, rfl, hS, hrow, hb⟩

/-- slices.Sort of a row of at most M numbers: the row is sorted. -/
def SortsU (M : Nat) : Prop := ∀ (base : Nat) (v : Value) (ss : List Int) (w : World), w.ownsRow base 22 1 v ss.length (ss.map (Value.int .u32)) → ss.length ≤ M →
  Gives Tryd.prog 76 #[v] w fun r w' => r = .tuple #[] ∧ w'.ownsRow base 22 1 v ss.length ((ss.mergeSort fun x y => decide (x ≤ y)).map (Value.int .u32)) ∧ Ch v.ownBlock.toList w w'

set_option maxHeartbeats 1000000 in
/-- slices.Sorted(seq). -/
theorem sorted_in (M : Nat) (hsort : SortsU M) (n : Nat) (hn : 4 ≤ n) (g : Nat) (lb : Array Value) (eg : ∀ args w, (callFunc g args).run Tryd.prog w = .ok (.enter g args) w) (S : List Int → Prop) (hM : ∀ ss, S ss → ss.length ≤ M) (N : Nat) (hN : N ≤ 1000000) (w : World)
    (hseq : SeqStopsK Fence.wide (n - 1 - 1 - 1) Tryd.prog g lb (fun x : Int => #[.int .u32 x]) KeepsWalks S (fun _ => True) N w) :
    CallsIn Fence.wide n Tryd.prog 50 #[.func (.func g) #[] lb] w fun e w' => ∃ (v : Value) (ss : List Int), e = .returned v ∧ S ss ∧
      w'.ownsRow w.heap.size 22 1 v ss.length ((ss.mergeSort fun x y => decide (x ≤ y)).map (Value.int .u32)) ∧ Below w.heap.size w w' := by
  have h1 : 1 ≤ n := by omega
  have hf1 : Fence.wide.fn 75 := trivial
  have hf2 : Fence.wide.fn 76 := trivial
  refine callsIn_of_wp Tryd.func50 rfl trivial ?_ rfl
  simp only [Tryd.ntmps50, List.size_toArray, List.length_cons, List.length_nil, Nat.reduceAdd, Nat.reduceSub, Array.replicate_succ, Array.replicate_zero, List.push_toArray, List.append_toArray, List.nil_append, List.cons_append]
  gi_wp2_with (gi_at_call 75; refine (collect_in (n - 1) (by omega) g lb eg S N hN _ hseq).mono ?_; rintro e w1 ⟨v, ss, rfl, hS, hrow, hb⟩)
  obtain ⟨d1, d2, rfl⟩ := row_shape hrow
  have cS := (callsIn_wide (n := n - 1)).2 (hsort _ _ _ _ hrow (hM ss hS))
  gi_wp2_with (gi_at_call 76; refine cS.mono ?_; rintro e w2 ⟨v, rfl, rfl, hr2, hc2⟩)
  go_ret
  refine ⟨_, ss, rfl, hS, hr2, hb.trans (hc2.belowOf hb.size ?_)⟩
  intro x hx
  exact (ownBlock_lt hrow (by simpa using hx)).1

set_option maxHeartbeats 1000000 in
/-- maps.Keys(m). -/
theorem keys_call (mb : Option Nat) (w : World) :
    Gives Tryd.prog 51 #[.map mb] w fun v w' => v = .func (.func 77) #[] #[.pointer (some ⟨w.heap.size, 0, none⟩)] ∧ w' = w.alloc (.cells #[.map mb] 105) := by
  go_enter Tryd.func51, Tryd.ntmps51
  go_wp2
  go_ret
  exact ⟨_, rfl, rfl, rfl⟩

/-- slices.Sorted at what maps.Keys handed back. -/
theorem sortedKeys_call (M : Nat) (hM : M ≤ 1000000) (hsort : SortsU M) (Bm b : Nat) (m : List (Int × Value)) (w : World) (hBm : w.cell? ⟨Bm, 0, none⟩ = some (.map (some b))) (hmap : IsMap (Value.int .u32) w b m) (hw : ∀ p ∈ m, (Lit.int .u32 p.1).wf = true) (hlen : m.length ≤ M) :
    Gives Tryd.prog 50 #[.func (.func 77) #[] #[.pointer (some ⟨Bm, 0, none⟩)]] w fun v w' =>
      w'.ownsRow w.heap.size 22 1 v m.length (((m.map (·.1)).mergeSort fun x y => decide (x ≤ y)).map (Value.int .u32)) ∧ Ch [] w w' := by
  have hseq : SeqStopsK Fence.wide (9 - 1 - 1 - 1) Tryd.prog 77 #[.pointer (some ⟨Bm, 0, none⟩)] (fun x : Int => #[.int .u32 x]) KeepsWalks (fun ss => ss.Perm (m.map (·.1))) (fun _ => True) m.length w := by
    intro l J Jx W hW hJ hJx hY h0
    have hb := hmap.lt
    have hcB := World.block_lt_of_cell? w _ hBm
    exact keysIter_in (9 - 1 - 1 - 1) (by omega) l Bm b m J Jx hY W hJ ((hW.cell (p := ⟨Bm, 0, none⟩) hcB).trans hBm) (hmap.keep (Ch.ofBelow hW) (by simp)) hw (le_maxLen (by omega)) h0
  refine Calls.mono ((callsIn_wide (n := 9)).1 (sorted_in M hsort 9 (by omega) _ _ (enters_of Tryd.func77 (by kernel_rfl) rfl) _ (fun ss hs => by rw [hs.length_eq]; simpa using hlen) m.length (by omega) w hseq)) ?_
  rintro e w' ⟨v, ss, rfl, hS, hrow, hb⟩
  have e1 : ss.length = m.length := by rw [hS.length_eq]; simp
  have e2 : (ss.mergeSort fun x y => decide (x ≤ y)) = ((m.map (·.1)).mergeSort fun x y => decide (x ≤ y)) := mergeSort_of_perm_i hS
  rw [e1, e2] at hrow
  exact ⟨v, rfl, hrow, Ch.ofBelow hb⟩

end Go.Proofs.YticfeikmdfijiaaDoor
