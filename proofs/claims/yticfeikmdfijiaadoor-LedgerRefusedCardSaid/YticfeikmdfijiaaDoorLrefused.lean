/- LedgerRefused: what comes awake, and the law's walk. -/
import Derived.Test.YticfeikmdfijiaaDoorOpen
namespace Go.Proofs.YticfeikmdfijiaaDoor
open Go Go.RowKit

/-- Where a law's walk stands: the side as laid and as said, since the world w0. -/
structure Tr (w0 w : World) (s : Lay) (S : Side) : Prop where
  at_ : SideAt w0.heap.size w s
  ch : Ch [] w0 w
  abs : s.abs = S
  tab : Tab w
  big : tabN ≤ w0.heap.size

theorem Tr.step {w0 w w' : World} {s s' : Lay} {S S' : Side} (t : Tr w0 w s S) (M : Moved w0.heap.size w s w' s') (e : s'.abs = S') : Tr w0 w' s' S' :=
  ⟨M.at_, t.ch.trans M.ch (fun x hx => .inr (t.at_.low x hx)), e, t.tab.keep M.ch t.big t.at_.low, t.big⟩
theorem Tr.other {w0 w w' : World} {s : Lay} {S : Side} (t : Tr w0 w s S) (hc : Ch [] w w') : Tr w0 w' s S := t.step (Moved.other t.at_ hc) t.abs
theorem Moved.block {B : Nat} {w w' : World} {s s' : Lay} (M : Moved B w s w' s') {b : Nat} {o : Obj} (hb : w.heap[b]? = some o) (hn : b ∉ s.foot) : w'.heap[b]? = some o ∧ b ∉ s'.foot :=
  ⟨M.ch.keep hb hn, fun hm => (M.foot b hm).elim hn (fun h => by have := lt_of_heap hb; omega)⟩
theorem Tr.new {w0 w : World} {s : Lay} {S : Side} (t : Tr w0 w s S) : w.heap.size ∉ s.foot := by
  intro hm
  simp only [Lay.foot, List.mem_cons, List.mem_append, List.mem_map, Option.mem_toList] at hm
  rcases hm with e | e | e | (⟨p, hp, e⟩ | e) | e
  · have := lt_of_heap t.at_.head; omega
  · have := t.at_.opens.lt; omega
  · have := t.at_.took.lt; omega
  · have := lt_of_heap (t.at_.each p hp); omega
  · have := (ownBlock_lt t.at_.done e).2; omega
  · have := (ownBlock_lt t.at_.errs e).2; omega

theorem Tr.aside {w0 w w' : World} {s : Lay} {S : Side} (t : Tr w0 w s S) {b : Nat} (hc : Ch [b] w w') (hn : b ∉ s.foot) (hb : w0.heap.size ≤ b) : Tr w0 w' s S := by
  have h := t.at_
  simp only [Lay.foot, List.mem_cons, List.mem_append, List.mem_map, Option.mem_toList, not_or, not_exists, not_and] at hn
  obtain ⟨n1, n2, n3, ⟨n4, n5⟩, n6⟩ := hn
  refine ⟨⟨Nat.le_trans h.base hc.size, hc.keep h.head (by simpa using Ne.symm n1), h.opens.keep hc (by simpa using Ne.symm n2), h.took.keep hc (by simpa using Ne.symm n3), fun p hp => hc.keep (h.each p hp) (by simpa using n4 p hp), h.apart, row_keep h.done hc ?_, row_keep h.errs hc ?_, h.ne, h.dne, h.low⟩,
    t.ch.trans hc (by simpa using hb), t.abs, t.tab.keep hc t.big (by simpa using hb), t.big⟩
  · intro k hk
    simp only [List.mem_singleton]
    rintro rfl
    exact n5 hk
  · intro k hk
    simp only [List.mem_singleton]
    rintro rfl
    exact n6 hk

theorem few_of {S : Side} (h : S.errs.length ≤ 9) (h2 : S.done.length ≤ 9) (h3 : ∀ p ∈ S.opens, 0 ≤ p.2.times ∧ p.2.times ≤ 9) (h4 : S.took = []) (h5 : S.news = 0) : S.Few 100000 :=
  ⟨by omega, by omega, fun p hp => by have := h3 p hp; omega, by simp [h4], by omega⟩

def pA (d : Bool) : Pub := ⟨d, false, 2, 1, ⟨#[97]⟩, ⟨#[]⟩⟩
def xA (came over : Bool) : Exch := ⟨1, ⟨#[97]⟩, ⟨#[]⟩, 1, came, over⟩
def eA : ByteArray := wRecv ++ ⟨#[32]⟩ ++ itoaB 1

theorem eA_eq : eA = ⟨#[115, 101, 110, 116, 32, 119, 104, 101, 110, 32, 114, 101, 99, 101, 105, 118, 101, 100, 32, 49]⟩ := by
  unfold eA itoaB
  rw [show Lib.itoa 1 = [49] by rw [show (1 : Int) = ((1 : Nat) : Int) from rfl]; simp [Lib.itoa, Lib.decDigits_one (i := 1) (by omega)]]
  kernel_rfl

theorem aw1 : sentS emptyS (pA false) = ⟨[(1, xA false false)], [], [], 0, []⟩ := rfl
theorem aw2 : heardS ⟨[(1, xA false false)], [], [], 0, []⟩ ⟨5, 1, 0⟩ = ⟨[(1, xA true false)], [], [], 0, []⟩ := by simp [heardS, alook, aset, xA]
theorem aw3 : sentS ⟨[(1, xA true false)], [], [], 0, []⟩ (pA true) = ⟨[(1, xA true false)], [], [], 0, [eA]⟩ := by simp [sentS, pA, alook, xA, wrongE, eA]
theorem aw4 : releasedS ⟨[(1, xA true false)], [], [], 0, [eA]⟩ ⟨6, 1, 0⟩ = ⟨[(1, xA true false)], [], [], 0, [eA]⟩ := by simp [releasedS, alook, xA]
theorem aw5 : heardS ⟨[(1, xA true false)], [], [], 0, [eA]⟩ ⟨7, 1, 0⟩ = ⟨[], [], [xA true true], 0, [eA]⟩ := by simp [heardS, alook, adel, xA]

/-- Said, Heard, at a place. -/
theorem Tr.pub {w0 w : World} {s : Lay} {S S' : Side} (t : Tr w0 w s S) (hn : S.Few 100000) (p : Pub) (h0 : 0 ≤ p.id) (h1 : p.id ≤ 4294967295) (e : sentS S p = S') :
    Gives Tryd.prog 13 #[ptrOf s.bs, .iface 31 p.v] w fun v w' => v = .tuple #[] ∧ ∃ s', Tr w0 w' s' S' ∧ Moved w0.heap.size w s w' s' ∧ s'.bs = s.bs :=
  Gives.mono (said_pub _ w s p t.at_ t.tab t.big h0 h1 (t.abs ▸ hn)) fun v w' ⟨hv, s', M, e2⟩ => ⟨hv, s', t.step M (by rw [e2, t.abs, e]), M, M.bs⟩
theorem Tr.sack {w0 w : World} {s : Lay} {S S' : Side} (t : Tr w0 w s S) (hn : S.Few 100000) (a : Ans) (h0 : 0 ≤ a.id) (h1 : a.id ≤ 4294967295) (e : releasedS S a = S') :
    Gives Tryd.prog 13 #[ptrOf s.bs, .iface 36 a.v] w fun v w' => v = .tuple #[] ∧ ∃ s', Tr w0 w' s' S' ∧ Moved w0.heap.size w s w' s' ∧ s'.bs = s.bs :=
  Gives.mono (said_ack _ w s a t.at_ t.tab t.big h0 h1 (t.abs ▸ hn)) fun v w' ⟨hv, s', M, e2⟩ => ⟨hv, s', t.step M (by rw [e2, t.abs, e]), M, M.bs⟩
theorem Tr.hack {w0 w : World} {s : Lay} {S S' : Side} (t : Tr w0 w s S) (hn : S.Few 100000) (a : Ans) (e : heardS S a = S') :
    Gives Tryd.prog 14 #[ptrOf s.bs, .iface 36 a.v] w fun v w' => v = .tuple #[] ∧ ∃ s', Tr w0 w' s' S' ∧ Moved w0.heap.size w s w' s' ∧ s'.bs = s.bs :=
  Gives.mono (heard_ack _ w s a t.at_ (t.abs ▸ hn)) fun v w' ⟨hv, s', M, e2⟩ => ⟨hv, s', t.step M (by rw [e2, t.abs, e]), M, M.bs⟩
theorem Tr.opened {w0 w : World} {s : Lay} {S : Side} (t : Tr w0 w s S) (hl : S.opens.length ≤ 1) (hw : ∀ p ∈ S.opens, (Lit.int .u32 p.1).wf = true) :
    Gives Tryd.prog 15 #[ptrOf s.bs] w fun v w' => Sl w' v 6 (openS S).length ((openS S).flatMap Exch.cells) ∧ Tr w0 w' s S ∧ Ch [] w w' :=
  Gives.mono (open_call 1 (by omega) sorts1 _ w s t.at_ (by rw [← t.abs] at hl; simpa [Lay.abs] using hl) (fun p hp => hw (p.1, p.2.2) (by rw [← t.abs]; exact List.mem_map.2 ⟨p, hp, rfl⟩))) fun v w' ⟨h1, h2⟩ => ⟨by rw [← t.abs]; exact h1, t.other h2, h2⟩
theorem Tr.erred {w0 w : World} {s : Lay} {S : Side} (t : Tr w0 w s S) (hn : S.Few 100000) :
    Gives Tryd.prog 16 #[ptrOf s.bs] w fun v w' => Sl w' v 1 S.errs.length (S.errs.map Value.string) ∧ Tr w0 w' s S ∧ Ch [] w w' :=
  Gives.mono (errs_call _ w s t.at_ (t.abs ▸ hn)) fun v w' ⟨h1, h2⟩ => ⟨by rw [← t.abs]; exact h1, t.other h2, h2⟩
theorem Tr.over {w0 w : World} {s : Lay} {S : Side} (t : Tr w0 w s S) (hn : S.Few 100000) :
    Gives Tryd.prog 17 #[ptrOf s.bs] w fun v w' => Sl w' v 6 S.done.length (S.done.flatMap Exch.cells) ∧ Tr w0 w' s S ∧ Ch [] w w' :=
  Gives.mono (done_call _ w s t.at_ (t.abs ▸ hn)) fun v w' ⟨h1, h2⟩ => ⟨by rw [← t.abs]; exact h1, t.other h2, h2⟩
theorem tr_new (w : World) (ht : Tab w) (hb : tabN ≤ w.heap.size) :
    Gives Tryd.prog 12 #[] w fun v w' => ∃ s, v = ptrOf s.bs ∧ Tr w w' s emptyS :=
  Gives.mono (new_call w) fun v w' ⟨s, h1, h2, h3, h4, _⟩ => ⟨s, h1, h2, h4, h3, ht.keep h4 hb (by simp), hb⟩

theorem Sl.shape {w : World} {v : Value} {size n : Nat} {cs : List Value} (h : Sl w v size n cs) : ∃ ao cap, v = .slice ao n cap := by
  obtain ⟨ao, cap, rfl, _⟩ := h
  exact ⟨_, _, rfl⟩

set_option maxHeartbeats 4000000 in
theorem awake_call (w : World) (ht : Tab w) (hb : tabN ≤ w.heap.size) :
    Gives Tryd.prog 11 #[] w fun v w' => v = .bool true ∧ Ch [] w w' := by
  have hnew := tr_new w ht hb
  unfold ptrOf at hnew
  go_enter Tryd.func11, Tryd.ntmps11
  go_wp2_with fail
  refine Calls.mono hnew ?_
  rintro e w1 ⟨_, rfl, s, rfl, t0⟩
  have t1 := t0.other ((Ch.refl [] w1).alloc (Obj.cells #[.bool false, .bool false, .int .u8 2, .int .u32 1, .slice none 0 0, .string ⟨#[97]⟩, .string ⟨#[]⟩] 31))
  have hb1 := heap_new w1 (Obj.cells #[.bool false, .bool false, .int .u8 2, .int .u32 1, .slice none 0 0, .string ⟨#[97]⟩, .string ⟨#[]⟩] 31)
  have hn1 := t0.new
  have hc := t1.pub (few_of (by simp [emptyS]) (by simp [emptyS]) (by simp [emptyS]) rfl rfl) (pA false) (by decide) (by decide) aw1
  simp only [Pub.v, pA, ptrOf] at hc
  go_wp2_with fail
  refine Calls.mono hc ?_
  rintro e w2 ⟨_, rfl, rfl, s2, t2, M2, hs2⟩
  obtain ⟨hb2, hn2⟩ := M2.block hb1 hn1
  have hc := t2.hack (few_of (by simp) (by simp) (by simp [xA]) rfl rfl) ⟨5, 1, 0⟩ aw2
  simp only [Ans.v, ptrOf, hs2] at hc
  go_wp2_with fail
  refine Calls.mono hc ?_
  rintro e w3 ⟨_, rfl, rfl, s3, t3, M3, hs3⟩
  obtain ⟨hb3, hn3⟩ := M3.block hb2 hn2
  have q0 : w3.cell? ⟨w1.heap.size, 0, none⟩ = some (.bool false) := cell_of_heap hb3 0
  have qf : w3.frozen? ⟨w1.heap.size, 0, none⟩ = false := free_of_heap hb3 0
  have hsC : Ch [w1.heap.size] w3 (w3.setCell ⟨w1.heap.size, 0, none⟩ (.bool true)) := (Ch.refl _ _).setCell _ _ (.inl (by simp))
  have t4 := t3.aside hsC hn3 t0.at_.base
  have hb4 := heap_setCell_at (i := 0) hb3 (.bool true)
  simp only [List.setIfInBounds_toArray, List.set_cons_zero] at hb4
  have r0 := cell_of_heap hb4 0
  have r1 := cell_of_heap hb4 1
  have r2 := cell_of_heap hb4 2
  have r3 := cell_of_heap hb4 3
  have r4 := cell_of_heap hb4 4
  have r5 := cell_of_heap hb4 5
  have r6 := cell_of_heap hb4 6
  simp only [List.getElem?_toArray, List.getElem?_cons_zero, List.getElem?_cons_succ] at r0 r1 r2 r3 r4 r5 r6
  have hc := t4.pub (few_of (by simp) (by simp) (by simp [xA]) rfl rfl) (pA true) (by decide) (by decide) aw3
  simp only [Pub.v, pA, ptrOf, hs3, hs2] at hc
  go_wp2_with fail
  refine Calls.mono hc ?_
  rintro e w5 ⟨_, rfl, rfl, s5, t5, M5, hs5⟩
  clear q0 qf r0 r1 r2 r3 r4 r5 r6
  have hc := t5.sack (few_of (by simp) (by simp) (by simp [xA]) rfl rfl) ⟨6, 1, 0⟩ (by decide) (by decide) aw4
  simp only [Ans.v, ptrOf, hs5, hs3, hs2] at hc
  go_wp2_with fail
  refine Calls.mono hc ?_
  rintro e w6 ⟨_, rfl, rfl, s6, t6, M6, hs6⟩
  have hc := t6.hack (few_of (by simp) (by simp) (by simp [xA]) rfl rfl) ⟨7, 1, 0⟩ aw5
  simp only [Ans.v, ptrOf, hs6, hs5, hs3, hs2] at hc
  go_wp2_with fail
  refine Calls.mono hc ?_
  rintro e w7 ⟨_, rfl, rfl, s7, t7, M7, hs7⟩
  have hc := t7.erred (few_of (by simp) (by simp) (by simp [xA]) rfl rfl)
  simp only [ptrOf, hs7, hs6, hs5, hs3, hs2] at hc
  go_wp2_with fail
  refine Calls.mono hc ?_
  rintro e w8 ⟨ev, rfl, hev, t8, hk8⟩
  have hc := t8.over (few_of (by simp) (by simp) (by simp [xA]) rfl rfl)
  simp only [ptrOf, hs7, hs6, hs5, hs3, hs2] at hc
  obtain ⟨eo, ec, rfl⟩ := hev.shape
  go_wp2_with fail
  refine Calls.mono hc ?_
  rintro e w9 ⟨dv, rfl, hdv, t9, hk9⟩
  obtain ⟨do_, dc, rfl⟩ := hdv.shape
  have hc := t9.opened (by simp) (by simp)
  simp only [ptrOf, hs7, hs6, hs5, hs3, hs2] at hc
  go_wp2_with fail
  refine Calls.mono hc ?_
  rintro e w10 ⟨ov, rfl, hov, t10, hk10⟩
  obtain ⟨oo, oc, rfl⟩ := hov.shape
  have hol : (openS ⟨[], [], [xA true true], 0, [eA]⟩).length = 0 := by simp [openS, exOf]
  rw [hol] at hov ⊢
  have hev10 := (hev.keep hk9 (by simp)).keep hk10 (by simp)
  obtain ⟨ao, cap, hsl, _, _, _, hcell⟩ := hev10
  cases hsl
  obtain ⟨a0, rfl, ha0⟩ := hcell 0 (.string eA) rfl
  have e0 : a0.add 0 = a0 := by simp [Addr.add]
  rw [e0, eA_eq] at ha0
  go_wp2
  go_ret
  exact ⟨_, rfl, rfl, t10.ch⟩

def pR (id : Int) : Pub := ⟨false, false, 2, id, ⟨#[116]⟩, ⟨#[]⟩⟩
def xR (id : Int) (came : Bool) : Exch := ⟨id, ⟨#[116]⟩, ⟨#[]⟩, 1, came, false⟩
def eR (id : Int) : ByteArray := wBound ++ ⟨#[32]⟩ ++ itoaB id
theorem rf1 (id : Int) : sentS emptyS (pR id) = ⟨[(id, xR id false)], [], [], 0, []⟩ := rfl
theorem rf2 (id : Int) : heardS ⟨[(id, xR id false)], [], [], 0, []⟩ ⟨5, id, 0⟩ = ⟨[(id, xR id true)], [], [], 0, []⟩ := by simp [heardS, alook, aset, xR]
theorem rf3 (id c : Int) : heardS ⟨[(id, xR id true)], [], [], 0, []⟩ ⟨5, id, c⟩ = ⟨[(id, xR id true)], [], [], 0, []⟩ := by simp [heardS, alook, aset, xR]
theorem rf4 (id : Int) : sentS ⟨[(id, xR id true)], [], [], 0, []⟩ (pR id) = ⟨[(id, xR id true)], [], [], 0, [eR id]⟩ := by simp [sentS, pR, alook, xR, wrongE, eR]
theorem rf5 (id c : Int) (hc : 128 ≤ c) : heardS ⟨[(id, xR id false)], [], [], 0, []⟩ ⟨5, id, c⟩ = ⟨[], [], [], 0, []⟩ := by
  have : ¬ c < 128 := by omega
  simp [heardS, alook, adel, xR, this]
theorem rf_open (id : Int) (b : Bool) (es : List ByteArray) : (openS ⟨[(id, xR id b)], [], [], 0, es⟩).length = 1 := by simp [openS, exOf, alook]

theorem wf32 {x : Int} (h0 : 0 ≤ x) (h1 : x ≤ 4294967295) : (Lit.int .u32 x).wf = true := by
  have e1 : IntKind.u32.min = 0 := rfl
  have e2 : IntKind.u32.max = 4294967295 := rfl
  simp [Lit.wf, e1, e2, h0, h1]

theorem or128 (c : Int) (h0 : 0 ≤ c) (h1 : c ≤ 255) : 128 ≤ bits .or .u8 c 128 := by
  have h : ∀ c : Fin 256, 128 ≤ bits .or .u8 (c.val : Int) 128 := by decide +kernel
  have := h ⟨c.toNat, by omega⟩
  rwa [show ((c.toNat : Nat) : Int) = c by omega] at this

set_option maxHeartbeats 4000000 in
theorem lrefused_call (id code : Int) (took : Bool) (h0 : 0 ≤ id) (h1 : id ≤ 4294967295) (hc0 : 0 ≤ code) (hc1 : code ≤ 255) (w : World) (ht : Tab w) (hb : tabN ≤ w.heap.size) :
    Gives Tryd.prog 3 #[.int .u32 id, .bool took, .int .u8 code] w fun v w' => v = .bool true ∧ Ch [] w w' := by
  have haw := awake_call w ht hb
  go_enter Tryd.func3, Tryd.ntmps3
  go_wp2_with fail
  refine Calls.mono haw ?_
  rintro e w0 ⟨_, rfl, rfl, hk0⟩
  have hnew := tr_new w0 (ht.keep hk0 hb (by simp)) (Nat.le_trans hb hk0.size)
  unfold ptrOf at hnew
  go_wp2_with fail
  refine Calls.mono hnew ?_
  rintro e w1 ⟨_, rfl, s, rfl, t0⟩
  have t1 := t0.other ((Ch.refl [] w1).alloc (Obj.cells #[.bool false, .bool false, .int .u8 2, .int .u32 id, .slice none 0 0, .string ⟨#[116]⟩, .string ⟨#[]⟩] 31))
  have hb1 := heap_new w1 (Obj.cells #[.bool false, .bool false, .int .u8 2, .int .u32 id, .slice none 0 0, .string ⟨#[116]⟩, .string ⟨#[]⟩] 31)
  have hn1 := t0.new
  have hc := t1.pub (few_of (by simp [emptyS]) (by simp [emptyS]) (by simp [emptyS]) rfl rfl) (pR id) h0 h1 (rf1 id)
  simp only [Pub.v, pR, ptrOf] at hc
  go_wp2_with fail
  refine Calls.mono hc ?_
  rintro e w2 ⟨_, rfl, rfl, s2, t2, M2, hs2⟩
  obtain ⟨hb2, hn2⟩ := M2.block hb1 hn1
  cases took with
  | true =>
    have hc := t2.hack (few_of (by simp) (by simp) (by simp [xR]) rfl rfl) ⟨5, id, 0⟩ (rf2 id)
    simp only [Ans.v, ptrOf, hs2] at hc
    go_wp2_with fail
    refine Calls.mono hc ?_
    rintro e w3 ⟨_, rfl, rfl, s3, t3, M3, hs3⟩
    go_wp2_with fail
    have hc := t3.hack (few_of (by simp) (by simp) (by simp [xR]) rfl rfl) ⟨5, id, bits .or .u8 code 128⟩ (rf3 id _)
    simp only [Ans.v, ptrOf, hs3, hs2] at hc
    refine Calls.mono hc ?_
    rintro e w4 ⟨_, rfl, rfl, s4, t4, M4, hs4⟩
    obtain ⟨hb3, hn3⟩ := M3.block hb2 hn2
    obtain ⟨hb4, hn4⟩ := M4.block hb3 hn3
    have hc := t4.opened (by simp) (by intro p hp; simp only [List.mem_singleton] at hp; subst hp; exact wf32 h0 h1)
    simp only [ptrOf, hs4, hs3, hs2] at hc
    go_wp2_with fail
    refine Calls.mono hc ?_
    rintro e w5 ⟨ov, rfl, hov, t5, hk5⟩
    obtain ⟨oo, oc, rfl⟩ := hov.shape
    rw [rf_open] at hov ⊢
    have hb5 := hk5.keep hb4 (by simp)
    have r0 := cell_of_heap hb5 0
    have r1 := cell_of_heap hb5 1
    have r2 := cell_of_heap hb5 2
    have r3 := cell_of_heap hb5 3
    have r4 := cell_of_heap hb5 4
    have r5 := cell_of_heap hb5 5
    have r6 := cell_of_heap hb5 6
    simp only [List.getElem?_toArray, List.getElem?_cons_zero, List.getElem?_cons_succ] at r0 r1 r2 r3 r4 r5 r6
    have hc := t5.pub (few_of (by simp) (by simp) (by simp [xR]) rfl rfl) (pR id) h0 h1 (rf4 id)
    simp only [Pub.v, pR, ptrOf, hs4, hs3, hs2] at hc
    go_wp2_with fail
    refine Calls.mono hc ?_
    rintro e w6 ⟨_, rfl, rfl, s6, t6, M6, hs6⟩
    clear r0 r1 r2 r3 r4 r5 r6
    have hc := t6.erred (few_of (by simp) (by simp) (by simp [xR]) rfl rfl)
    simp only [ptrOf, hs6, hs4, hs3, hs2] at hc
    go_wp2_with fail
    refine Calls.mono hc ?_
    rintro e w7 ⟨ev, rfl, hev, t7, hk7⟩
    obtain ⟨eo, ec, rfl⟩ := hev.shape
    have hc := t7.over (few_of (by simp) (by simp) (by simp [xR]) rfl rfl)
    simp only [ptrOf, hs6, hs4, hs3, hs2] at hc
    go_wp2_with fail
    refine Calls.mono hc ?_
    rintro e w8 ⟨dv, rfl, hdv, t8, hk8⟩
    obtain ⟨do_, dc, rfl⟩ := hdv.shape
    go_wp2
    go_ret
    exact ⟨_, rfl, rfl, hk0.thenNil t8.ch⟩
  | false =>
    go_wp2_with fail
    have hc := t2.hack (few_of (by simp) (by simp) (by simp [xR]) rfl rfl) ⟨5, id, bits .or .u8 code 128⟩ (rf5 id _ (or128 code hc0 hc1))
    simp only [Ans.v, ptrOf, hs2] at hc
    refine Calls.mono hc ?_
    rintro e w4 ⟨_, rfl, rfl, s4, t4, M4, hs4⟩
    obtain ⟨hb4, hn4⟩ := M4.block hb2 hn2
    have hc := t4.opened (by simp) (by simp)
    simp only [ptrOf, hs4, hs2] at hc
    go_wp2_with fail
    refine Calls.mono hc ?_
    rintro e w5 ⟨ov, rfl, hov, t5, hk5⟩
    obtain ⟨oo, oc, rfl⟩ := hov.shape
    have hol : (openS ⟨[], [], [], 0, []⟩).length = 0 := by simp [openS, exOf]
    rw [hol] at hov ⊢
    have hb5 := hk5.keep hb4 (by simp)
    have r0 := cell_of_heap hb5 0
    have r1 := cell_of_heap hb5 1
    have r2 := cell_of_heap hb5 2
    have r3 := cell_of_heap hb5 3
    have r4 := cell_of_heap hb5 4
    have r5 := cell_of_heap hb5 5
    have r6 := cell_of_heap hb5 6
    simp only [List.getElem?_toArray, List.getElem?_cons_zero, List.getElem?_cons_succ] at r0 r1 r2 r3 r4 r5 r6
    have hc := t5.pub (few_of (by simp) (by simp) (by simp) rfl rfl) (pR id) h0 h1 (rf1 id)
    simp only [Pub.v, pR, ptrOf, hs4, hs2] at hc
    go_wp2_with fail
    refine Calls.mono hc ?_
    rintro e w6 ⟨_, rfl, rfl, s6, t6, M6, hs6⟩
    clear r0 r1 r2 r3 r4 r5 r6
    have hc := t6.erred (few_of (by simp) (by simp) (by simp [xR]) rfl rfl)
    simp only [ptrOf, hs6, hs4, hs2] at hc
    go_wp2_with fail
    refine Calls.mono hc ?_
    rintro e w7 ⟨ev, rfl, hev, t7, hk7⟩
    obtain ⟨eo, ec, rfl⟩ := hev.shape
    have hc := t7.opened (by simp) (by intro p hp; simp only [List.mem_singleton] at hp; subst hp; exact wf32 h0 h1)
    simp only [ptrOf, hs6, hs4, hs2] at hc
    go_wp2_with fail
    refine Calls.mono hc ?_
    rintro e w8 ⟨dv, rfl, hdv, t8, hk8⟩
    obtain ⟨do_, dc, rfl⟩ := hdv.shape
    rw [rf_open] at hdv ⊢
    go_wp2
    go_ret
    exact ⟨_, rfl, rfl, hk0.thenNil t8.ch⟩

end Go.Proofs.YticfeikmdfijiaaDoor
