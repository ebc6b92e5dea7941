/- Retained messages: Tick, Cut, Left, Gone, Clone of properties. -/
import Derived.Test.YticfeikmdfijiaaDoorRet
import Derived.Test.YticfeikmdfijiaaDoorClone
namespace Go.Proofs.YticfeikmdfijiaaDoor
open Go Go.RowKit

/-- A message. -/
structure MsgR where
  from_ : ByteArray
  at_ : Int
  qos : Int
  ret : Bool
  props : List PropR
  topic : ByteArray
  payload : ByteArray

def MsgR.v (m : MsgR) (pv : Value) : Value := .agg #[.string m.from_, .int .i64 m.at_, .int .u8 m.qos, .bool m.ret, pv, .string m.topic, .string m.payload]
def MsgR.cells (m : MsgR) (pv : Value) : List Value := [.string m.from_, .int .i64 m.at_, .int .u8 m.qos, .bool m.ret, pv, .string m.topic, .string m.payload]

/-- What is left of a message: when it ends, counted from a tick. -/
def leftS (m : MsgR) (now : Int) : Int × Bool :=
  match getP m.props 2 with
  | none => (0, false)
  | some p => (m.at_ + p.n - now, true)
def goneS (m : MsgR) (now : Int) : Bool := (leftS m now).2 && decide ((leftS m now).1 ≤ 0)

/-- The properties as they lie, and that numbers fit. -/
structure MsgAt (w : World) (m : MsgR) (pv : Value) : Prop where
  sl : Sl w pv 4 m.props.length (m.props.flatMap PropR.cells)
  few : m.props.length ≤ 100000
  at0 : 0 ≤ m.at_
  at1 : m.at_ ≤ 1000000
  nums : ∀ p ∈ m.props, 0 ≤ p.n ∧ p.n ≤ 4294967295

theorem MsgAt.keep {w w' : World} {m : MsgR} {pv : Value} (h : MsgAt w m pv) (hc : Ch [] w w') : MsgAt w' m pv := ⟨h.sl.keep hc (by simp), h.few, h.at0, h.at1, h.nums⟩

theorem getP_mem {l : List PropR} {id : Int} {p : PropR} (h : getP l id = some p) : p ∈ l := List.mem_of_find?_eq_some h

set_option maxHeartbeats 2000000 in
theorem left_call (w : World) (m : MsgR) (pv : Value) (now : Int) (h : MsgAt w m pv) (n0 : 0 ≤ now) (n1 : now ≤ 1000000) :
    Gives Tryd.prog 23 #[m.v pv, .int .i64 now] w fun r w' => r = .tuple #[.int .i64 (leftS m now).1, .bool (leftS m now).2] ∧ Ch [] w w' := by
  have hc0 : Ch [] w (w.alloc (Obj.cells (m.cells pv).toArray 58)) := (Ch.refl [] w).alloc _
  have hb0 := heap_new w (Obj.cells (m.cells pv).toArray 58)
  have hg := get_call _ pv m.props 2 (h.keep hc0).sl (by have := h.few; omega)
  obtain ⟨bo, cap, hpv, _⟩ := h.sl
  have e1 := h.at0
  have e2 := h.at1
  simp only [MsgR.v, MsgR.cells] at *
  have hsh : ∃ ao n c, pv = .slice ao n c := ⟨_, _, _, hpv⟩
  clear hpv
  obtain ⟨ao, sn, sc, rfl⟩ := hsh
  cases hp : getP m.props 2 with
  | none =>
    have hl : leftS m now = (0, false) := by simp [leftS, hp]
    rw [hl]
    simp only [hp, Option.getD_none, Option.isSome_none, zeroP, PropR.v] at hg
    go_enter Tryd.func23, Tryd.ntmps23
    go_wp2_with (go_at_call 61; refine Calls.mono hg ?_; rintro e w' ⟨v, rfl, rfl, hw⟩)
    go_ret2
    exact ⟨_, rfl, rfl, (hc0.thenNil hw).alloc _⟩
  | some p =>
    have hl : leftS m now = (m.at_ + p.n - now, true) := by simp [leftS, hp]
    rw [hl]
    obtain ⟨p0, p1⟩ := h.nums p (getP_mem hp)
    obtain ⟨pid, pn, ps, pt⟩ := p
    simp only [hp, Option.getD_some, Option.isSome_some, PropR.v] at hg
    simp only at p0 p1
    have w1 : IntKind.i64.wrap (m.at_ + pn) = m.at_ + pn := by rw [IntKind.wrap_i64]; omega
    have w2 : IntKind.i64.wrap (m.at_ + pn - now) = m.at_ + pn - now := by rw [IntKind.wrap_i64]; omega
    go_enter Tryd.func23, Tryd.ntmps23
    go_wp2_with (go_at_call 61; refine Calls.mono hg ?_; rintro e w' ⟨v, rfl, rfl, hw⟩; have q1 : w'.cell? ⟨w.heap.size, 1, none⟩ = some (.int .i64 m.at_) := cell_of_heap (hw.keep hb0 (by simp)) 1; have hlt := lt_of_heap (hw.keep hb0 (by simp)); have hne : w.heap.size ≠ w'.heap.size := by omega)
    go_ret2
    exact ⟨_, rfl, rfl, (hc0.thenNil hw).alloc _⟩

set_option maxHeartbeats 2000000 in
theorem gone_call (w : World) (m : MsgR) (pv : Value) (now : Int) (h : MsgAt w m pv) (n0 : 0 ≤ now) (n1 : now ≤ 1000000) :
    Gives Tryd.prog 25 #[m.v pv, .int .i64 now] w fun r w' => r = .bool (goneS m now) ∧ Ch [] w w' := by
  have hc0 : Ch [] w (w.alloc (Obj.cells (m.cells pv).toArray 58)) := (Ch.refl [] w).alloc _
  have hl := left_call _ m pv now (h.keep hc0) n0 n1
  obtain ⟨bo, cap, hpv, _⟩ := h.sl
  have hsh : ∃ ao n c, pv = .slice ao n c := ⟨_, _, _, hpv⟩
  clear hpv
  simp only [MsgR.v, MsgR.cells] at *
  obtain ⟨ao, sn, sc, rfl⟩ := hsh
  unfold goneS
  generalize leftS m now = q at hl ⊢
  obtain ⟨x, b⟩ := q
  simp only at hl ⊢
  cases b with
  | true =>
    go_enter Tryd.func25, Tryd.ntmps25
    go_wp2_with (go_at_call 23; refine Calls.mono hl ?_; rintro e w' ⟨v, rfl, rfl, hw⟩)
    go_ret
    exact ⟨_, rfl, by simp, hc0.thenNil hw⟩
  | false =>
    go_enter Tryd.func25, Tryd.ntmps25
    go_wp2_with (go_at_call 23; refine Calls.mono hl ?_; rintro e w' ⟨v, rfl, rfl, hw⟩)
    go_ret
    exact ⟨_, rfl, by simp, hc0.thenNil hw⟩

def tickS (n : Int) : Int := (n.tmod 100000 + 100000).tmod 100000
theorem tickS_range (n : Int) : 0 ≤ tickS n ∧ tickS n < 100000 := by
  have h1 : -100000 < n.tmod 100000 := by have := Int.lt_tmod_of_pos n (show (0 : Int) < 100000 by omega); omega
  have h2 := Int.tmod_lt_of_pos n (show (0 : Int) < 100000 by omega)
  unfold tickS
  constructor
  · exact Int.tmod_nonneg _ (by omega)
  · exact Int.tmod_lt_of_pos _ (by omega)

set_option maxHeartbeats 1000000 in
theorem tick_call (w : World) (n : Int) :
    Gives Tryd.prog 22 #[.int .i64 n] w fun r w' => r = .int .i64 (tickS n) ∧ w' = w := by
  have h1 : -100000 < n.tmod 100000 := by have := Int.lt_tmod_of_pos n (show (0 : Int) < 100000 by omega); omega
  have h2 := Int.tmod_lt_of_pos n (show (0 : Int) < 100000 by omega)
  have h3 := tickS_range n
  have w1 : IntKind.i64.wrap (n.tmod 100000) = n.tmod 100000 := by rw [IntKind.wrap_i64]; omega
  have w2 : IntKind.i64.wrap (n.tmod 100000 + 100000) = n.tmod 100000 + 100000 := by rw [IntKind.wrap_i64]; omega
  have w3 : IntKind.i64.wrap ((n.tmod 100000 + 100000).tmod 100000) = (n.tmod 100000 + 100000).tmod 100000 := by unfold tickS at h3; rw [IntKind.wrap_i64]; omega
  go_enter Tryd.func22, Tryd.ntmps22
  go_wp2
  go_ret
  refine ⟨_, rfl, ?_, rfl⟩
  unfold tickS
  rw [show (n.tmod 100000 + 100000).tmod 100000 = (n.tmod 100000 + 100000) % 100000 from Int.tmod_eq_emod_of_nonneg (by omega)]
  rfl

def cutS (s : ByteArray) (n : Nat) : ByteArray := if n < s.size then s.extract 0 n else s

set_option maxHeartbeats 1000000 in
theorem cut_call (w : World) (s : ByteArray) (n : Nat) (hn : n ≤ 1000) :
    Gives Tryd.prog 30 #[.string s, .int .i64 n] w fun r w' => r = .string (cutS s n) ∧ w' = w := by
  by_cases h : n < s.size
  · go_enter Tryd.func30, Tryd.ntmps30
    go_wp2
    go_ret
    exact ⟨_, rfl, by simp [cutS, h], rfl⟩
  · go_enter Tryd.func30, Tryd.ntmps30
    go_wp2
    go_ret
    exact ⟨_, rfl, by simp [cutS, h], rfl⟩

theorem cutS_size (s : ByteArray) (n : Nat) : (cutS s n).size ≤ n := by
  unfold cutS
  split
  · rename_i h
    rw [ByteArray.size_extract]
    omega
  · omega

end Go.Proofs.YticfeikmdfijiaaDoor
