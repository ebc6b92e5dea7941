/- A publish as an argument: opened. -/
import Derived.Test.YticfeikmdfijiaaDoorOpenMsg
import Derived.Test.YticfeikmdfijiaaDoorRmsg
namespace Go.Proofs.YticfeikmdfijiaaDoor
open Go Go.RowKit

variable {H : Type} {enc : TypeId × Value → H} {W : World} {spare : Nat → Bool} {base fuel : Nat} {x : DataW H × List MemPlace} {cs : List Value}

theorem cellsOf_pub : Tryd.prog.cellsOf 29 = 7 := by kernel_rfl

theorem open_pub (h : DataW.trod enc Tryd.prog W base spare true fuel 29 cs = some x) : ∃ (p : PubR) (pv : Value), cs = p.cells pv ∧ ArgSl W pv p.props ∧ NumsR p.props := by
  obtain ⟨hl, fuel', hf⟩ := leaf_struct Tryd.underlying29 h
  rw [cellsOf_pub] at hl
  obtain ⟨a, b, c, d, e, f, g, rfl⟩ := list7 hl
  clear h hl
  simp only [List.mem_cons, List.not_mem_nil, or_false, forall_eq_or_imp, forall_eq, cellsOf_u32, cellsOf_u8, cellsOf_bool, cellsOf_list, cellsOf_string, List.drop_succ_cons, List.drop_zero, List.take_succ_cons, List.take_zero] at hf
  obtain ⟨⟨y0, h0⟩, ⟨y1, h1⟩, ⟨y2, h2⟩, ⟨y3, h3⟩, ⟨y4, h4⟩, ⟨y5, h5⟩, ⟨y6, h6⟩⟩ := hf
  obtain ⟨dup, e0⟩ := leaf_bool Tryd.underlying4 h0
  obtain ⟨ret, e1⟩ := leaf_bool Tryd.underlying4 h1
  obtain ⟨qos, e2, _⟩ := leaf_int Tryd.underlying5 h2
  obtain ⟨id, e3, _⟩ := leaf_int Tryd.underlying22 h3
  obtain ⟨l, pv, e4, hsl, hn⟩ := open_list h4
  obtain ⟨topic, e5, _⟩ := leaf_string Tryd.underlying9 h5
  obtain ⟨pay, e6, _⟩ := leaf_string Tryd.underlying9 h6
  cases e0; cases e1; cases e2; cases e3; cases e4; cases e5; cases e6
  exact ⟨⟨dup, ret, qos, id, l, topic, pay⟩, _, rfl, hsl, hn⟩

set_option maxRecDepth 100000 in
theorem pub_v {r : Reach} {b0 : Nat} {v : Value} {m : PubR} {pv : Value} (h : Value.okWide Tryd.prog W r b0 29 v) (hcs : v.cells.toList = m.cells pv) : v = m.v pv :=
  struct_v Tryd.underlying29 h hcs

end Go.Proofs.YticfeikmdfijiaaDoor
