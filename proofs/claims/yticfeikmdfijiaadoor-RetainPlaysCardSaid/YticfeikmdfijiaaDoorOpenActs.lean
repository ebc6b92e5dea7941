/- A row of moves as an argument: opened. -/
import Derived.Test.YticfeikmdfijiaaDoorOpenMsgs
import Derived.Test.YticfeikmdfijiaaDoorRplays
namespace Go.Proofs.YticfeikmdfijiaaDoor
open Go Go.RowKit

variable {H : Type} {enc : TypeId × Value → H} {W : World} {spare : Nat → Bool} {base fuel : Nat} {x : DataW H × List MemPlace} {cs : List Value}

theorem list10 {α : Type} {l : List α} (h : l.length = 10) : ∃ a b c d e f g i j k, l = [a, b, c, d, e, f, g, i, j, k] := by
  match l, h with
  | [a, b, c, d, e, f, g, i, j, k], _ => exact ⟨a, b, c, d, e, f, g, i, j, k, rfl⟩
theorem cellsOf_act : Tryd.prog.cellsOf 98 = 10 := by kernel_rfl

theorem open_act (h : DataW.trod enc Tryd.prog W base spare true fuel 98 cs = some x) : ∃ (a : ActR) (pv : Value), cs = a.cells pv ∧ ArgSl W pv a.m.props ∧ NumsR a.m.props := by
  obtain ⟨hl, fuel', hf⟩ := leaf_struct Tryd.underlying98 h
  rw [cellsOf_act] at hl
  obtain ⟨a, b, c, d, e, f, g, i, j, k, rfl⟩ := list10 hl
  clear h hl
  simp only [List.mem_cons, List.not_mem_nil, or_false, forall_eq_or_imp, forall_eq, cellsOf_int, cellsOf_msg, cellsOf_string, List.drop_succ_cons, List.drop_zero, List.take_succ_cons, List.take_zero] at hf
  obtain ⟨⟨y0, h0⟩, ⟨y1, h1⟩, ⟨y2, h2⟩, ⟨y3, h3⟩⟩ := hf
  obtain ⟨kd, e0, _⟩ := leaf_int Tryd.underlying3 h0
  obtain ⟨m, pv, e1, hsl, hn⟩ := open_msg h1
  obtain ⟨ft, e2, _⟩ := leaf_string Tryd.underlying9 h2
  obtain ⟨nw, e3, _⟩ := leaf_int Tryd.underlying3 h3
  obtain ⟨fr, at_, qos, ret, ps, tp, py⟩ := m
  cases e0; cases e1; cases e2; cases e3
  exact ⟨⟨kd, ⟨fr, at_, qos, ret, ps, tp, py⟩, ft, nw⟩, _, rfl, hsl, hn⟩

theorem open_acts (h : DataW.trod enc Tryd.prog W base spare true fuel 95 cs = some x) : ∃ (l : List (ActR × Value)) (v : Value), cs = [v] ∧ ArgActs W v l := by
  obtain ⟨l, ao, cap, hcs, hsl, hok⟩ := open_row (f := fun p : ActR × Value => p.1.cells p.2) (k := 10) (fun _ => rfl) (by omega) (fun p => ArgSl W p.2 p.1.m.props ∧ NumsR p.1.m.props) Tryd.underlying95 cellsOf_act
    (⟨0, ⟨⟨#[]⟩, 0, 0, false, [], ⟨#[]⟩, ⟨#[]⟩⟩, ⟨#[]⟩, 0⟩, .bool true) (fun y => by simp [ActR.cells]) (fun fuel es y hy => by
      obtain ⟨m, pv, h1, h2, h3⟩ := open_act hy
      exact ⟨(m, pv), h1, h2, h3⟩) h
  exact ⟨l, _, hcs, ao, cap, rfl, hsl, hok⟩

end Go.Proofs.YticfeikmdfijiaaDoor
