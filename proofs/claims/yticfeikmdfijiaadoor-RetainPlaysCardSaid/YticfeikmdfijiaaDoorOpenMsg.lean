/- A message as an argument: opened. -/
import Derived.Test.YticfeikmdfijiaaDoorFew
import Derived.ProofKit
import Derived.OpenShut
import Derived.LaidMore
namespace Go.Proofs.YticfeikmdfijiaaDoor
open Go Go.RowKit

variable {H : Type} {enc : TypeId × Value → H} {W : World} {spare : Nat → Bool} {base fuel : Nat} {x : DataW H × List MemPlace} {cs : List Value}

theorem leaf_int {t : TypeId} {k : IntKind} (ht : Tryd.prog.underlying t = some (.int k)) (h : DataW.trod enc Tryd.prog W base spare true fuel t cs = some x) : ∃ n, cs = [.int k n] ∧ (Lit.int k n).wf = true := by
  cases fuel with
  | zero => cases h
  | succ fuel =>
    rw [DataW.trod.eq_def] at h
    simp only [ht] at h
    split at h <;> rename_i h2 <;> first | (exfalso; simp at h2; done) | (cases h2; done) | skip
    all_goals first | (cases h; done) | skip
    · split at h
      · rename_i h3
        simp at h2
        subst h2
        exact ⟨_, by rw [h3.1], h3.2⟩
      · cases h
theorem leaf_bool {t : TypeId} (ht : Tryd.prog.underlying t = some .bool) (h : DataW.trod enc Tryd.prog W base spare true fuel t cs = some x) : ∃ b, cs = [.bool b] := by
  cases fuel with
  | zero => cases h
  | succ fuel =>
    rw [DataW.trod.eq_def] at h
    simp only [ht] at h
    split at h <;> rename_i h2 <;> first | (exfalso; simp at h2; done) | (cases h2; done) | skip
    all_goals first | (cases h; done) | skip
    · exact ⟨_, rfl⟩
theorem leaf_string {t : TypeId} (ht : Tryd.prog.underlying t = some .string) (h : DataW.trod enc Tryd.prog W base spare true fuel t cs = some x) : ∃ s, cs = [.string s] ∧ s.size ≤ maxLen := by
  cases fuel with
  | zero => cases h
  | succ fuel =>
    rw [DataW.trod.eq_def] at h
    simp only [ht] at h
    split at h <;> rename_i h2 <;> first | (exfalso; simp at h2; done) | (cases h2; done) | skip
    all_goals first | (cases h; done) | skip
    · split at h
      · rename_i h3
        exact ⟨_, rfl, h3⟩
      · cases h

theorem mapM_all {α β : Type} {f : α → Option β} : ∀ {l : List α} {ys : List β}, l.mapM f = some ys → ∀ a ∈ l, ∃ y, f a = some y
  | [], _, _, a, ha => by cases ha
  | b :: l, ys, h, a, ha => by
    rw [List.mapM_cons] at h
    cases hb : f b with
    | none => rw [hb] at h; cases h
    | some y =>
      rw [hb] at h
      cases hl : l.mapM f with
      | none => rw [hl] at h; cases h
      | some zs =>
        rcases List.mem_cons.1 ha with rfl | ha
        · exact ⟨y, hb⟩
        · exact mapM_all hl a ha

theorem leaf_struct {t : TypeId} {fs : Array Field} (ht : Tryd.prog.underlying t = some (.struct fs)) (h : DataW.trod enc Tryd.prog W base spare true fuel t cs = some x) :
    cs.length = Tryd.prog.cellsOf t ∧ ∃ fuel', ∀ f ∈ fs.toList, ∃ y, DataW.trod enc Tryd.prog W base spare true fuel' f.type ((cs.drop f.offset).take (Tryd.prog.cellsOf f.type)) = some y := by
  cases fuel with
  | zero => cases h
  | succ fuel =>
    rw [DataW.trod.eq_def] at h
    simp only [ht] at h
    split at h
    · rename_i h3
      refine ⟨h3, fuel, ?_⟩
      rw [Option.map_eq_some_iff] at h
      obtain ⟨ys, hy, _⟩ := h
      exact mapM_all hy
    · cases h

theorem leaf_slice {t e : TypeId} (ht : Tryd.prog.underlying t = some (.slice e)) (h : DataW.trod enc Tryd.prog W base spare true fuel t cs = some x) :
    cs = [.slice none 0 0] ∨ ∃ a len cap, cs = [.slice (some a) len cap] ∧ len ≤ cap ∧ cap ≤ maxLen ∧ ∃ fuel', ∀ i, i < len → ∃ es y, W.cells? base (a.add (i * Tryd.prog.cellsOf e)) (Tryd.prog.cellsOf e) = some es ∧ DataW.trod enc Tryd.prog W base spare true fuel' e es = some y := by
  cases fuel with
  | zero => cases h
  | succ fuel =>
    rw [DataW.trod.eq_def] at h
    simp only [ht] at h
    split at h <;> rename_i h2 <;> first | (exfalso; simp at h2; done) | (cases h2; done) | skip
    all_goals first | (cases h; done) | skip
    · exact .inl rfl
    · simp at h2
      subst h2
      split at h
      · rename_i h3
        refine .inr ⟨_, _, _, rfl, h3.2.1, h3.2.2, fuel, fun i hi => ?_⟩
        rw [Option.bind_eq_some_iff] at h
        obtain ⟨ys, hy, _⟩ := h
        obtain ⟨y, hy2⟩ := mapM_all hy i (List.mem_range.2 hi)
        rw [Option.bind_eq_some_iff] at hy2
        obtain ⟨es, he, hy3⟩ := hy2
        exact ⟨es, y, he, hy3⟩
      · cases h

theorem list4 {α : Type} {l : List α} (h : l.length = 4) : ∃ a b c d, l = [a, b, c, d] := by
  match l, h with
  | [a, b, c, d], _ => exact ⟨a, b, c, d, rfl⟩
theorem list7 {α : Type} {l : List α} (h : l.length = 7) : ∃ a b c d e f g, l = [a, b, c, d, e, f, g] := by
  match l, h with
  | [a, b, c, d, e, f, g], _ => exact ⟨a, b, c, d, e, f, g, rfl⟩
theorem cellsOf_prop : Tryd.prog.cellsOf 62 = 4 := by kernel_rfl
theorem cellsOf_msg : Tryd.prog.cellsOf 58 = 7 := by kernel_rfl
theorem cellsOf_int : Tryd.prog.cellsOf 3 = 1 := by kernel_rfl
theorem cellsOf_u32 : Tryd.prog.cellsOf 22 = 1 := by kernel_rfl
theorem cellsOf_u8 : Tryd.prog.cellsOf 5 = 1 := by kernel_rfl
theorem cellsOf_string : Tryd.prog.cellsOf 9 = 1 := by kernel_rfl
theorem cellsOf_bool : Tryd.prog.cellsOf 4 = 1 := by kernel_rfl
theorem cellsOf_list : Tryd.prog.cellsOf 27 = 1 := by kernel_rfl

theorem open_prop (h : DataW.trod enc Tryd.prog W base spare true fuel 62 cs = some x) : ∃ p : PropR, cs = p.cells ∧ 0 ≤ p.n ∧ p.n ≤ 4294967295 := by
  obtain ⟨hl, fuel', hf⟩ := leaf_struct Tryd.underlying62 h
  rw [cellsOf_prop] at hl
  obtain ⟨a, b, c, d, rfl⟩ := list4 hl
  clear h hl
  simp only [List.mem_cons, List.not_mem_nil, or_false, forall_eq_or_imp, forall_eq, cellsOf_int, cellsOf_u32, cellsOf_string, List.drop_succ_cons, List.drop_zero, List.take_succ_cons, List.take_zero] at hf
  obtain ⟨⟨y0, h0⟩, ⟨y1, h1⟩, ⟨y2, h2⟩, ⟨y3, h3⟩⟩ := hf
  obtain ⟨id, e0, _⟩ := leaf_int Tryd.underlying3 h0
  obtain ⟨n, e1, w1⟩ := leaf_int Tryd.underlying22 h1
  obtain ⟨s, e2, _⟩ := leaf_string Tryd.underlying9 h2
  obtain ⟨s', e3, _⟩ := leaf_string Tryd.underlying9 h3
  cases e0; cases e1; cases e2; cases e3
  have m1 : IntKind.u32.min = 0 := rfl
  have m2 : IntKind.u32.max = 4294967295 := rfl
  simp only [Lit.wf, Bool.and_eq_true, decide_eq_true_eq, m1, m2] at w1
  exact ⟨⟨id, n, s, s'⟩, rfl, w1.1, w1.2⟩

/-- The rows of a list's elements, one behind the other. -/
theorem flat_get {l : List PropR} {j : Nat} {u : Value} (h : (l.flatMap PropR.cells)[j]? = some u) : ∃ p, l[j / 4]? = some p ∧ p.cells[j % 4]? = some u := by
  induction l generalizing j with
  | nil => simp at h
  | cons q l ih =>
    rw [List.flatMap_cons] at h
    have hq : q.cells.length = 4 := rfl
    by_cases hj : j < 4
    · rw [List.getElem?_append_left (by omega)] at h
      rw [Nat.div_eq_of_lt hj, Nat.mod_eq_of_lt hj]
      exact ⟨q, rfl, h⟩
    · rw [List.getElem?_append_right (by omega), hq] at h
      obtain ⟨p, h1, h2⟩ := ih h
      refine ⟨p, ?_, ?_⟩
      · rw [show j / 4 = (j - 4) / 4 + 1 by omega]; simpa using h1
      · rwa [show j % 4 = (j - 4) % 4 by omega]

theorem flat_len (l : List PropR) : (l.flatMap PropR.cells).length = l.length * 4 := by
  induction l with
  | nil => rfl
  | cons q l ih => rw [List.flatMap_cons, List.length_append, ih]; simp [PropR.cells]; omega
theorem open_list (h : DataW.trod enc Tryd.prog W base spare true fuel 27 cs = some x) : ∃ (l : List PropR) (pv : Value), cs = [pv] ∧ ArgSl W pv l ∧ NumsR l := by
  rcases leaf_slice Tryd.underlying27 h with rfl | ⟨a, len, cap, rfl, hlc, hcm, fuel', hel⟩
  · exact ⟨[], _, rfl, ⟨none, 0, rfl, .inl rfl⟩, fun p hp => by cases hp⟩
  · have hall : ∀ i, ∃ p : PropR, i < len → W.cells? base (a.add (i * 4)) 4 = some p.cells ∧ 0 ≤ p.n ∧ p.n ≤ 4294967295 := fun i => by
      by_cases hi : i < len
      · obtain ⟨es, y, he, hy⟩ := hel i hi
        rw [cellsOf_prop] at he
        obtain ⟨p, rfl, hp⟩ := open_prop hy
        exact ⟨p, fun _ => ⟨he, hp⟩⟩
      · exact ⟨zeroP, fun h => absurd h hi⟩
    clear hel h
    obtain ⟨g, hg⟩ : ∃ g : Nat → PropR, ∀ i, i < len → W.cells? base (a.add (i * 4)) 4 = some (g i).cells ∧ 0 ≤ (g i).n ∧ (g i).n ≤ 4294967295 := ⟨fun i => (hall i).choose, fun i => (hall i).choose_spec⟩
    have hl : ((List.range len).map g).length = len := by simp
    refine ⟨(List.range len).map g, _, rfl, ⟨some a, cap, by rw [hl], ?_⟩, fun p hp => ?_⟩
    · rcases Nat.eq_zero_or_pos len with h0 | h0
      · exact .inl (by rw [h0]; rfl)
      · refine .inr ?_
        have hc0 := (World.cells?_some (hg 0 h0).1).2.2 0 (by omega)
        obtain ⟨ab, ao, asp⟩ := a
        have hsp : asp = none := by
          have h1 : W.cell? ⟨ab, ao, asp⟩ = some (.int .i64 (g 0).id) := by simpa [Addr.add, PropR.cells] using hc0
          simpa using World.cell?_spot h1
        subst hsp
        refine ⟨some (ab, ao), cap, by rw [hl]; rfl, flat_len _, by omega, by omega, fun j u hj => ⟨ab, ao, rfl, ?_⟩⟩
        obtain ⟨p, h1, h2⟩ := flat_get hj
        have hi : j / 4 < len := by
          have := (List.getElem?_eq_some_iff.1 h1).1
          rwa [hl] at this
        have h3 : g (j / 4) = p := by simpa [List.getElem?_map, List.getElem?_range hi] using h1
        have h4 := (World.cells?_some (hg (j / 4) hi).1).2.2 (j % 4) (by omega)
        rw [h3, h2, Addr.add_add] at h4
        have h5 : (⟨ab, ao, none⟩ : Addr).add (j / 4 * 4 + j % 4) = ⟨ab, ao + j, none⟩ := by rw [show j / 4 * 4 + j % 4 = j by omega]; exact Addr.add_lit ..
        rwa [h5] at h4
    · obtain ⟨i, hi, rfl⟩ := List.mem_map.1 hp
      exact (hg i (List.mem_range.1 hi)).2

theorem open_msg (h : DataW.trod enc Tryd.prog W base spare true fuel 58 cs = some x) : ∃ (m : MsgR) (pv : Value), cs = m.cells pv ∧ ArgSl W pv m.props ∧ NumsR m.props := by
  obtain ⟨hl, fuel', hf⟩ := leaf_struct Tryd.underlying58 h
  rw [cellsOf_msg] at hl
  obtain ⟨a, b, c, d, e, f, g, rfl⟩ := list7 hl
  clear h hl
  simp only [List.mem_cons, List.not_mem_nil, or_false, forall_eq_or_imp, forall_eq, cellsOf_int, cellsOf_u8, cellsOf_bool, cellsOf_list, cellsOf_string, List.drop_succ_cons, List.drop_zero, List.take_succ_cons, List.take_zero] at hf
  obtain ⟨⟨y0, h0⟩, ⟨y1, h1⟩, ⟨y2, h2⟩, ⟨y3, h3⟩, ⟨y4, h4⟩, ⟨y5, h5⟩, ⟨y6, h6⟩⟩ := hf
  obtain ⟨fr, e0, _⟩ := leaf_string Tryd.underlying9 h0
  obtain ⟨at_, e1, _⟩ := leaf_int Tryd.underlying3 h1
  obtain ⟨qos, e2, _⟩ := leaf_int Tryd.underlying5 h2
  obtain ⟨ret, e3⟩ := leaf_bool Tryd.underlying4 h3
  obtain ⟨l, pv, e4, hsl, hn⟩ := open_list h4
  obtain ⟨topic, e5, _⟩ := leaf_string Tryd.underlying9 h5
  obtain ⟨pay, e6, _⟩ := leaf_string Tryd.underlying9 h6
  cases e0; cases e1; cases e2; cases e3; cases e4; cases e5; cases e6
  exact ⟨⟨fr, at_, qos, ret, l, topic, pay⟩, _, rfl, hsl, hn⟩

theorem struct_v {P : Program} {t : TypeId} {fs : Array Field} (hu : P.underlying t = some (.struct fs)) {r : Reach} {b0 : Nat} {v : Value} {l : List Value} (h : Value.okWide P W r b0 t v) (hcs : v.cells.toList = l) : v = .agg l.toArray := by
  obtain ⟨cs, hv, _⟩ := Go.WideShapes.okWide_struct hu h
  subst hv
  rw [← hcs]; simp [Value.cells]
set_option maxRecDepth 100000 in
theorem msg_v {r : Reach} {b0 : Nat} {v : Value} {m : MsgR} {pv : Value} (h : Value.okWide Tryd.prog W r b0 58 v) (hcs : v.cells.toList = m.cells pv) : v = m.v pv :=
  struct_v Tryd.underlying58 h hcs

end Go.Proofs.YticfeikmdfijiaaDoor
