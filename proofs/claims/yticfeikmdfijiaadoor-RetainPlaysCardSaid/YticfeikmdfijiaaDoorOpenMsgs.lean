/- A row of messages as an argument: opened. -/
import Derived.Test.YticfeikmdfijiaaDoorOpenMsg
import Derived.Test.YticfeikmdfijiaaDoorRlast
namespace Go.Proofs.YticfeikmdfijiaaDoor
open Go Go.RowKit

variable {H : Type} {enc : TypeId × Value → H} {W : World} {spare : Nat → Bool} {base fuel : Nat} {x : DataW H × List MemPlace} {cs : List Value}

/-- A value of a slice's type is its one cell. -/
theorem slice_v {P : Program} {t e : TypeId} (hu : P.underlying t = some (.slice e)) {r : Reach} {b0 : Nat} {v u : Value} (h : Value.okWide P W r b0 t v) (hcs : v.cells.toList = [u]) : v = u := by
  unfold Value.okWide at h
  simp only [hu] at h
  unfold Cell.okWide at h
  simp only [hu] at h
  cases v <;> simp_all [Value.cells, Cell.ok]

/-- The cells of elements of k cells each, one behind the other. -/
theorem flat_getK {α : Type} {f : α → List Value} {k : Nat} (hf : ∀ x, (f x).length = k) (hk : 0 < k) {l : List α} {j : Nat} {u : Value} (h : (l.flatMap f)[j]? = some u) : ∃ p, l[j / k]? = some p ∧ (f p)[j % k]? = some u := by
  induction l generalizing j with
  | nil => simp at h
  | cons q l ih =>
    rw [List.flatMap_cons] at h
    have hq := hf q
    by_cases hj : j < k
    · rw [List.getElem?_append_left (by omega)] at h
      rw [Nat.div_eq_of_lt hj, Nat.mod_eq_of_lt hj]
      exact ⟨q, rfl, h⟩
    · rw [List.getElem?_append_right (by omega), hq] at h
      obtain ⟨p, h1, h2⟩ := ih h
      have hd : j / k = (j - k) / k + 1 := by
        rw [Nat.div_eq_sub_div hk (by omega)]
      have hm : j % k = (j - k) % k := Nat.mod_eq_sub_mod (by omega)
      exact ⟨p, by rw [hd]; simpa using h1, by rw [hm]; exact h2⟩
theorem flat_lenK {α : Type} {f : α → List Value} {k : Nat} (hf : ∀ x, (f x).length = k) (l : List α) : (l.flatMap f).length = l.length * k := by
  induction l with
  | nil => simp
  | cons q l ih => rw [List.flatMap_cons, List.length_append, ih, hf, List.length_cons, Nat.add_mul, Nat.one_mul, Nat.add_comm]

/-- A slice whose elements open one by one. -/
theorem open_row {α : Type} {f : α → List Value} {k : Nat} (hf : ∀ x, (f x).length = k) (hk : 0 < k) (Ok : α → Prop) {t e : TypeId} (ht : Tryd.prog.underlying t = some (.slice e)) (hce : Tryd.prog.cellsOf e = k) (dflt : α) (hne : ∀ y : α, (f y)[0]? ≠ none)
    (hel : ∀ (fuel : Nat) (es : List Value) (y : DataW H × List MemPlace), DataW.trod enc Tryd.prog W base spare true fuel e es = some y → ∃ p : α, es = f p ∧ Ok p)
    (h : DataW.trod enc Tryd.prog W base spare true fuel t cs = some x) :
    ∃ (l : List α) (ao : Option Addr) (cap : Nat), cs = [.slice ao l.length cap] ∧ (l = [] ∨ Sl W (.slice ao l.length cap) k l.length (l.flatMap f)) ∧ ∀ p ∈ l, Ok p := by
  rcases leaf_slice ht h with rfl | ⟨a, len, cap, rfl, hlc, hcm, fuel', hels⟩
  · exact ⟨[], none, 0, rfl, .inl rfl, fun p hp => by cases hp⟩
  · have hall : ∀ i, ∃ p : α, i < len → W.cells? base (a.add (i * k)) k = some (f p) ∧ Ok p := fun i => by
      by_cases hi : i < len
      · obtain ⟨es, y, he, hy⟩ := hels i hi
        rw [hce] at he
        obtain ⟨p, rfl, hp⟩ := hel _ _ _ hy
        exact ⟨p, fun _ => ⟨he, hp⟩⟩
      · exact ⟨dflt, fun h => absurd h hi⟩
    clear hels h
    obtain ⟨g, hg⟩ : ∃ g : Nat → α, ∀ i, i < len → W.cells? base (a.add (i * k)) k = some (f (g i)) ∧ Ok (g i) := ⟨fun i => (hall i).choose, fun i => (hall i).choose_spec⟩
    have hl : ((List.range len).map g).length = len := by simp
    refine ⟨(List.range len).map g, some a, cap, by rw [hl], ?_, fun p hp => ?_⟩
    · rcases Nat.eq_zero_or_pos len with h0 | h0
      · exact .inl (by rw [h0]; rfl)
      · refine .inr ?_
        have hc0 := (World.cells?_some (hg 0 h0).1).2.2 0 hk
        obtain ⟨ab, ao, asp⟩ := a
        have hsp : asp = none := by
          cases hv : (f (g 0))[0]? with
          | none => exact absurd hv (hne _)
          | some u =>
            rw [hv] at hc0
            have h1 : W.cell? ⟨ab, ao, asp⟩ = some u := by simpa [Addr.add] using hc0
            simpa using World.cell?_spot h1
        subst hsp
        refine ⟨some (ab, ao), cap, by rw [hl]; rfl, by rw [flat_lenK hf], by omega, by omega, fun j u hj => ⟨ab, ao, rfl, ?_⟩⟩
        obtain ⟨p, h1, h2⟩ := flat_getK hf hk hj
        have hi : j / k < len := by
          have := (List.getElem?_eq_some_iff.1 h1).1
          rwa [hl] at this
        have h3 : g (j / k) = p := by simpa [List.getElem?_map, List.getElem?_range hi] using h1
        have h4 := (World.cells?_some (hg (j / k) hi).1).2.2 (j % k) (Nat.mod_lt _ hk)
        rw [h3, h2, Addr.add_add] at h4
        have h5 : (⟨ab, ao, none⟩ : Addr).add (j / k * k + j % k) = ⟨ab, ao + j, none⟩ := by rw [Nat.div_add_mod']; exact Addr.add_lit ..
        rwa [h5] at h4
    · obtain ⟨i, hi, rfl⟩ := List.mem_map.1 hp
      exact (hg i (List.mem_range.1 hi)).2

theorem open_msgs (h : DataW.trod enc Tryd.prog W base spare true fuel 67 cs = some x) : ∃ (l : List (MsgR × Value)) (v : Value), cs = [v] ∧ ArgMs W v l := by
  obtain ⟨l, ao, cap, hcs, hsl, hok⟩ := open_row (f := fun p : MsgR × Value => p.1.cells p.2) (k := 7) (fun _ => rfl) (by omega) (fun p => ArgSl W p.2 p.1.props ∧ NumsR p.1.props) Tryd.underlying67 cellsOf_msg
    (⟨⟨#[]⟩, 0, 0, false, [], ⟨#[]⟩, ⟨#[]⟩⟩, .bool true) (fun y => by simp [MsgR.cells]) (fun fuel es y hy => by
      obtain ⟨m, pv, h1, h2, h3⟩ := open_msg hy
      exact ⟨(m, pv), h1, h2, h3⟩) h
  exact ⟨l, _, hcs, ao, cap, rfl, hsl, hok⟩

end Go.Proofs.YticfeikmdfijiaaDoor
