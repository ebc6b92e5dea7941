/- slices.Clone of a row of one's own, or of any slice that is read. -/
import Derived.Test.YticfeikmdfijiaaDoorKit
import Derived.Shelf.SlicesE.Clone
namespace Go.Proofs.YticfeikmdfijiaaDoor
open Go Go.RowKit

theorem info_of {P : Program} {t e : TypeId} {z : Value} {size bytes : Nat} (T : ElemTy P t e z size bytes) : ∃ i0, P.info? e = some i0 ∧ i0.zero = some z ∧ i0.size = size ∧ i0.bytes = bytes := by
  have h := T.info
  cases hi : P.info? e with
  | none => rw [hi] at h; cases h
  | some i =>
    rw [hi] at h
    simp only [Option.map_some, Option.some.injEq, Prod.mk.injEq] at h
    exact ⟨i, rfl, h.1, h.2.1, h.2.2⟩

/-- slices.Clone. -/
theorem clone_any {P : Program} {ρ : Go.Shelf.Ren} (L : SlLaysE0.n41 P ρ) {t e : TypeId} (he : ρ.t 23 = e) {z : Value} {size bytes : Nat} (T : ElemTy P t e z size bytes) (hz : ∀ w, (Go.sizeOf e).run P w = .ok size w)
    (B : Nat) (w : World) (v : Value) (n : Nat) (cs : List Value) (h : w.ownsRow B e size v n cs) (hn : n ≤ 1000000) (hb : bytes ≤ 1000) (h1 : ∀ u ∈ cs, u.oneCell' = true) :
    Gives P (ρ.f 41) #[v] w fun v' w' => Sl w' v' size n cs ∧ Ch [] w w' := by
  subst he
  rcases h.2 with ⟨rfl, rfl⟩ | ⟨g, cap, cur, rfl, hgb, hg, hnc, hcm, hcs, htake⟩
  · have hcs : cs = [] := List.eq_nil_of_length_eq_zero (by simpa using h.1)
    subst hcs
    refine Calls.mono (AnyE.slices_Clone_nil L 0 0 w) ?_
    rintro _ _ ⟨rfl, rfl⟩
    exact ⟨_, rfl, Sl.nil _ size, Ch.refl _ _⟩
  · obtain ⟨i0, hi, hz0, hz1, hz2⟩ := info_of T
    have hbn : n * bytes ≤ 1000000 * 1000 := Nat.mul_le_mul hn hb
    refine Calls.mono (AnyE.slices_Clone L i0 z size bytes hi hz0 hz1 hz2 T.zsize T.pos hz g 0 n cap cs w h.1 (Nat.le_trans hnc hcm) (by omega) (fun j u hj => by
      have := h.cells (g := g) rfl j u hj
      simpa [Addr.add_lit] using this) h1) ?_
    rintro _ w' ⟨v', rfl, hr, _, hbel⟩
    exact ⟨_, rfl, Sl.ofRow hr, Ch.ofBelow hbel⟩

/-- .. of any slice that is read: the copy is a row of the call's own. -/
theorem clone_read {P : Program} {ρ : Go.Shelf.Ren} (L : SlLaysE0.n41 P ρ) {t e : TypeId} (he : ρ.t 23 = e) {z : Value} {size bytes : Nat} (T : ElemTy P t e z size bytes) (hz : ∀ w, (Go.sizeOf e).run P w = .ok size w)
    (w : World) (v : Value) (n : Nat) (cs : List Value) (h : Sl w v size n cs) (hn : n ≤ 1000000) (hb : bytes ≤ 1000) (h1 : ∀ u ∈ cs, u.oneCell' = true) :
    Gives P (ρ.f 41) #[v] w fun v' w' => (w'.ownsRow w.heap.size e size v' n cs ∨ n = 0) ∧ Sl w' v' size n cs ∧ Ch [] w w' := by
  subst he
  obtain ⟨bo, cap, rfl, hl, hcap, hml, hc⟩ := h
  cases bo with
  | none =>
    have hn0 : cs = [] := by
      cases cs with
      | nil => rfl
      | cons c cs =>
        obtain ⟨_, _, e, _⟩ := hc 0 c rfl
        cases e
    subst hn0
    have hn1 : n = 0 := by
      rcases Nat.eq_zero_or_pos n with h | h
      · exact h
      · have := Nat.mul_pos h T.pos
        simp at hl
        omega
    subst hn1
    refine Calls.mono (AnyE.slices_Clone_nil L 0 cap w) ?_
    rintro _ _ ⟨rfl, rfl⟩
    exact ⟨_, rfl, .inr rfl, Sl.nil _ size, Ch.refl _ _⟩
  | some p =>
    obtain ⟨i0, hi, hz0, hz1, hz2⟩ := info_of T
    have hbn : n * bytes ≤ 1000000 * 1000 := Nat.mul_le_mul hn hb
    refine Calls.mono (AnyE.slices_Clone L i0 z size bytes hi hz0 hz1 hz2 T.zsize T.pos hz p.1 p.2 n cap cs w hl hml (by omega) (fun j u hj => by
      obtain ⟨b, o, e, hcell⟩ := hc j u hj
      cases e
      exact hcell) h1) ?_
    rintro _ w' ⟨v', rfl, hr, _, hbel⟩
    exact ⟨_, rfl, .inl hr, Sl.ofRow hr, Ch.ofBelow hbel⟩

end Go.Proofs.YticfeikmdfijiaaDoor
