/- Ranging over a map that the round leaves alone: what is left to come, as a list of pairs. -/
import Derived.Test.YticfeikmdfijiaaDoorKit
import Derived.Maps.RangeRun
namespace Go.Proofs.YticfeikmdfijiaaDoor
open Go Go.RowKit Go.MapKept
open Go.ChangeMaps (setBlock)

theorem filter_out (e : MapEntry) (p : MapEntry → Bool) (hp : p e = true) : ∀ (l : List MapEntry), (l.map (·.born)).Nodup → e ∈ l →
    (l.filter p).Perm (e :: l.filter fun x => p x && !(x.born == e.born))
  | [], _, h => by cases h
  | x :: l, hn, h => by
    have hn' : x.born ∉ l.map (·.born) ∧ (l.map (·.born)).Nodup := List.nodup_cons.1 hn
    rcases List.mem_cons.1 h with rfl | h
    · have h1 : (l.filter fun y => p y && !(y.born == e.born)) = l.filter p := by
        refine List.filter_congr fun y hy => ?_
        have : (y.born == e.born) = false := by
          cases hc : y.born == e.born with
          | false => rfl
          | true => exact absurd (List.mem_map.2 ⟨y, hy, beq_iff_eq.1 hc⟩) hn'.1
        rw [this]; simp
      simp only [List.filter_cons, hp, if_true, beq_self_eq_true, Bool.not_true, Bool.and_false, Bool.false_eq_true, if_false, h1]
      exact List.Perm.refl _
    · have hx : (x.born == e.born) = false := by
        cases hc : x.born == e.born with
        | false => rfl
        | true => exact absurd (by rw [beq_iff_eq.1 hc]; exact List.mem_map.2 ⟨e, h, rfl⟩) hn'.1
      have ih := filter_out e p hp l hn'.2 h
      by_cases hq : p x = true
      · simp only [List.filter_cons, hq, hx, if_true, Bool.not_false, Bool.and_true]
        exact (ih.cons x).trans (List.Perm.swap _ _ _)
      · have hq' : p x = false := by simpa using hq
        simp only [List.filter_cons, hq', Bool.false_eq_true, if_false, Bool.false_and]
        exact ih

theorem left_push {es : Array MapEntry} {seen : Array Nat} {e : MapEntry} (hn : (es.toList.map (·.born)).Nodup) (he : e ∈ (leftOf es seen).toList) :
    (leftOf es seen).toList.Perm (e :: (leftOf es (seen.push e.born)).toList) := by
  obtain ⟨h1, h2⟩ := mem_left he
  have h3 := filter_out e (fun x => !seen.contains x.born) (by rw [h2]; rfl) es.toList hn h1
  have h4 : (leftOf es (seen.push e.born)).toList = es.toList.filter fun x => (!seen.contains x.born) && !(x.born == e.born) := by
    unfold leftOf
    rw [Array.toList_filter]
    refine List.filter_congr fun x _ => ?_
    rw [contains_push, Bool.not_or]
  rw [h4]
  unfold leftOf
  rw [Array.toList_filter]
  exact h3

section
variable {κ γ : Type} {enc : κ → Value} {f : γ → Value × Value} {P : Program} {w : World} {b r : Nat} {left : List γ} {t k e : TypeId}

/-- The iterator in block r, over the map in block b: these pairs are still to come. -/
def ItAt (f : γ → Value × Value) (w : World) (r b : Nat) (left : List γ) : Prop :=
  ∃ es clock seen, w.heap[r]? = some (.mapIter (some b) clock seen clock) ∧ w.heap[b]? = some (.map es clock) ∧ Stamped es clock ∧ (((leftOf es seen).toList.map fun x => (x.key, x.val)).Perm (left.map f))

theorem ItAt.left_eq (h : ItAt f w r b left) : w.rangeLeft b r = left.length := by
  obtain ⟨es, clock, seen, hr, hb, _, hp⟩ := h
  unfold World.rangeLeft
  rw [hb, hr]
  simpa using hp.length_eq
theorem ItAt.ne (h : ItAt f w r b left) : r ≠ b := by
  obtain ⟨es, clock, seen, hr, hb, _⟩ := h
  rintro rfl
  rw [hr] at hb
  cases hb
theorem ItAt.lt (h : ItAt f w r b left) : r < w.heap.size := by
  obtain ⟨es, clock, seen, hr, _⟩ := h
  exact lt_of_heap hr
theorem ItAt.keep {S : List Nat} {w' : World} (h : ItAt f w r b left) (hc : Ch S w w') (h1 : r ∉ S) (h2 : b ∉ S) : ItAt f w' r b left := by
  obtain ⟨es, clock, seen, hr, hb, x⟩ := h
  exact ⟨es, clock, seen, hc.keep hr h1, hc.keep hb h2, x⟩

/-- range m -/
theorem IsMap.run_range {g : γ → κ × Value} {l : List γ} (h : IsMap enc w b (l.map g)) (ht : P.underlying t = some (.map k e)) :
    ∃ o, (Instr.range t (.map (some b))).run P w = .ok (.pointer (some ⟨w.heap.size, 0, none⟩)) (w.alloc o) ∧ ItAt (fun x => (enc (g x).1, (g x).2)) (w.alloc o) w.heap.size b l := by
  obtain ⟨es, clock, hb, hs, he⟩ := h
  refine ⟨_, run_range_map w t k e b es clock ht hb, es, clock, #[], heap_new w _, heap_old hb _, hs, ?_⟩
  have : leftOf es #[] = es := by
    unfold leftOf
    exact Array.filter_eq_self.2 (fun x _ => by simp)
  rw [this, he, List.map_map]
  exact List.Perm.refl _

theorem ch_setBlock {S : List Nat} (w : World) (r : Nat) (o : Obj) (hr : r ∈ S) : Ch S w (setBlock w r o) :=
  ⟨rfl, rfl, rfl, by simp [setBlock], fun i hi hn => by
    have : i ≠ r := fun e => hn (e ▸ hr)
    simp only [setBlock]
    rw [Array.getElem?_setIfInBounds]
    rw [if_neg (fun e => this e.symm)]⟩
theorem heap_setBlock {w : World} {r : Nat} (hr : r < w.heap.size) (o : Obj) : (setBlock w r o).heap[r]? = some o := by
  simp only [setBlock]
  rw [Array.getElem?_setIfInBounds]
  simp [hr]

/-- next, and what comes out. -/
theorem ItAt.next (h : ItAt f w r b left) :
    (left = [] ∧ ∀ ty, (Instr.next (.pointer (some ⟨r, 0, none⟩)) false ty).run P w = .ok (.tuple #[.bool false]) w) ∨
    ∃ p left' w', left.Perm (p :: left') ∧ (∀ ty, (Instr.next (.pointer (some ⟨r, 0, none⟩)) false ty).run P w = .ok (.tuple #[.bool true, (f p).1, (f p).2]) w') ∧
      (Instr.entry (.pointer (some ⟨r, 0, none⟩))).run P w' = .ok (.tuple #[(f p).1, (f p).2]) w' ∧ ItAt f w' r b left' ∧ Ch [r] w w' := by
  have hne := h.ne
  have hlt := h.lt
  obtain ⟨es, clock, seen, hr, hb, hs, hp⟩ := h
  rcases run_next_at (P := P) w 0 r b clock clock seen es clock hr hb hs.1 (Nat.le_refl _) with ⟨h0, hrun⟩ | ⟨e, he, w1, hw1, hrun⟩
  · refine .inl ⟨?_, fun ty => hrun⟩
    have := hp.length_eq
    simp only [List.length_map, Array.length_toList, h0] at this
    exact List.eq_nil_of_length_eq_zero this.symm
  · right
    have hm : (e.key, e.val) ∈ left.map f := hp.subset (List.mem_map.2 ⟨e, he, rfl⟩)
    obtain ⟨p, hpm, hpe⟩ := List.mem_map.1 hm
    obtain ⟨s, q, rfl⟩ := List.append_of_mem hpm
    have hpush := left_push hs.2.1 he
    have hc0 : Ch [r] w w1 := by
      rcases hw1 with rfl | rfl
      · exact Ch.refl _ _
      · exact (Ch.refl _ _).drew
    have hb1 : (setBlock w1 r (.mapIter (some b) clock (seen.push e.born) clock)).heap[b]? = some (.map es clock) := (hc0.trans (ch_setBlock w1 r _ (by simp)) (fun x hx => .inl hx)).keep hb (by simp; exact fun e => hne e.symm)
    have hr1 : (setBlock w1 r (.mapIter (some b) clock (seen.push e.born) clock)).heap[r]? = some (.mapIter (some b) clock (seen.push e.born) clock) := heap_setBlock (Nat.lt_of_lt_of_le hlt hc0.size) _
    refine ⟨p, s ++ q, _, List.perm_middle, fun ty => ?_, ?_, ⟨es, clock, seen.push e.born, hr1, hb1, hs, ?_⟩, hc0.trans (ch_setBlock w1 r _ (by simp)) (fun x hx => .inl hx)⟩
    · rw [hpe]; exact hrun
    · rw [hpe]
      exact run_entry_at _ r b clock seen es clock e hr1 hb1 (mem_left he).1 hs.2.1
    · have h1 := (hpush.map fun x : MapEntry => (x.key, x.val)).symm.trans (hp.trans (List.perm_middle.map f))
      simp only [List.map_cons] at h1
      rw [hpe] at h1
      exact h1.cons_inv
end

end Go.Proofs.YticfeikmdfijiaaDoor
