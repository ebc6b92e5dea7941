/- RetainPlays: a store and the document's row of messages, sorted by topic. Plain lists. -/
import Derived.Test.YticfeikmdfijiaaDoorRset
import Derived.Test.YticfeikmdfijiaaDoorRmatch
import Derived.Test.YticfeikmdfijiaaDoorExpire
namespace Go.Proofs.YticfeikmdfijiaaDoor
open Go Go.RowKit

theorem ltK_def (a b : ByteArray) : ltK a b = decide (a.data.toList < b.data.toList) := by
  unfold ltK
  rw [bytesLess_eq, ByteArray.toList_eq, ByteArray.toList_eq]
theorem ltK_irrefl (a : ByteArray) : ltK a a = false := by
  rw [ltK_def, decide_eq_false_iff_not]
  exact List.lt_irrefl _
theorem ltK_trans {a b c : ByteArray} (h1 : ltK a b = true) (h2 : ltK b c = true) : ltK a c = true := by
  rw [ltK_def, decide_eq_true_eq] at *
  exact List.lt_trans h1 h2
theorem ltK_total {a b : ByteArray} (h : a ≠ b) (h1 : ltK a b = false) : ltK b a = true := by
  rw [ltK_def, decide_eq_false_iff_not] at h1
  rw [ltK_def, decide_eq_true_eq]
  rcases List.le_total a.data.toList b.data.toList with h2 | h2
  · rcases (List.le_iff_lt_or_eq).1 h2 with h3 | h3
    · exact absurd h3 h1
    · exact absurd (data_inj h3) h
  · rcases (List.le_iff_lt_or_eq).1 h2 with h3 | h3
    · exact h3
    · exact absurd (data_inj h3).symm h
theorem leK_of_ltK {a b : ByteArray} (h : ltK a b = true) : leK a b = true := by
  rw [ltK_def, decide_eq_true_eq] at h
  unfold leK
  rw [decide_eq_true_eq]
  exact List.le_of_lt h
theorem leK_antisymm {a b : ByteArray} (h1 : leK a b = true) (h2 : leK b a = true) : a = b := by
  unfold leK at *
  rw [decide_eq_true_eq] at *
  exact data_inj (List.le_antisymm h1 h2)

theorem aset_perm {α : Type} (l : List (ByteArray × α)) (x : ByteArray) (v : α) : (aset l x v).Perm ((x, v) :: adel l x) := by
  induction l with
  | nil => exact List.Perm.refl _
  | cons p l ih =>
    unfold aset adel
    by_cases h : p.1 = x
    · rw [if_pos h, if_pos h]
    · rw [if_neg h, if_neg h]
      exact (ih.cons p).trans (List.Perm.swap _ _ _)
theorem adel_filter {α : Type} {l : List (ByteArray × α)} (hn : (l.map (·.1)).Nodup) (x : ByteArray) : adel l x = l.filter fun p => decide (p.1 ≠ x) := by
  induction l with
  | nil => rfl
  | cons p l ih =>
    simp only [List.map_cons, List.nodup_cons] at hn
    unfold adel
    by_cases h : p.1 = x
    · rw [if_pos h, List.filter_cons, if_neg (by simpa using h)]
      refine (List.filter_eq_self.2 fun q hq => ?_).symm
      simp only [ne_eq, decide_not, Bool.not_eq_eq_eq_not, Bool.not_true, decide_eq_false_iff_not]
      intro e
      exact hn.1 (List.mem_map.2 ⟨q, hq, e.trans h.symm⟩)
    · rw [if_neg h, List.filter_cons, if_pos (by simpa using h), ih hn.2]

theorem ins_perm (x : MsgR × Value) (l : List (MsgR × Value)) : (ins x l).Perm (x :: l) := by
  induction l with
  | nil => exact List.Perm.refl _
  | cons y l ih =>
    unfold ins
    split
    · exact List.Perm.refl _
    · exact (ih.cons y).trans (List.Perm.swap _ _ _)
theorem ins_sorted {x : MsgR × Value} {l : List (MsgR × Value)} (h : l.Pairwise fun a b => ltK a.1.topic b.1.topic = true) (hx : ∀ y ∈ l, y.1.topic ≠ x.1.topic) :
    (ins x l).Pairwise fun a b => ltK a.1.topic b.1.topic = true := by
  induction l with
  | nil => simp [ins]
  | cons y l ih =>
    obtain ⟨h1, h2⟩ := List.pairwise_cons.1 h
    unfold ins
    by_cases ht : ltK x.1.topic y.1.topic = true
    · rw [if_pos ht]
      refine List.pairwise_cons.2 ⟨fun z hz => ?_, h⟩
      rcases List.mem_cons.1 hz with rfl | hz
      · exact ht
      · exact ltK_trans ht (h1 z hz)
    · rw [if_neg ht]
      have hyx : ltK y.1.topic x.1.topic = true := ltK_total (fun e => hx y List.mem_cons_self e.symm) (by simpa using ht)
      refine List.pairwise_cons.2 ⟨fun z hz => ?_, ih h2 (fun z hz => hx z (List.mem_cons_of_mem _ hz))⟩
      rcases ins_mem hz with rfl | hz
      · exact hyx
      · exact h1 z hz

/-- The store holds what the document's row holds. -/
structure PL (S : List (ByteArray × MsgR)) (R : List (MsgR × Value)) : Prop where
  sorted : R.Pairwise fun a b => ltK a.1.topic b.1.topic = true
  perm : (S.map (·.2)).Perm (R.map (·.1))
  keys : ∀ p ∈ S, p.1 = p.2.topic

theorem PL.nil : PL [] [] := ⟨List.Pairwise.nil, List.Perm.refl _, fun p h => by cases h⟩
theorem PL.len {S : List (ByteArray × MsgR)} {R : List (MsgR × Value)} (h : PL S R) : S.length = R.length := by simpa using h.perm.length_eq

theorem PL.without {S : List (ByteArray × MsgR)} {R : List (MsgR × Value)} (h : PL S R) (hS : (S.map (·.1)).Nodup) (t : ByteArray) : PL (adel S t) (R.filter (otherT t)) := by
  refine ⟨h.sorted.filter _, ?_, fun p hp => h.keys p ((adel_sub _ _).subset hp)⟩
  rw [adel_filter hS]
  have e1 : (S.filter fun p => decide (p.1 ≠ t)).map (·.2) = (S.map (·.2)).filter fun m => decide (m.topic ≠ t) := by
    rw [List.filter_map]
    refine congrArg _ (List.filter_congr fun p hp => ?_)
    simp only [Function.comp_apply, h.keys p hp]
  have e2 : (R.filter (otherT t)).map (·.1) = (R.map (·.1)).filter fun m => decide (m.topic ≠ t) := by
    rw [List.filter_map]
    rfl
  rw [e1, e2]
  exact h.perm.filter _

theorem PL.set {S : List (ByteArray × MsgR)} {R : List (MsgR × Value)} (h : PL S R) (hS : (S.map (·.1)).Nodup) (most : Int) (m : MsgR) (pv : Value) :
    PL (setS S most m).1 (setR R (m, pv) most).1 ∧ (((setS S most m).2 = 0 ∧ (setR R (m, pv) most).2 = true) ∨ ((setS S most m).2 = 6 ∧ (setR R (m, pv) most).2 = false)) := by
  have hw := h.without hS m.topic
  unfold setS setR
  by_cases hp : m.payload = ⟨#[]⟩
  · rw [if_pos hp, if_pos hp]
    exact ⟨hw, .inl ⟨rfl, rfl⟩⟩
  · rw [if_neg hp, if_neg hp]
    have hiff : (alook S m.topic = none ∧ most ≤ S.length) ↔ ((R.filter (otherT m.topic)).length = R.length ∧ (R.length : Int) ≥ most) := by
      rw [h.len]
      refine and_congr_left fun _ => ?_
      rw [List.length_filter_eq_length_iff, alook_none]
      constructor
      · intro hn r hr
        obtain ⟨p, hp, e⟩ := List.mem_map.1 (h.perm.symm.subset (List.mem_map.2 ⟨r, hr, rfl⟩))
        have := hn p hp
        rw [h.keys p hp, e] at this
        simpa [otherT] using this
      · intro hn p hp e
        obtain ⟨r, hr, e2⟩ := List.mem_map.1 (h.perm.subset (List.mem_map.2 ⟨p, hp, rfl⟩))
        have := hn r hr
        simp only [otherT, e2, ← h.keys p hp, e] at this
        simp at this
    by_cases hf : alook S m.topic = none ∧ most ≤ S.length
    · rw [if_pos hf, if_pos (hiff.1 hf)]
      exact ⟨h, .inr ⟨rfl, rfl⟩⟩
    · rw [if_neg hf, if_neg (fun e => hf (hiff.2 e))]
      refine ⟨⟨ins_sorted hw.sorted (fun y hy => by simpa [otherT] using (List.mem_filter.1 hy).2), ?_, fun p hp => ?_⟩, .inl ⟨rfl, rfl⟩⟩
      · have h1 := (aset_perm S m.topic m).map (·.2)
        have h2 := (ins_perm (m, pv) (R.filter (otherT m.topic))).map (·.1)
        simp only [List.map_cons] at h1 h2
        exact h1.trans ((hw.perm.cons m).trans h2.symm)
      · rcases mem_aset hp with rfl | ⟨h1, _⟩
        · rfl
        · exact h.keys p h1

theorem PL.expire {S S' : List (ByteArray × MsgR)} {R : List (MsgR × Value)} (h : PL S R) (now : Int) (hp : S'.Perm (S.filter fun p => !goneS p.2 now)) : PL S' (R.filter (stays now)) := by
  refine ⟨h.sorted.filter _, ?_, fun p hq => h.keys p (List.mem_filter.1 (hp.subset hq)).1⟩
  have h1 := hp.map (·.2)
  have e1 : (S.filter fun p => !goneS p.2 now).map (·.2) = (S.map (·.2)).filter fun m => !goneS m now := by
    rw [List.filter_map]
    rfl
  have e2 : (R.filter (stays now)).map (·.1) = (R.map (·.1)).filter fun m => !goneS m now := by
    rw [List.filter_map]
    rfl
  rw [e1] at h1
  rw [e2]
  exact h1.trans (h.perm.filter _)

theorem matches_filter (S : List (ByteArray × MsgR)) (f : ByteArray) (now : Int) : ∀ R : List (MsgR × Value), (∀ r ∈ R, alook S r.1.topic = some r.1) →
    matchesS S f now (R.map (·.1.topic)) = (R.filter (tells f now)).map (·.1)
  | [], _ => rfl
  | r :: R, h => by
    have ih := matches_filter S f now R (fun q hq => h q (List.mem_cons_of_mem _ hq))
    unfold matchesS at ih ⊢
    rw [List.map_cons, List.flatMap_cons, ih, List.filter_cons]
    have hr := h r List.mem_cons_self
    unfold matchOne
    rw [hr]
    dsimp only
    by_cases ht : tells f now r = true
    · rw [if_pos ht, if_pos (by unfold tells at ht; simpa using ht)]
      rfl
    · rw [if_neg ht, if_neg (by unfold tells at ht; simpa using ht)]
      rfl

theorem PL.matches {S : List (ByteArray × MsgR)} {R : List (MsgR × Value)} (h : PL S R) (hS : (S.map (·.1)).Nodup) {ks : List ByteArray} (hp : ks.Perm (S.map (·.1))) (hs : ks.Pairwise fun a b => leK a b = true) (f : ByteArray) (now : Int) :
    matchesS S f now ks = (R.filter (tells f now)).map (·.1) := by
  have e1 : S.map (·.1) = (S.map (·.2)).map (·.topic) := by
    rw [List.map_map]
    exact List.map_congr_left fun p hp => h.keys p hp
  have hk : ks = R.map (·.1.topic) := by
    refine List.Perm.eq_of_pairwise (le := fun a b => leK a b = true) (fun a b _ _ h1 h2 => leK_antisymm h1 h2) hs (List.pairwise_map.2 (h.sorted.imp fun h => leK_of_ltK h)) ?_
    have h2 := h.perm.map (·.topic)
    rw [← e1, List.map_map] at h2
    exact hp.trans h2
  rw [hk]
  refine matches_filter S f now R fun r hr => ?_
  obtain ⟨p, hp, e⟩ := List.mem_map.1 (h.perm.symm.subset (List.mem_map.2 ⟨r, hr, rfl⟩))
  have h3 := alook_of_mem hS (x := p.1) (v := p.2) hp
  rw [h.keys p hp, e] at h3
  exact h3

end Go.Proofs.YticfeikmdfijiaaDoor
