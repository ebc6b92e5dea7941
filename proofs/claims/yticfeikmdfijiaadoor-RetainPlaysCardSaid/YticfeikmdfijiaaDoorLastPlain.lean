/- RetainLast, RetainFull: what a store and a map of last payloads have in common; a store that is full. Plain lists. -/
import Derived.Test.YticfeikmdfijiaaDoorSmatch
namespace Go.Proofs.YticfeikmdfijiaaDoor
open Go Go.RowKit

/-- The store holds the last message of each topic, unless that was empty. -/
structure RL (s : List (ByteArray × MsgR)) (last : List (ByteArray × ByteArray)) : Prop where
  of : ∀ k m, alook s k = some m → m.topic = k ∧ m.payload ≠ ⟨#[]⟩ ∧ alook last k = some m.payload
  back : ∀ k p, alook last k = some p → p ≠ ⟨#[]⟩ → (alook s k).isSome = true

theorem RL.nil : RL [] [] := ⟨fun k m h => by simp [alook] at h, fun k p h => by simp [alook] at h⟩

theorem RL.set {s : List (ByteArray × MsgR)} {last : List (ByteArray × ByteArray)} (h : RL s last) (hs : (s.map (·.1)).Nodup) {most : Int} (hl : (s.length : Int) < most) (m : MsgR) :
    (setS s most m).2 = 0 ∧ RL (setS s most m).1 (aset last m.topic m.payload) ∧ (setS s most m).1.length ≤ s.length + 1 := by
  unfold setS
  by_cases hp : m.payload = ⟨#[]⟩
  · rw [if_pos hp]
    refine ⟨rfl, ⟨fun k x hk => ?_, fun k p hk hne => ?_⟩, ?_⟩
    · rw [alook_adel hs] at hk
      by_cases e : m.topic = k
      · simp [e] at hk
      · rw [if_neg e] at hk
        rw [alook_aset, if_neg e]
        exact h.of k x hk
    · rw [alook_aset] at hk
      by_cases e : m.topic = k
      · rw [if_pos e, hp] at hk
        cases hk
        exact absurd rfl hne
      · rw [if_neg e] at hk
        show (alook (adel s m.topic) k).isSome = true
        rw [alook_adel hs, if_neg e]
        exact h.back k p hk hne
    · exact Nat.le_succ_of_le (adel_length_le _ _)
  · rw [if_neg hp, if_neg (fun h => by omega)]
    refine ⟨rfl, ⟨fun k x hk => ?_, fun k p hk hne => ?_⟩, aset_length_le _ _ _⟩
    · rw [alook_aset] at hk
      by_cases e : m.topic = k
      · rw [if_pos e] at hk
        cases hk
        exact ⟨e, hp, by rw [alook_aset, if_pos e]⟩
      · rw [if_neg e] at hk
        rw [alook_aset, if_neg e]
        exact h.of k x hk
    · show (alook (aset s m.topic m) k).isSome = true
      rw [alook_aset]
      rw [alook_aset] at hk
      by_cases e : m.topic = k
      · rw [if_pos e]; rfl
      · rw [if_neg e] at hk ⊢
        exact h.back k p hk hne

theorem alook_isSome {α : Type} {l : List (ByteArray × α)} {k : ByteArray} : (alook l k).isSome = true ↔ k ∈ l.map (·.1) := by
  constructor
  · intro h
    obtain ⟨v, hv⟩ := Option.isSome_iff_exists.1 h
    exact List.mem_map.2 ⟨_, alook_mem hv, rfl⟩
  · intro h
    obtain ⟨p, hp, rfl⟩ := List.mem_map.1 h
    cases hc : alook l p.1 with
    | none => exact absurd rfl (alook_none.1 hc p hp)
    | some v => rfl

theorem RL.count {s : List (ByteArray × MsgR)} {last : List (ByteArray × ByteArray)} (h : RL s last) (hs : (s.map (·.1)).Nodup) (hl : (last.map (·.1)).Nodup) :
    s.length = (last.filter fun p => decide (p.2 ≠ ⟨#[]⟩)).length := by
  have e : (s.map (·.1)).Perm ((last.filter fun p => decide (p.2 ≠ ⟨#[]⟩)).map (·.1)) := by
    refine (List.perm_ext_iff_of_nodup hs ((List.filter_sublist.map _).nodup hl)).2 fun k => ?_
    rw [← alook_isSome]
    constructor
    · intro hk
      obtain ⟨m, hm⟩ := Option.isSome_iff_exists.1 hk
      obtain ⟨_, h2, h3⟩ := h.of k m hm
      exact List.mem_map.2 ⟨(k, m.payload), List.mem_filter.2 ⟨alook_mem h3, by simpa using h2⟩, rfl⟩
    · intro hk
      obtain ⟨p, hp, rfl⟩ := List.mem_map.1 hk
      obtain ⟨h1, h2⟩ := List.mem_filter.1 hp
      exact h.back p.1 p.2 (alook_of_mem hl h1) (by simpa using h2)
  simpa using e.length_eq

/-- What a store's Match tells was set. -/
theorem matches_mem {s : List (ByteArray × MsgR)} {f : ByteArray} {now : Int} {ks : List ByteArray} {m : MsgR} (h : m ∈ matchesS s f now ks) : ∃ k, alook s k = some m := by
  obtain ⟨k, _, hk⟩ := List.mem_flatMap.1 h
  unfold matchOne at hk
  cases hc : alook s k with
  | none => simp [hc] at hk
  | some x =>
    simp only [hc] at hk
    split at hk
    · simp at hk; exact ⟨k, by rw [hk, hc]⟩
    · cases hk

/-! ### A full store -/
def topicF (i : Nat) : ByteArray := ⟨#[116]⟩ ++ Utf8.encode ((97 : Int) + i)

theorem topicF_inj : ∀ i, i < 30 → ∀ j, j < 30 → topicF i = topicF j → i = j := by decide +kernel
theorem topicF_size : ∀ i, i < 30 → (topicF i).size ≤ 30 := by decide +kernel
theorem topicF_other : ∀ i, i < 30 → topicF i ≠ ⟨#[111, 116, 104, 101, 114]⟩ := by decide +kernel
theorem topicF_match : ∀ i, i < 30 → matchS ⟨#[43]⟩ (topicF i) = true := by decide +kernel

/-- The store holds k topics, in this order, and no message of a limited time. -/
structure Held (k : Nat) (s : List (ByteArray × MsgR)) : Prop where
  keys : s.map (·.1) = (List.range k).map topicF
  bare : ∀ p ∈ s, p.2.props = []

theorem Held.nil : Held 0 [] := ⟨rfl, fun p hp => by cases hp⟩
theorem Held.len {k : Nat} {s : List (ByteArray × MsgR)} (h : Held k s) : s.length = k := by simpa using congrArg List.length h.keys
theorem Held.look {k : Nat} {s : List (ByteArray × MsgR)} (h : Held k s) (hk : k ≤ 30) {i : Nat} (hi : i < 30) : (alook s (topicF i)).isSome = decide (i < k) := by
  rw [Bool.eq_iff_iff, alook_isSome, h.keys, decide_eq_true_eq]
  constructor
  · intro hm
    obtain ⟨j, hj, e⟩ := List.mem_map.1 hm
    have hj := List.mem_range.1 hj
    have := topicF_inj j (by omega) i hi e
    omega
  · intro hi
    exact List.mem_map.2 ⟨i, List.mem_range.2 hi, rfl⟩

theorem Held.grow {k : Nat} {s : List (ByteArray × MsgR)} (h : Held k s) {n : Nat} (hk : k < n) (hn : n ≤ 30) (m : MsgR) (ht : m.topic = topicF k) (hp : m.payload ≠ ⟨#[]⟩) (hb : m.props = []) :
    (setS s n m).2 = 0 ∧ Held (k + 1) (setS s n m).1 := by
  have hl : alook s m.topic = none := by
    have := h.look (by omega) (i := k) (by omega)
    rw [ht]
    cases hc : alook s (topicF k) with
    | none => rfl
    | some v => rw [hc] at this; simp at this
  unfold setS
  rw [if_neg hp, if_neg (fun e => by have := h.len; omega)]
  refine ⟨rfl, ?_, fun p hm => ?_⟩
  · show (aset s m.topic m).map (·.1) = _
    rw [aset_new hl, List.map_append, h.keys, List.range_succ, List.map_append, ht]
    rfl
  · rcases mem_aset hm with rfl | ⟨h1, _⟩
    · exact hb
    · exact h.bare p h1

theorem Held.full {n : Nat} {s : List (ByteArray × MsgR)} (h : Held n s) (hn : n ≤ 30) (m : MsgR) (ht : m.topic = ⟨#[111, 116, 104, 101, 114]⟩) (hp : m.payload ≠ ⟨#[]⟩) : setS s n m = (s, 6) := by
  have hl : alook s m.topic = none := by
    cases hc : alook s m.topic with
    | none => rfl
    | some v =>
      have h1 : m.topic ∈ s.map (·.1) := alook_isSome.1 (by rw [hc]; rfl)
      rw [h.keys] at h1
      obtain ⟨j, hj, e⟩ := List.mem_map.1 h1
      exact absurd (e.trans ht) (topicF_other j (by have := List.mem_range.1 hj; omega))
  unfold setS
  rw [if_neg hp, if_pos ⟨hl, by have := h.len; omega⟩]

theorem Held.again {n : Nat} {s : List (ByteArray × MsgR)} (h : Held n s) (hn : n ≤ 30) {i : Nat} (hi : i < n) (m : MsgR) (ht : m.topic = topicF i) (hp : m.payload ≠ ⟨#[]⟩) (hb : m.props = []) :
    (setS s n m).2 = 0 ∧ Held n (setS s n m).1 := by
  have hl : alook s m.topic ≠ none := by
    have := h.look hn (i := i) (by omega)
    rw [ht]
    intro e
    rw [e] at this
    simp at this
    omega
  unfold setS
  rw [if_neg hp, if_neg (fun e => hl e.1)]
  refine ⟨rfl, ?_, fun p hm => ?_⟩
  · show (aset s m.topic m).map (·.1) = _
    rw [aset_keys_old hl, h.keys]
  · rcases mem_aset hm with rfl | ⟨h1, _⟩
    · exact hb
    · exact h.bare p h1

theorem Held.met {n : Nat} {s : List (ByteArray × MsgR)} (h : Held n s) (hn : n ≤ 30) {ks : List ByteArray} (hk : ks.Perm (s.map (·.1))) : (matchesS s ⟨#[43]⟩ 0 ks).length = n := by
  have e : ∀ k ∈ ks, (matchOne s ⟨#[43]⟩ 0 k).length = 1 := fun k hm => by
    have h1 : k ∈ s.map (·.1) := hk.subset hm
    obtain ⟨m, hm⟩ := Option.isSome_iff_exists.1 (alook_isSome.2 h1)
    rw [h.keys] at h1
    obtain ⟨j, hj, rfl⟩ := List.mem_map.1 h1
    have hmt := topicF_match j (by have := List.mem_range.1 hj; omega)
    have hb : m.props = [] := h.bare _ (alook_mem hm)
    unfold matchOne
    rw [hm]
    simp [hmt, goneS, leftS, getP, hb]
  have : ∀ l : List ByteArray, (∀ k ∈ l, (matchOne s ⟨#[43]⟩ 0 k).length = 1) → (matchesS s ⟨#[43]⟩ 0 l).length = l.length := fun l => by
    induction l with
    | nil => intro _; rfl
    | cons a l ih =>
      intro hl
      have e1 : matchesS s ⟨#[43]⟩ 0 (a :: l) = matchOne s ⟨#[43]⟩ 0 a ++ matchesS s ⟨#[43]⟩ 0 l := rfl
      rw [e1, List.length_append, hl a (by simp), ih (fun k hk => hl k (by simp [hk])), List.length_cons]
      omega
  rw [this ks e, hk.length_eq]
  simpa using h.len

end Go.Proofs.YticfeikmdfijiaaDoor
