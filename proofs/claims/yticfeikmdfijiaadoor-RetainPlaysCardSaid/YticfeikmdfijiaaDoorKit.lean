/- Words of this seat's own for worlds and maps: what a call may change ('Ch'), and a map's block as a list of pairs ('IsMap'). -/
import Derived.WalkKit
import Derived.MapKept
import Derived.WalkSpells
import Derived.WalkLawsBesides
import Derived.Maps.AppendAt
namespace Go.Proofs.YticfeikmdfijiaaDoor
open Go Go.RowKit Go.MapKept

/-! ### 1. What has changed between two worlds -/

/-- w' is w but for new blocks and for the blocks of S. -/
structure Ch (S : List Nat) (w w' : World) : Prop where
  os : w'.os = w.os
  tape : w'.tape = w.tape
  output : w'.output = w.output
  size : w.heap.size ≤ w'.heap.size
  block : ∀ k, k < w.heap.size → k ∉ S → w'.heap[k]? = w.heap[k]?

theorem Ch.refl (S : List Nat) (w : World) : Ch S w w := ⟨rfl, rfl, rfl, Nat.le_refl _, fun _ _ _ => rfl⟩

/-- Two steps; what the second writes may be new since the first world. -/
theorem Ch.trans {S S2 : List Nat} {a b c : World} (h : Ch S a b) (k : Ch S2 b c) (hs : ∀ x ∈ S2, x ∈ S ∨ a.heap.size ≤ x) : Ch S a c :=
  ⟨k.os.trans h.os, k.tape.trans h.tape, k.output.trans h.output, Nat.le_trans h.size k.size, fun i hi hn =>
    (k.block i (Nat.lt_of_lt_of_le hi h.size) (fun hm => by rcases hs i hm with h1 | h1; exact hn h1; omega)).trans (h.block i hi hn)⟩

theorem Ch.then {S : List Nat} {a b c : World} (h : Ch S a b) (k : Ch S b c) : Ch S a c := h.trans k (fun _ hx => .inl hx)
theorem Ch.thenNil {S : List Nat} {a b c : World} (h : Ch S a b) (k : Ch [] b c) : Ch S a c := h.trans k (fun _ hx => by cases hx)

theorem Ch.mono {S S' : List Nat} {a b : World} (h : Ch S a b) (hs : ∀ x ∈ S, x ∈ S') : Ch S' a b :=
  ⟨h.os, h.tape, h.output, h.size, fun i hi hn => h.block i hi (fun hm => hn (hs i hm))⟩
theorem Ch.ofNil {S : List Nat} {a b : World} (h : Ch [] a b) : Ch S a b := h.mono (fun _ hx => by cases hx)

theorem Ch.alloc {S : List Nat} {a w : World} (h : Ch S a w) (o : Obj) : Ch S a (w.alloc o) :=
  h.thenNil ⟨rfl, rfl, rfl, by simp, fun k hk _ => Below.heap_alloc _ _ _ hk⟩
theorem Ch.drew {S : List Nat} {a w : World} (h : Ch S a w) : Ch S a w.drew := ⟨h.os, h.tape, h.output, h.size, h.block⟩
theorem Ch.fromDrew {S : List Nat} {a w : World} (h : Ch S a.drew w) : Ch S a w := ⟨h.os, h.tape, h.output, h.size, h.block⟩
theorem Ch.drewN {S : List Nat} {a w : World} (h : Ch S a w) (n : Nat) : Ch S a (w.drewN n) := ⟨h.os, h.tape, h.output, h.size, h.block⟩
theorem Ch.setCell {S : List Nat} {a w : World} (h : Ch S a w) (p : Addr) (v : Value) (hp : p.block ∈ S ∨ a.heap.size ≤ p.block) : Ch S a (w.setCell p v) :=
  h.trans (S2 := [p.block]) ⟨rfl, rfl, rfl, by simp, fun k _ hn => Below.heap_setCell _ _ _ _ (fun e => hn (by simp [e]))⟩ (fun x hx => by
    simp only [List.mem_singleton] at hx; subst hx; exact hp)
theorem Ch.grown {S : List Nat} {a w w' : World} {row : Option Nat} (h : Ch S a w) (hg : w.grownBy w' row) (hr : ∀ k, row = some k → k ∈ S ∨ a.heap.size ≤ k) : Ch S a w' :=
  h.trans (S2 := row.toList) ⟨hg.os, hg.tape, hg.output, hg.size, fun k hk hn => hg.block k hk (fun e => hn (by simp [← e]))⟩ (fun x hx => hr x (by simpa using hx))

theorem Ch.below {w w' : World} (h : Ch [] w w') : Below w.heap.size w w' := ⟨h.os, h.tape, h.output, h.size, fun k hk => h.block k hk (by simp)⟩
theorem Ch.ofBelow {w w' : World} (h : Below w.heap.size w w') : Ch [] w w' := ⟨h.os, h.tape, h.output, h.size, fun k hk _ => h.block k hk⟩
theorem Ch.belowOf {S : List Nat} {B : Nat} {w w' : World} (h : Ch S w w') (hB : B ≤ w.heap.size) (hs : ∀ x ∈ S, B ≤ x) : Below B w w' :=
  ⟨h.os, h.tape, h.output, h.size, fun k hk => h.block k (by omega) (fun hm => by have := hs k hm; omega)⟩

theorem Ch.keep {S : List Nat} {w w' : World} (h : Ch S w w') {b : Nat} {o : Obj} (hb : w.heap[b]? = some o) (hn : b ∉ S) : w'.heap[b]? = some o :=
  (h.block b (Array.getElem?_eq_some_iff.1 hb).1 hn).trans hb
theorem Ch.cell {S : List Nat} {w w' : World} (h : Ch S w w') {p : Addr} {v : Value} (hc : w.cell? p = some v) (hn : p.block ∉ S) : w'.cell? p = some v :=
  (World.cell?_of_block (h.block p.block (World.block_lt_of_cell? w p hc) hn)).trans hc
theorem Ch.frozen {S : List Nat} {w w' : World} (h : Ch S w w') {p : Addr} (hlt : p.block < w.heap.size) (hn : p.block ∉ S) : w'.frozen? p = w.frozen? p :=
  World.frozen?_of_block (h.block p.block hlt hn)

theorem lt_of_heap {w : World} {b : Nat} {o : Obj} (hb : w.heap[b]? = some o) : b < w.heap.size := (Array.getElem?_eq_some_iff.1 hb).1
theorem cell_of_heap {w : World} {b : Nat} {cs : Array Value} {t : TypeId} {f : Nat × Nat} (hb : w.heap[b]? = some (.cells cs t f)) (i : Nat) : w.cell? ⟨b, i, none⟩ = cs[i]? := by
  simp [World.cell?, hb]
theorem free_of_heap {w : World} {b : Nat} {cs : Array Value} {t : TypeId} (hb : w.heap[b]? = some (.cells cs t (0, 0))) (i : Nat) : w.frozen? ⟨b, i, none⟩ = false := by
  simp [World.frozen?, hb]
theorem heap_new (w : World) (o : Obj) : (w.alloc o).heap[w.heap.size]? = some o := heap_alloc_new w o
theorem heap_old {w : World} {b : Nat} {x : Obj} (h : w.heap[b]? = some x) (o : Obj) : (w.alloc o).heap[b]? = some x :=
  (Below.heap_alloc w o b (lt_of_heap h)).trans h
theorem heap_setCell_at {w : World} {b i : Nat} {cs : Array Value} {t : TypeId} {f : Nat × Nat} (h : w.heap[b]? = some (.cells cs t f)) (v : Value) :
    (w.setCell ⟨b, i, none⟩ v).heap[b]? = some (.cells (cs.setIfInBounds i v) t f) := by
  simp [World.setCell, Array.getElem?_modify, h]
theorem heap_setCell_ne {w : World} {b : Nat} {x : Obj} (h : w.heap[b]? = some x) {p : Addr} (hp : b ≠ p.block) (v : Value) : (w.setCell p v).heap[b]? = some x :=
  (Below.heap_setCell w p v b hp).trans h

theorem map_nodup_inj {α β : Type} {f : α → β} {l : List α} (h : (l.map f).Nodup) {a b : α} (ha : a ∈ l) (hb : b ∈ l) (e : f a = f b) : a = b := by
  induction l with
  | nil => cases ha
  | cons x l ih =>
    simp only [List.map_cons, List.nodup_cons] at h
    rcases List.mem_cons.1 ha with h1 | h1 <;> rcases List.mem_cons.1 hb with h2 | h2
    · exact h1.trans h2.symm
    · subst h1; exact absurd (List.mem_map.2 ⟨b, h2, e.symm⟩) h.1
    · subst h2; exact absurd (List.mem_map.2 ⟨a, h1, e⟩) h.1
    · exact ih h.2 h1 h2

theorem bytes_ne {a b : ByteArray} (h : a ≠ b) : (a.toList == b.toList) = false := by
  cases he : (a.toList == b.toList) with
  | false => rfl
  | true =>
    rw [beq_iff_eq, ByteArray.toList_eq, ByteArray.toList_eq] at he
    exact absurd (ByteArray.ext (Array.toList_inj.mp he)) h

theorem bytes_lit {a : ByteArray} {l : List UInt8} (h : a ≠ ⟨l.toArray⟩) : (a.toList == l) = false := by
  have h1 := bytes_ne h
  rw [ByteArray.toList_eq ⟨l.toArray⟩] at h1
  exact h1

/-! ### 2. Lists of pairs -/
section
variable {κ α : Type} [DecidableEq κ]

def alook : List (κ × α) → κ → Option α
  | [], _ => none
  | p :: l, x => if p.1 = x then some p.2 else alook l x
def aset : List (κ × α) → κ → α → List (κ × α)
  | [], x, v => [(x, v)]
  | p :: l, x, v => if p.1 = x then (x, v) :: l else p :: aset l x v
def adel : List (κ × α) → κ → List (κ × α)
  | [], _ => []
  | p :: l, x => if p.1 = x then l else p :: adel l x

theorem alook_none {l : List (κ × α)} {x : κ} : alook l x = none ↔ ∀ p ∈ l, p.1 ≠ x := by
  induction l with
  | nil => simp [alook]
  | cons p l ih =>
    unfold alook
    split <;> simp_all
theorem alook_mem {l : List (κ × α)} {x : κ} {v : α} (h : alook l x = some v) : (x, v) ∈ l := by
  induction l with
  | nil => simp [alook] at h
  | cons p l ih =>
    unfold alook at h
    split at h
    · rename_i e
      subst e
      cases h
      simp
    · exact List.mem_cons_of_mem _ (ih h)
theorem alook_of_mem {l : List (κ × α)} (hn : (l.map (·.1)).Nodup) {x : κ} {v : α} (h : (x, v) ∈ l) : alook l x = some v := by
  induction l with
  | nil => cases h
  | cons p l ih =>
    simp only [List.map_cons, List.nodup_cons] at hn
    unfold alook
    rcases List.mem_cons.1 h with rfl | h
    · simp
    · have hne : p.1 ≠ x := fun e => hn.1 (e ▸ List.mem_map.2 ⟨(x, v), h, rfl⟩)
      simp [hne, ih hn.2 h]
theorem alook_aset (l : List (κ × α)) (x y : κ) (v : α) : alook (aset l x v) y = if x = y then some v else alook l y := by
  induction l with
  | nil => simp [aset, alook]
  | cons p l ih =>
    unfold aset
    by_cases h : p.1 = x
    · by_cases h2 : x = y <;> simp_all [alook]
    · by_cases h2 : x = y
      · subst h2
        simp [h, alook, ih]
      · by_cases h3 : p.1 = y <;> simp_all [alook]
theorem aset_keys_old {l : List (κ × α)} {x : κ} {v : α} (h : alook l x ≠ none) : (aset l x v).map (·.1) = l.map (·.1) := by
  induction l with
  | nil => simp [alook] at h
  | cons p l ih =>
    unfold aset
    by_cases hp : p.1 = x
    · simp [hp]
    · simp only [alook, hp, if_false] at h
      simp [hp, ih h]
theorem aset_new {l : List (κ × α)} {x : κ} {v : α} (h : alook l x = none) : aset l x v = l ++ [(x, v)] := by
  induction l with
  | nil => rfl
  | cons p l ih =>
    unfold aset
    by_cases hp : p.1 = x
    · simp [alook, hp] at h
    · simp only [alook, hp, if_false] at h
      simp [hp, ih h]
theorem adel_none {l : List (κ × α)} {x : κ} (h : alook l x = none) : adel l x = l := by
  induction l with
  | nil => rfl
  | cons p l ih =>
    unfold adel
    by_cases hp : p.1 = x
    · simp [alook, hp] at h
    · simp only [alook, hp, if_false] at h
      simp [hp, ih h]
theorem adel_sub (l : List (κ × α)) (x : κ) : (adel l x).Sublist l := by
  induction l with
  | nil => exact List.Sublist.refl _
  | cons p l ih =>
    unfold adel
    split
    · exact List.sublist_cons_self _ _
    · exact ih.cons_cons _
theorem adel_nodup {l : List (κ × α)} (h : (l.map (·.1)).Nodup) (x : κ) : ((adel l x).map (·.1)).Nodup := ((adel_sub l x).map _).nodup h
theorem aset_nodup {l : List (κ × α)} (h : (l.map (·.1)).Nodup) (x : κ) (v : α) : ((aset l x v).map (·.1)).Nodup := by
  by_cases hx : alook l x = none
  · rw [aset_new hx]
    simp only [List.map_append, List.map_cons, List.map_nil]
    refine List.nodup_append.2 ⟨h, by simp, ?_⟩
    intro a ha b hb e
    simp only [List.mem_singleton] at hb
    obtain ⟨p, hp, rfl⟩ := List.mem_map.1 ha
    exact alook_none.1 hx p hp (e.trans hb)
  · rw [aset_keys_old hx]; exact h
theorem alook_adel {l : List (κ × α)} (hn : (l.map (·.1)).Nodup) (x y : κ) : alook (adel l x) y = if x = y then none else alook l y := by
  induction l with
  | nil => simp [adel, alook]
  | cons p l ih =>
    simp only [List.map_cons, List.nodup_cons] at hn
    unfold adel
    by_cases hp : p.1 = x
    · by_cases h2 : x = y
      · subst h2
        simp only [hp, if_true]
        refine alook_none.2 fun q hq e => hn.1 ?_
        rw [hp, ← e]
        exact List.mem_map.2 ⟨q, hq, rfl⟩
      · have : p.1 ≠ y := fun e => h2 (hp.symm.trans e)
        simp_all [alook]
    · by_cases h2 : x = y
      · subst h2
        simp [hp, alook, ih hn.2]
      · by_cases h3 : p.1 = y <;> simp_all [alook]
theorem aset_length_le (l : List (κ × α)) (x : κ) (v : α) : (aset l x v).length ≤ l.length + 1 := by
  induction l with
  | nil => simp [aset]
  | cons p l ih =>
    unfold aset
    split
    · simp
    · simp only [List.length_cons]; omega
theorem adel_length_le (l : List (κ × α)) (x : κ) : (adel l x).length ≤ l.length := (adel_sub l x).length_le
theorem aset_length_ge (l : List (κ × α)) (x : κ) (v : α) : l.length ≤ (aset l x v).length := by
  induction l with
  | nil => simp
  | cons p l ih =>
    unfold aset
    split
    · simp
    · simp only [List.length_cons]; omega
end

section
variable {κ α β : Type} [DecidableEq κ]
theorem alook_map (f : α → β) (l : List (κ × α)) (x : κ) : alook (l.map fun p => (p.1, f p.2)) x = (alook l x).map f := by
  induction l with
  | nil => rfl
  | cons p l ih => by_cases h : p.1 = x <;> simp [alook, h, ih]
theorem aset_map (f : α → β) (l : List (κ × α)) (x : κ) (v : α) : (aset l x v).map (fun p => (p.1, f p.2)) = aset (l.map fun p => (p.1, f p.2)) x (f v) := by
  induction l with
  | nil => rfl
  | cons p l ih => by_cases h : p.1 = x <;> simp [aset, h, ih]
theorem adel_map (f : α → β) (l : List (κ × α)) (x : κ) : (adel l x).map (fun p => (p.1, f p.2)) = adel (l.map fun p => (p.1, f p.2)) x := by
  induction l with
  | nil => rfl
  | cons p l ih => by_cases h : p.1 = x <;> simp [adel, h, ih]
theorem aset_same {l : List (κ × α)} {x : κ} {v : α} (h : alook l x = some v) : aset l x v = l := by
  induction l with
  | nil => simp [alook] at h
  | cons p l ih =>
    obtain ⟨q, u⟩ := p
    by_cases hq : q = x
    · simp [alook, hq] at h
      simp [aset, hq, h]
    · simp only [alook, hq, if_false] at h
      simp [aset, hq, ih h]
theorem adel_aset (l : List (κ × α)) (x : κ) (v : α) : adel (aset l x v) x = adel l x := by
  induction l with
  | nil => simp [aset, adel]
  | cons p l ih => by_cases h : p.1 = x <;> simp [aset, adel, h, ih]
theorem mem_aset {l : List (κ × α)} {x : κ} {v : α} {p : κ × α} (h : p ∈ aset l x v) : p = (x, v) ∨ (p ∈ l ∧ (p.1 ≠ x ∨ ¬ (l.map (·.1)).Nodup)) := by
  induction l with
  | nil => simp [aset] at h; exact .inl h
  | cons q l ih =>
    unfold aset at h
    by_cases hq : q.1 = x
    · simp only [hq, if_true, List.mem_cons] at h
      rcases h with h | h
      · exact .inl h
      · refine .inr ⟨List.mem_cons_of_mem _ h, ?_⟩
        by_cases hp : p.1 = x
        · refine .inr fun hn => ?_
          simp only [List.map_cons, List.nodup_cons] at hn
          exact hn.1 (hq.trans hp.symm ▸ List.mem_map.2 ⟨p, h, rfl⟩)
        · exact .inl hp
    · simp only [hq, if_false, List.mem_cons] at h
      rcases h with h | h
      · subst h; exact .inr ⟨by simp, .inl hq⟩
      · rcases ih h with h1 | ⟨h1, h2⟩
        · exact .inl h1
        · refine .inr ⟨List.mem_cons_of_mem _ h1, h2.imp id (fun hn => fun hc => hn (by simp only [List.map_cons, List.nodup_cons] at hc; exact hc.2))⟩
end

/-! ### 3. A map's block -/
section
variable {κ : Type} {enc : κ → Value} {P : Program} {w : World} {b : Nat} {m : List (κ × Value)} {t k e : TypeId}

/-- Block b of w is a map that holds these pairs, in the order in which they came. -/
def IsMap (enc : κ → Value) (w : World) (b : Nat) (m : List (κ × Value)) : Prop :=
  ∃ es clock, w.heap[b]? = some (.map es clock) ∧ Stamped es clock ∧ es.toList.map (fun x => (x.key, x.val)) = m.map (fun p => (enc p.1, p.2))

/-- A key's type. -/
structure KeyTy (P : Program) (k : TypeId) (enc : κ → Value) : Prop where
  desc : ∃ d, P.underlying k = some d ∧ ∀ x, IsKey d (enc x)
  inj : ∀ a b, enc a = enc b → a = b
  bits : ∀ x, Instr.sameBits 10000 (enc x) (enc x) = true

theorem keyTy_string (h : P.underlying k = some .string) : KeyTy P k Value.string :=
  ⟨⟨_, h, fun _ => trivial⟩, fun _ _ h => by cases h; rfl, fun x => by simp [Instr.sameBits, bytes_beq]⟩
theorem keyTy_int {q : IntKind} (h : P.underlying k = some (.int q)) : KeyTy P k (Value.int q) :=
  ⟨⟨_, h, fun _ => rfl⟩, fun _ _ h => by cases h; rfl, fun x => by simp [Instr.sameBits]⟩

theorem IsMap.lt (h : IsMap enc w b m) : b < w.heap.size := by
  obtain ⟨es, c, hb, _⟩ := h
  exact lt_of_heap hb
theorem IsMap.keep {S : List Nat} {w' : World} (h : IsMap enc w b m) (hc : Ch S w w') (hn : b ∉ S) : IsMap enc w' b m := by
  obtain ⟨es, c, hb, r⟩ := h
  exact ⟨es, c, hc.keep hb hn, r⟩
theorem IsMap.ne_cells (h : IsMap enc w b m) {b' : Nat} {cs : Array Value} {ty : TypeId} {f : Nat × Nat} (hc : w.heap[b']? = some (.cells cs ty f)) : b ≠ b' := by
  obtain ⟨es, c, hb, _⟩ := h
  rintro rfl
  rw [hb] at hc
  cases hc
theorem isMap_new (w : World) : IsMap enc (w.alloc (.map #[] 0)) w.heap.size [] := ⟨#[], 0, heap_new w _, stamped_empty 0, rfl⟩

theorem keys_of {es : List MapEntry} (h : es.map (fun x => (x.key, x.val)) = m.map (fun p => (enc p.1, p.2))) : es.map (·.key) = (m.map (·.1)).map enc := by
  have := congrArg (List.map Prod.fst) h
  simpa [List.map_map, Function.comp_def] using this
theorem IsMap.nodup (h : IsMap enc w b m) : (m.map (·.1)).Nodup := by
  obtain ⟨es, c, hb, hs, he⟩ := h
  have h3 := hs.2.2
  rw [keys_of he] at h3
  exact (List.pairwise_map.1 h3).imp (fun hne e => hne (congrArg enc e))
theorem IsMap.size_eq (h : IsMap enc w b m) : ∃ es clock, w.heap[b]? = some (.map es clock) ∧ es.size = m.length := by
  obtain ⟨es, c, hb, hs, he⟩ := h
  exact ⟨es, c, hb, by have := congrArg List.length he; simpa using this⟩

variable [DecidableEq κ]
/-- The place of a key. -/
theorem find_pairs (K : KeyTy P k enc) {d : TypeDesc} (hd : P.underlying k = some d) (x : κ) : ∀ (es : List MapEntry) (m : List (κ × Value)) (i : Nat),
    es.map (fun x => (x.key, x.val)) = m.map (fun p => (enc p.1, p.2)) →
    (Instr.findNow d (enc x) es i = some none ∧ alook m x = none) ∨ ∃ j v, Instr.findNow d (enc x) es i = some (some (i + j, v)) ∧ alook m x = some v ∧
      (∀ f : MapEntry → MapEntry, (∀ y, es[j]? = some y → (f y).key = enc x) → ∀ v', (∀ y, es[j]? = some y → (f y).val = v') → (es.modify j f).map (fun x => (x.key, x.val)) = (aset m x v').map (fun p => (enc p.1, p.2))) ∧
      (es.eraseIdx j).map (fun x => (x.key, x.val)) = (adel m x).map (fun p => (enc p.1, p.2)) ∧ j < es.length ∧ ∃ y, es[j]? = some y ∧ y.key = enc x := by
  obtain ⟨d', hd', hk⟩ := K.desc
  obtain rfl : d' = d := by rw [hd] at hd'; exact (Option.some.inj hd').symm
  intro es
  induction es with
  | nil =>
    intro m i h
    have : m = [] := by
      cases m with
      | nil => rfl
      | cons p m => simp at h
    subst this
    exact .inl ⟨rfl, rfl⟩
  | cons e es ih =>
    intro m i h
    cases m with
    | nil => simp at h
    | cons p m =>
      simp only [List.map_cons, List.cons.injEq, Prod.mk.injEq] at h
      obtain ⟨⟨hek, hev⟩, hrest⟩ := h
      obtain ⟨r, hr, hiff⟩ := sameNow_of_keys (hk x) (hk p.1)
      rw [← hek] at hr
      by_cases hx : p.1 = x
      · have hr1 : r = true := hiff.2 (by rw [hx])
        subst hr1
        refine .inr ⟨0, e.val, by simp [Instr.findNow, hr], by simp [alook, hx, hev], ?_, ?_, by simp, e, rfl, by rw [hek, hx]⟩
        · intro f hf v' hv'
          simp [aset, hx, hf e rfl, hv' e rfl, hrest]
        · simp [adel, hx, hrest]
      · have hr0 : r = false := by
          cases hb : r with
          | false => rfl
          | true => exact absurd (K.inj _ _ (hiff.1 hb)).symm hx
        subst hr0
        rcases ih m (i + 1) hrest with ⟨h1, h2⟩ | ⟨j, v, h1, h2, h3, h4, h5, y, h6, h7⟩
        · exact .inl ⟨by simp [Instr.findNow, hr, h1], by simp [alook, hx, h2]⟩
        · refine .inr ⟨j + 1, v, by simp [Instr.findNow, hr, h1]; omega, by simp [alook, hx, h2], ?_, ?_, by simpa using h5, y, by simpa using h6, h7⟩
          · intro f hf v' hv'
            have := h3 f (fun y hy => hf y (by simpa using hy)) v' (fun y hy => hv' y (by simpa using hy))
            simp [aset, hx, this, hek, hev]
          · simp [adel, hx, h4, hek, hev]

omit [DecidableEq κ] in
theorem IsMap.run_check (K : KeyTy P k enc) (x : κ) (em : Bool) (w : World) : (Instr.checkKey em 10000 k (enc x)).run P w = .ok () w := by
  obtain ⟨d, hd, hk⟩ := K.desc
  exact run_checkKey hd (hk x) em 9999

/-- m[x] -/
theorem IsMap.run_look (h : IsMap enc w b m) (K : KeyTy P k enc) (ht : P.underlying t = some (.map k e)) {z : Value} (hz : (zeroValue e).run P w = .ok z w) (x : κ) :
    (Instr.lookup t (.map (some b)) (enc x) false).run P w = .ok ((alook m x).getD z) w := by
  obtain ⟨es, c, hb, hs, he⟩ := h
  obtain ⟨d, hd, hk⟩ := K.desc
  have hc := IsMap.run_check K x es.isEmpty w
  rcases find_pairs K hd x es.toList m 0 he with ⟨h1, h2⟩ | ⟨j, v, h1, h2, _⟩
  · simp [Instr.lookup, run_underlying ht, MapKept.run_getObj_map hb, hc, run_findKey hd h1, hz, h2, Result.andThen]
  · simp [Instr.lookup, run_underlying ht, MapKept.run_getObj_map hb, hc, run_findKey hd h1, h2, Result.andThen]

/-- v, ok := m[x] -/
theorem IsMap.run_look_ok (h : IsMap enc w b m) (K : KeyTy P k enc) (ht : P.underlying t = some (.map k e)) {z : Value} (hz : (zeroValue e).run P w = .ok z w) (x : κ) :
    (Instr.lookup t (.map (some b)) (enc x) true).run P w = .ok (.tuple #[(alook m x).getD z, .bool (alook m x).isSome]) w := by
  obtain ⟨es, c, hb, hs, he⟩ := h
  obtain ⟨d, hd, hk⟩ := K.desc
  have hc := IsMap.run_check K x es.isEmpty w
  rcases find_pairs K hd x es.toList m 0 he with ⟨h1, h2⟩ | ⟨j, v, h1, h2, _⟩
  · simp [Instr.lookup, run_underlying ht, MapKept.run_getObj_map hb, hc, run_findKey hd h1, hz, h2, Result.andThen]
  · simp [Instr.lookup, run_underlying ht, MapKept.run_getObj_map hb, hc, run_findKey hd h1, h2, Result.andThen]

theorem ch_setHeap (w : World) (b : Nat) (o : Obj) : Ch [b] w { w with heap := w.heap.setIfInBounds b o } :=
  ⟨rfl, rfl, rfl, by simp, fun i _ hi => by
    have : b ≠ i := fun e => hi (by simp [e])
    simp [this]⟩

/-- m[x] = v -/
theorem IsMap.run_put (h : IsMap enc w b m) (K : KeyTy P k enc) (ht : P.underlying t = some (.map k e)) (x : κ) (v : Value) :
    ∃ w', (Instr.mapUpdate t (.map (some b)) (enc x) v).run P w = .ok () w' ∧ IsMap enc w' b (aset m x v) ∧ Ch [b] w w' ∧ w'.heap.size = w.heap.size := by
  obtain ⟨es, c, hb, hs, he⟩ := h
  obtain ⟨d, hd, hk⟩ := K.desc
  have hc := IsMap.run_check K x false w
  rcases find_pairs K hd x es.toList m 0 he with ⟨h1, h2⟩ | ⟨j, v0, h1, h2, h3, _, h5, y, h6, h7⟩
  · refine ⟨{ w with heap := w.heap.setIfInBounds b (.map (es.push ⟨enc x, v, c⟩) (c + 1)) }, ?_, ?_, ch_setHeap _ _ _, by simp⟩
    · simp [Instr.mapUpdate, run_underlying ht, MapKept.run_getObj_map hb, hc, run_findKey hd h1, MapKept.run_setObj_map _ hb, Result.andThen]
    · refine ⟨_, _, (heap_set hb).1, stamped_push hs ?_, ?_⟩
      · intro q hq e1
        have : q.key ∈ es.toList.map (·.key) := List.mem_map.2 ⟨q, hq, rfl⟩
        rw [keys_of he, e1, List.map_map] at this
        obtain ⟨p, hp, e2⟩ := List.mem_map.1 this
        exact alook_none.1 h2 p hp (K.inj _ _ e2)
      · simp [aset_new h2, he]
  · have hy : es[j]? = some y := by simpa using h6
    have hkey : ((es[j]?.map (·.key)).getD (enc x)) = enc x := by simp [hy, h7]
    refine ⟨{ w with heap := w.heap.setIfInBounds b (.map (es.modify j fun q => { q with key := enc x, val := v }) c) }, ?_, ?_, ch_setHeap _ _ _, by simp⟩
    · simp [Instr.mapUpdate, run_underlying ht, MapKept.run_getObj_map hb, hc, run_findKey hd h1, MapKept.run_setObj_map _ hb, Result.andThen, hy, h7, Instr.keyThatStays, K.bits]
    · refine ⟨_, _, (heap_set hb).1, stamped_modify hs j _ (fun _ _ => rfl) (fun q _ hq => ?_), ?_⟩
      · rw [hy] at hq; cases hq; exact h7.symm
      · rw [Array.toList_modify]
        exact h3 _ (fun _ _ => rfl) v (fun _ _ => rfl)

/-- delete(m, x) -/
theorem IsMap.run_del (h : IsMap enc w b m) (K : KeyTy P k enc) (ht : P.underlying t = some (.map k e)) (x : κ) (ty : TypeId) :
    ∃ w', (Builtin.delete_ #[t, k] ty #[.map (some b), enc x]).run P w = .ok (.tuple #[]) w' ∧ IsMap enc w' b (adel m x) ∧ Ch [b] w w' ∧ w'.heap.size = w.heap.size := by
  obtain ⟨es, c, hb, hs, he⟩ := h
  obtain ⟨d, hd, hk⟩ := K.desc
  have hc := IsMap.run_check K x es.isEmpty w
  rcases find_pairs K hd x es.toList m 0 he with ⟨h1, h2⟩ | ⟨j, v0, h1, h2, _, h4, h5, _⟩
  · refine ⟨{ w with heap := w.heap.setIfInBounds b (.map es c) }, ?_, ⟨_, _, (heap_set hb).1, hs, by rw [adel_none h2]; exact he⟩, ch_setHeap _ _ _, by simp⟩
    simp [Builtin.delete_, run_underlying ht, MapKept.run_getObj_map hb, hc, run_findKey hd h1, MapKept.run_setObj_map _ hb, Result.andThen]
  · refine ⟨{ w with heap := w.heap.setIfInBounds b (.map (es.eraseIdxIfInBounds j) c) }, ?_, ⟨_, _, (heap_set hb).1, stamped_erase hs j, ?_⟩, ch_setHeap _ _ _, by simp⟩
    · simp [Builtin.delete_, run_underlying ht, MapKept.run_getObj_map hb, hc, run_findKey hd h1, MapKept.run_setObj_map _ hb, Result.andThen]
    · have : (es.eraseIdxIfInBounds j).toList = es.toList.eraseIdx j := by
        unfold Array.eraseIdxIfInBounds
        have hj : j < es.size := by simpa using h5
        simp [hj]
      rw [this]
      exact h4

omit [DecidableEq κ] in
/-- len(m) -/
theorem IsMap.run_len (h : IsMap enc w b m) (ht : P.underlying t = some (.map k e)) (ty : TypeId) : (Builtin.len_ #[t] ty #[.map (some b)]).run P w = .ok (.int .i64 m.length) w := by
  obtain ⟨es, c, hb, hs⟩ := h.size_eq
  simp [Builtin.len_, run_underlying ht, MapKept.run_getObj_map hb, goInt, Result.andThen, hs]

omit [DecidableEq κ] in
/-- clear(m) -/
theorem IsMap.run_clear (h : IsMap enc w b m) (ht : P.underlying t = some (.map k e)) (ty : TypeId) :
    ∃ w', (Builtin.clear_ #[t] ty #[.map (some b)]).run P w = .ok (.tuple #[]) w' ∧ IsMap enc w' b [] ∧ Ch [b] w w' ∧ w'.heap.size = w.heap.size := by
  obtain ⟨es, c, hb, hs, he⟩ := h
  refine ⟨{ w with heap := w.heap.setIfInBounds b (.map #[] c) }, ?_, ⟨_, _, (heap_set hb).1, stamped_empty c, rfl⟩, ch_setHeap _ _ _, by simp⟩
  simp [Builtin.clear_, run_underlying ht, MapKept.run_getObj_map hb, MapKept.run_setObj_map _ hb, Result.andThen]
end

/-! ### 4. Slices that are read, rows that are appended to -/

theorem le_maxLen {n : Nat} (h : n ≤ 1000000000000) : n ≤ maxLen := by
  have : maxLen = 9223372036854775807 := rfl
  omega

/-- v is a slice of n elements of 'size' cells each, whose cells are cs. -/
def Sl (w : World) (v : Value) (size n : Nat) (cs : List Value) : Prop :=
  ∃ (bo : Option (Nat × Nat)) (cap : Nat), v = .slice (bo.map fun p => ⟨p.1, p.2, none⟩) n cap ∧ cs.length = n * size ∧ n ≤ cap ∧ n ≤ maxLen ∧ ∀ j u, cs[j]? = some u → ∃ b o, bo = some (b, o) ∧ w.cell? ⟨b, o + j, none⟩ = some u

theorem Sl.nil (w : World) (size : Nat) : Sl w (.slice none 0 0) size 0 [] := ⟨none, 0, rfl, by simp, Nat.le_refl _, by simp, fun j u h => by simp at h⟩

theorem Sl.ofRow {w : World} {base e size n : Nat} {v : Value} {cs : List Value} (h : w.ownsRow base e size v n cs) : Sl w v size n cs := by
  rcases h.2 with ⟨rfl, rfl⟩ | ⟨g, cap, cur, rfl, hb, hg, hnc, hcm, hcs, htake⟩
  · exact ⟨none, 0, rfl, h.1, Nat.le_refl _, by simp, fun j u hj => by have := h.1; simp at this; subst this; simp at hj⟩
  · exact ⟨some (g, 0), cap, rfl, h.1, hnc, Nat.le_trans hnc hcm, fun j u hj => ⟨g, 0, rfl, by simpa [Addr.add_lit] using h.cells (g := g) rfl j u hj⟩⟩

theorem Sl.keep {S : List Nat} {w w' : World} {v : Value} {size n : Nat} {cs : List Value} (h : Sl w v size n cs) (hc : Ch S w w') (hn : ∀ b, v.ownBlock = some b → b ∉ S ∨ n * size = 0) : Sl w' v size n cs := by
  obtain ⟨bo, cap, rfl, h1, h2, h3, h4⟩ := h
  refine ⟨bo, cap, rfl, h1, h2, h3, fun j u hj => ?_⟩
  obtain ⟨b, o, rfl, ha⟩ := h4 j u hj
  refine ⟨b, o, rfl, hc.cell ha ?_⟩
  have hj' : j < n * size := by rw [← h1]; exact (List.getElem?_eq_some_iff.1 hj).1
  rcases hn b rfl with h | h
  · exact h
  · omega

/-- An element's type's row of the table. -/
structure ElemTy (P : Program) (t e : TypeId) (z : Value) (size bytes : Nat) : Prop where
  ty : P.underlying t = some (.slice e)
  info : (P.info? e).map (fun i => (i.zero, i.size, i.bytes)) = some (some z, size, bytes)
  zsize : z.cells.size = size
  pos : 0 < size

/-- append(v, x...) -/
theorem run_app {P : Program} {w : World} {base t ty e size bytes : Nat} {z : Value} (T : ElemTy P t e z size bytes) {v : Value} {n : Nat} {xs : List Value} (hown : w.ownsRow base e size v n xs)
    {x : Value} {m : Nat} {news : List Value} (hx : Sl w x size m news) (h1 : ∀ u ∈ news, u.oneCell' = true) (h63 : n + m ≤ maxLen) (hbytes : (n + m) * bytes ≤ 140737488355328) (hbase : base ≤ w.heap.size) :
    ∃ v' w', (Builtin.append_ #[t, t] ty #[v, x]).run P w = .ok v' w' ∧ w'.ownsRow base e size v' (n + m) (xs ++ news) ∧ w.grownBy w' v.ownBlock ∧
      (v' = .slice none 0 0 ↔ v = .slice none 0 0 ∧ m = 0) ∧ (v'.ownBlock = v.ownBlock ∨ v'.ownBlock = some w.heap.size) := by
  obtain ⟨i0, hi, hz0, hz1, hz2⟩ := info_parts T.info
  obtain ⟨ao, cap, rfl, hl, hmc, hmm, hcells⟩ := hx
  cases ao with
  | some a =>
    exact run_append_own_at (P := P) w base t ty e i0 z size bytes T.ty hi hz0 hz1 hz2 T.zsize T.pos v n xs hown ⟨a.1, a.2, none⟩ m cap news hl (fun j u hj => by
      obtain ⟨b, o, ha, hc⟩ := hcells j u hj
      cases ha
      rw [Addr.add_lit]
      exact hc) h1 h63 hbytes hbase
  | none =>
    have hm0 : m = 0 := by
      rcases Nat.eq_zero_or_pos m with h | h
      · exact h
      · exfalso
        have hp : 0 < news.length := by rw [hl]; exact Nat.mul_pos h T.pos
        obtain ⟨_, _, ha, _⟩ := hcells 0 news[0] (by simp)
        cases ha
    subst hm0
    have hn : news = [] := List.eq_nil_of_length_eq_zero (by simpa using hl)
    subst hn
    rcases hown.2 with ⟨rfl, rfl⟩ | ⟨g, cap', cur, rfl, _, _, hnc, _⟩
    · exact ⟨.slice none 0 0, w, by simp [Builtin.append_, run_underlying T.ty, sizeOf, typeInfo, hi, Builtin.lenOf, Builtin.firstCells, Result.andThen], by simpa using hown, World.grownBy.refl w _, by simp, .inl rfl⟩
    · refine ⟨.slice (some ⟨g, 0, none⟩) n cap', w, ?_, by simpa using hown, World.grownBy.refl w _, by simp, .inl rfl⟩
      simp [Builtin.append_, run_underlying T.ty, sizeOf, typeInfo, hi, Builtin.lenOf, Builtin.firstCells, hnc, storeCells, Result.andThen]

/-- .. at the operation. -/
theorem wl_app {P : Program} {w : World} {ops : Array Oper} {rest : List Oper} {o : Oper} {a : Act} {Q : Exit → Act → World → Prop} (hgd : o.guard = none) (s x : Operand)
    {base t e size bytes : Nat} {z : Value} (T : ElemTy P t e z size bytes)
    (ho : o.op = .call { callee := .builtin .append, args := #[s, x], argTypes := #[t, t] })
    {v : Value} {n : Nat} {xs : List Value} (hown : w.ownsRow base e size v n xs) (hs : a.eval s = v)
    {xv : Value} {m : Nat} {news : List Value} (hx : Sl w xv size m news) (hxv : a.eval x = xv) (h1 : ∀ u ∈ news, u.oneCell' = true) (h63 : n + m ≤ maxLen) (hbytes : (n + m) * bytes ≤ 140737488355328) (hbase : base ≤ w.heap.size)
    (h : ∀ v' w', w'.ownsRow base e size v' (n + m) (xs ++ news) → w.grownBy w' v.ownBlock → (v' = .slice none 0 0 ↔ v = .slice none 0 0 ∧ m = 0) → (v'.ownBlock = v.ownBlock ∨ v'.ownBlock = some w.heap.size) → wpList P ops Q rest (a.put o.dst v') w') :
    wpList P ops Q (o :: rest) a w := by
  obtain ⟨v', w', hr, h2, h3, h4, h5⟩ := run_app (P := P) (ty := o.type) T hown hx h1 h63 hbytes hbase
  refine wpList_plain hgd fun K hK => ?_
  unfold Oper.wp execOp
  simp only [ho, resolve, invoke, builtin, Sem.run_bind, Sem.run_pure, Result.andThen_ok, List.map_toArray, List.map_cons, List.map_nil, hs, hxv, hr]
  exact hK _ _ (h v' w' h2 h3 h4 h5)

/-- The call comes back, and what it hands back meets R. -/
abbrev Gives (P : Program) (f : FuncId) (xs : Array Value) (w : World) (R : Value → World → Prop) : Prop := Calls P f xs w fun e w' => ∃ v, e = .returned v ∧ R v w'

theorem Gives.mono {P : Program} {f : FuncId} {xs : Array Value} {w : World} {R R' : Value → World → Prop} (h : Gives P f xs w R) (k : ∀ v w', R v w' → R' v w') : Gives P f xs w R' :=
  Calls.mono h (fun _ w' ⟨v, h1, h2⟩ => ⟨v, h1, k v w' h2⟩)

/-- A function with a body. -/
def bodied (P : Program) (f : FuncId) : Bool := ((P.funcs[f]?).map fun fn => !(fn.name == "runtime.NumGoroutine") && fn.body.isSome).getD false

/-- A call of a named function, at the operation. -/
theorem wl_call {P : Program} {w : World} {ops : Array Oper} {rest : List Oper} {o : Oper} {a : Act} {Q : Exit → Act → World → Prop} (hgd : o.guard = none) {f : FuncId} {args : Array Operand} {ts : Array TypeId}
    (ho : o.op = .call { callee := .value (.func f), args := args, argTypes := ts }) (hb : bodied P f = true) {xs : Array Value} (hx : args.toList.map a.eval = xs.toList) {R : Value → World → Prop}
    (hC : Gives P f xs w R)
    (h : ∀ v w', R v w' → wpList P ops Q rest (a.put o.dst v) w') : wpList P ops Q (o :: rest) a w := by
  replace hx : args.map a.eval = xs := Array.toList_inj.1 (by rw [Array.toList_map, hx])
  unfold bodied at hb
  cases hf : P.funcs[f]? with
  | none => simp [hf] at hb
  | some fn =>
    obtain ⟨h1, h2⟩ : (fn.name == "runtime.NumGoroutine") = false ∧ fn.body.isNone = false := by simpa [hf, Option.isSome_iff_ne_none] using hb
    refine wpList_plain hgd fun K hK => ?_
    unfold Oper.wp execOp
    simp only [ho, resolve]
    simp only [Act.eval] at hx ⊢
    simp only [hx, Deferred.ofValue, invoke, callFunc, Sem.run_bind, Sem.run_pure, Result.andThen_ok, run_program, hf, h1, h2, Sem.run_ite, Array.empty_append, Array.append_empty]
    simp only [Bool.false_eq_true, if_false, Oper.upon]
    refine Calls.mono hC ?_
    rintro e w' ⟨v, rfl, hR⟩
    exact hK _ _ (h v w' hR)

/-- A slice over a block that was just laid. -/
theorem sl_new (w : World) (cs : List Value) (e size n : Nat) (hl : cs.length = n * size) (hn : n ≤ maxLen) : Sl (w.alloc (.cells cs.toArray e)) (.slice (some ⟨w.heap.size, 0, none⟩) n n) size n cs := by
  refine ⟨some (w.heap.size, 0), n, rfl, hl, Nat.le_refl _, hn, fun j u hj => ⟨_, _, rfl, ?_⟩⟩
  rw [World.cell?_alloc_new]
  simpa using hj

/-- What a slice's value looks like. -/
theorem Sl.two {w : World} {v : Value} {size n : Nat} {cs : List Value} (h : Sl w v size n cs) : (∃ cap, v = .slice none n cap) ∨ ∃ b o cap, v = .slice (some ⟨b, o, none⟩) n cap := by
  obtain ⟨bo, cap, rfl, _⟩ := h
  cases bo with
  | none => exact .inl ⟨_, rfl⟩
  | some p => exact .inr ⟨_, _, _, rfl⟩

theorem flat_at {α : Type} (f : α → List Value) (k : Nat) (hk : ∀ x, (f x).length = k) : ∀ (l : List α) (i : Nat) (x : α), l[i]? = some x → ∀ j, j < k → (l.flatMap f)[i * k + j]? = (f x)[j]?
  | [], i, x, h, j, hj => by simp at h
  | y :: l, 0, x, h, j, hj => by
    simp at h
    subst h
    simp [List.getElem?_append, hk, hj]
  | y :: l, i + 1, x, h, j, hj => by
    have := flat_at f k hk l i x (by simpa using h) j hj
    rw [List.flatMap_cons, List.getElem?_append_right (by rw [hk, Nat.add_mul]; omega)]
    rw [hk, show (i + 1) * k + j - k = i * k + j by rw [Nat.add_mul]; omega]
    exact this

/-- The cells of an element of a slice. -/
theorem Sl.at {α : Type} {w : World} {v : Value} {k n : Nat} {f : α → List Value} {l : List α} (h : Sl w v k n (l.flatMap f)) (hf : ∀ x, (f x).length = k) (hk : 0 < k) {i : Nat} {x : α} (hx : l[i]? = some x) :
    ∃ b o cap, v = .slice (some ⟨b, o, none⟩) n cap ∧ ∀ j u, (f x)[j]? = some u → w.cell? ⟨b, o + (i * k + j), none⟩ = some u := by
  obtain ⟨bo, cap, rfl, hl, _, _, hc⟩ := h
  have hlen : 0 < (f x).length := by rw [hf]; exact hk
  obtain ⟨b, o, rfl, _⟩ := hc (i * k + 0) ((f x)[0]) (by rw [flat_at f k hf l i x hx 0 hk]; simp)
  refine ⟨b, o, cap, rfl, fun j u hj => ?_⟩
  have hjk : j < k := by rw [← hf x]; exact (List.getElem?_eq_some_iff.1 hj).1
  obtain ⟨b', o', e, hc'⟩ := hc (i * k + j) u (by rw [flat_at f k hf l i x hx j hjk]; exact hj)
  cases e
  exact hc'

theorem ownBlock_lt {w : World} {base e size n : Nat} {v : Value} {xs : List Value} (h : w.ownsRow base e size v n xs) {k : Nat} (hk : v.ownBlock = some k) : base ≤ k ∧ k < w.heap.size := h.lt k hk
/-- The block of a row, with its type. -/
theorem row_block {w : World} {base e size n : Nat} {v : Value} {xs : List Value} (h : w.ownsRow base e size v n xs) {k : Nat} (hk : v.ownBlock = some k) : ∃ cur, w.heap[k]? = some (.cells cur e (0, 0)) := by
  rcases h.2 with ⟨rfl, _⟩ | ⟨g, cap, cur, rfl, _, hg, _⟩
  · simp [Value.ownBlock] at hk
  · simp [Value.ownBlock] at hk
    subst hk
    exact ⟨cur, hg⟩
theorem row_shape {w : World} {base e size n : Nat} {v : Value} {xs : List Value} (h : w.ownsRow base e size v n xs) : ∃ ao cap, v = .slice ao n cap := by
  rcases h.2 with ⟨rfl, rfl⟩ | ⟨g, cap, cur, rfl, _⟩
  · exact ⟨none, 0, rfl⟩
  · exact ⟨_, _, rfl⟩
theorem row_keep {S : List Nat} {w w' : World} {base e size n : Nat} {v : Value} {xs : List Value} (h : w.ownsRow base e size v n xs) (hc : Ch S w w') (hn : ∀ b, v.ownBlock = some b → b ∉ S) : w'.ownsRow base e size v n xs := by
  refine ⟨h.1, ?_⟩
  rcases h.2 with hn' | ⟨g, cap, cur, rfl, hb, hgg, rest⟩
  · exact .inl hn'
  · exact .inr ⟨g, cap, cur, rfl, hb, hc.keep hgg (hn g rfl), rest⟩
theorem row_base {w : World} {base base' e size n : Nat} {v : Value} {xs : List Value} (h : w.ownsRow base e size v n xs) (hb : base' ≤ base) : w.ownsRow base' e size v n xs := by
  refine ⟨h.1, ?_⟩
  rcases h.2 with hn' | ⟨g, cap, cur, rfl, hb', hgg, rest⟩
  · exact .inl hn'
  · exact .inr ⟨g, cap, cur, rfl, Nat.le_trans hb hb', hgg, rest⟩
theorem Ch.ofGrown {w w' : World} {row : Option Nat} (hg : w.grownBy w' row) : Ch row.toList w w' := (Ch.refl _ w).grown hg (fun k hk => .inl (by simp [hk]))

end Go.Proofs.YticfeikmdfijiaaDoor
