/- slices.Sorted(maps.Keys(m)) at string keys, said of a map as a list of pairs. -/
import Derived.Test.YticfeikmdfijiaaDoorStore
import Derived.Test.YticfeikmdfijiaaDoorIter
import Derived.Maps.OwnSet
namespace Go.Proofs.YticfeikmdfijiaaDoor
open Go Go.RowKit Go.Maps Go.Sort

abbrev HS := Unit
abbrev RS : Value → Option (DataW HS × List MemPlace) := fun _ => some (.lit (.bool true), [])

section
variable {P : Program} {w : World} {b : Nat} {k : TypeId}

theorem keyOf_str (hk : P.underlying k = some .string) {x : ByteArray} (hw : x.size ≤ maxLen) : keyOf P k (.string x) = some (.string x.data.toList) := by
  simp [keyOf, hk, mapKey, hw]

theorem isMap_ownsS {m : List (ByteArray × Value)} (h : IsMap Value.string w b m) (hk : P.underlying k = some .string) (hw : ∀ p ∈ m, p.1.size ≤ maxLen) (hn : m.length ≤ maxLen) :
    ∃ D : DataW HS, w.ownsMap P k RS b m.length D := by
  obtain ⟨es, c, hb, hs, he⟩ := h
  have hlen : es.size = m.length := by have := congrArg List.length he; simpa using this
  refine ⟨_, es, c, hb, ⟨by omega, hs, fun x hx => ?_⟩, by omega, rfl⟩
  have hmem : (x.key, x.val) ∈ es.toList.map (fun x => (x.key, x.val)) := List.mem_map.2 ⟨x, hx, rfl⟩
  rw [he] at hmem
  obtain ⟨p, hp, e⟩ := List.mem_map.1 hmem
  have e1 : x.key = .string p.1 := (congrArg Prod.fst e).symm
  exact ⟨_, by simp only [WideElems.rd, e1, keyOf_str hk (hw p hp), Option.bind_some, RS, Option.map_some]; rfl⟩

theorem owns_hasS {m : List (ByteArray × Value)} {D : DataW HS} {n : Nat} {t e : TypeId} (h : IsMap Value.string w b m) (ho : w.ownsMap P k RS b n D) (hk : P.underlying k = some .string) (ht : P.underlying t = some (.map k e)) {z : Value} (hz : (zeroValue e).run P w = .ok z w)
    {x : ByteArray} (hx : x.size ≤ maxLen) : Maps.has D (.string x.data.toList) = (alook m x).isSome := by
  obtain ⟨v, ps, h1, _⟩ := ho.look_ok (string_keyed hk) ht hz (zd := .lit (.bool true)) (zp := []) rfl (keyOf_str hk hx)
  have h2 := h.run_look_ok (keyTy_string hk) ht hz x
  rw [h1] at h2
  simp only [Result.ok.injEq, Value.tuple.injEq, Array.mk.injEq, List.cons.injEq, Value.bool.injEq, and_true] at h2
  exact h2.2

theorem bytes_of (x : List UInt8) : (⟨x.toArray⟩ : ByteArray).data.toList = x := by simp
theorem data_inj {a b : ByteArray} (h : a.data.toList = b.data.toList) : a = b := ByteArray.ext (Array.toList_inj.1 h)

theorem owns_permS {m : List (ByteArray × Value)} {D : DataW HS} {n : Nat} {t e : TypeId} (h : IsMap Value.string w b m) (ho : w.ownsMap P k RS b n D) (hk : P.underlying k = some .string) (ht : P.underlying t = some (.map k e)) {z : Value} (hz : (zeroValue e).run P w = .ok z w)
    (hw : ∀ p ∈ m, p.1.size ≤ maxLen) : (m.map fun p => p.1.data.toList).Perm (strKeys D) := by
  have hnd := h.nodup
  have hle := strKeys_le ho hk
  obtain ⟨es, hD, hpw, _⟩ := ho.entries (string_keyed hk)
  obtain ⟨es', hD', hko⟩ := ho.keysOf
  obtain rfl : es = es' := by rw [hD] at hD'; simpa using hD'
  subst hD
  have hstr : ∀ p ∈ es, ∃ x, p.1 = .string x := fun p hp => by obtain ⟨v, hv⟩ := hko p hp; obtain ⟨x, _, hx, _⟩ := Maps.keyOf_str hk hv; exact ⟨x, hx⟩
  refine perm_strKeys hpw hstr ?_ fun x => ?_
  · have h2 : (m.map fun p => p.1.data.toList) = (m.map (·.1)).map (fun k => k.data.toList) := by simp [List.map_map, Function.comp_def]
    rw [h2]
    exact List.pairwise_map.2 (hnd.imp (fun hne e => hne (data_inj e)))
  · constructor
    · intro hx
      obtain ⟨p, hp, rfl⟩ := List.mem_map.1 hx
      rw [owns_hasS h ho hk ht hz (hw p hp), alook_of_mem hnd hp]
      rfl
    · intro hx
      have hmem : x ∈ strKeys (.map es) := by
        rw [has_eq, List.any_eq_true] at hx
        obtain ⟨p, hp, hs⟩ := hx
        obtain ⟨y, hy⟩ := hstr p hp
        rw [hy] at hs
        have : y = x := by simpa [Lit.sameKey] using hs
        subst this
        exact List.mem_map.2 ⟨p, hp, by rw [hy]; rfl⟩
      have hl := hle x hmem
      have h3 := owns_hasS h ho hk ht hz (x := ⟨x.toArray⟩) (show x.toArray.size ≤ maxLen by simpa using hl)
      rw [bytes_of] at h3
      rw [h3] at hx
      obtain ⟨v, hv⟩ := Option.isSome_iff_exists.1 hx
      exact List.mem_map.2 ⟨(⟨x.toArray⟩, v), alook_mem hv, by simp⟩
end

def leK (a b : ByteArray) : Bool := decide (a.data.toList ≤ b.data.toList)

/-- maps.Keys, slices.Sorted. -/
theorem skeys_call (mb : Option Nat) (w : World) :
    Gives Tryd.prog 65 #[.map mb] w fun v w' => v = .func (.func 84) #[] #[.pointer (some ⟨w.heap.size, 0, none⟩)] ∧ w' = w.alloc (.cells #[.map mb] 140) := by
  refine Calls.mono (callsIn_wide.1 (Tryd.maps_Keys_65 mb w)) ?_
  rintro e w' ⟨rfl, rfl⟩
  exact ⟨_, rfl, rfl, rfl⟩

theorem ssorted_call (b : Nat) (m : List (ByteArray × Value)) (w : World) (hmap : IsMap Value.string w b m) (hw : ∀ p ∈ m, p.1.size ≤ maxLen) (hlen : m.length ≤ 1000000) :
    Gives Tryd.prog 64 #[.func (.func 84) #[] #[.pointer (some ⟨w.heap.size, 0, none⟩)]] (w.alloc (.cells #[.map (some b)] 140)) fun v w' =>
      ∃ ks : List ByteArray, ks.Perm (m.map (·.1)) ∧ ks.Pairwise (fun a b => leK a b = true) ∧ Sl w' v 1 ks.length (ks.map Value.string) ∧ Ch [] w w' := by
  obtain ⟨D, hown⟩ := isMap_ownsS hmap Tryd.underlying9 hw (le_maxLen (by omega))
  have hsz := hown.size_le
  have hp := owns_permS hmap hown Tryd.underlying9 Tryd.underlying140 (Tryd.zeroValue58 w) hw
  refine Calls.mono (callsIn_wide.1 (Tryd.slices_Sorted_keys_64_65 b m.length D RS w hown (le_maxLen (by omega)) (by omega))) ?_
  rintro e w' ⟨v, ss, rfl, hS, hrow, _, hbel⟩
  refine ⟨v, rfl, (ss.mergeSort (fun x y => decide (x ≤ y))).map (fun x => ⟨x.toArray⟩), ?_, ?_, ?_, ?_⟩
  · have h1 : ((ss.mergeSort (fun x y => decide (x ≤ y))).map fun x => (⟨x.toArray⟩ : ByteArray)).Perm ((m.map fun p => p.1.data.toList).map fun x => (⟨x.toArray⟩ : ByteArray)) := ((List.mergeSort_perm _ _).trans (hS.trans hp.symm)).map _
    have h2 : ((m.map fun p => p.1.data.toList).map fun x => (⟨x.toArray⟩ : ByteArray)) = m.map (·.1) := by
      rw [List.map_map]
      refine List.map_congr_left fun p _ => ?_
      exact ByteArray.ext (by simp)
    rw [h2] at h1
    exact h1
  · refine List.pairwise_map.2 ?_
    have := List.pairwise_mergeSort (le := fun x y : List UInt8 => decide (x ≤ y)) (fun a b c h1 h2 => by simp only [decide_eq_true_eq] at *; exact List.le_trans h1 h2) (fun a b => by simp only [Bool.or_eq_true, decide_eq_true_eq]; exact List.le_total a b) ss
    exact this.imp (fun h => by simpa [leK] using h)
  · have := Sl.ofRow hrow
    simpa [List.map_map, Function.comp_def] using this
  · exact ((Ch.refl [] w).alloc _).thenNil (Ch.ofBelow hbel)

end Go.Proofs.YticfeikmdfijiaaDoor
