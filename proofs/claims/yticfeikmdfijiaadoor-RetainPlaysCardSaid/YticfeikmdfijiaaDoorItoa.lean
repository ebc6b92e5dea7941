/- strconv.Itoa. -/
import Derived.Test.YticfeikmdfijiaaDoorKit
import Derived.Test.YticfeikmdfijiaaDoorProg
import Derived.Test.YticfeikmdfijiaaDoorShelf
import Derived.Lib.ItoaNum
import Derived.Lib.LaidTab
namespace Go.Proofs.YticfeikmdfijiaaDoor
open Go Go.RowKit

/-- What Itoa reads. -/
def Tab (w : World) : Prop := Lib.TabIs Tryd.prog w "internal/strconv.uint64pow10" .u64 Lib.pow10Tab
def itoaB (n : Int) : ByteArray := ⟨(Lib.itoa n).toArray⟩

theorem ch_grow (w : World) (os : Array Obj) : Ch [] w (Go.Sort.grow w os) := ⟨rfl, rfl, rfl, by simp, fun k hk _ => Go.Sort.heap_grow_old w os hk⟩

theorem nDigits_le : ∀ (k u : Nat), u < 10 ^ (k + 1) → Lib.nDigits u ≤ k + 1
  | 0, u, h => by rw [Lib.nDigits_small (by simpa using h)]; omega
  | k + 1, u, h => by
    by_cases hu : u < 10
    · rw [Lib.nDigits_small hu]; omega
    · rw [Lib.nDigits_big hu]
      have := nDigits_le k (u / 10) (by rw [Nat.pow_succ] at h; omega)
      omega

theorem Tab.drew {w : World} (h : Tab w) : Tab w.drew := h
/-- Where the table lies: below this. -/
noncomputable def tabN : Nat := ((Tryd.prog.globalNamed "internal/strconv.uint64pow10").map (· + 1)).getD 0
theorem Tab.at {w : World} (h : Tab w) : ∃ g, Tryd.prog.globalNamed "internal/strconv.uint64pow10" = some g ∧ tabN = g + 1 ∧ g < w.heap.size := by
  unfold Tab Lib.TabIs World.var? at h
  cases hn : Tryd.prog.globalNamed "internal/strconv.uint64pow10" with
  | none => rw [hn] at h; cases h
  | some g =>
    rw [hn] at h
    simp only [Option.bind_some] at h
    refine ⟨g, rfl, by unfold tabN; rw [hn]; rfl, ?_⟩
    rcases Nat.lt_or_ge g w.heap.size with h1 | h1
    · exact h1
    · rw [Array.getElem?_eq_none h1] at h; cases h
theorem Tab.size {w : World} (h : Tab w) : tabN ≤ w.heap.size := by
  obtain ⟨g, _, h2, h3⟩ := h.at
  omega
theorem Tab.keep {S : List Nat} {w w' : World} (h : Tab w) (hc : Ch S w w') {B : Nat} (hB : tabN ≤ B) (hs : ∀ x ∈ S, B ≤ x) : Tab w' := by
  obtain ⟨g, hn, h2, hlt⟩ := h.at
  unfold Tab Lib.TabIs World.var? at h ⊢
  rw [hn] at h ⊢
  simp only [Option.bind_some] at h ⊢
  rw [hc.block g hlt (fun hm => by have := hs g hm; omega)]
  exact h

theorem itoa_call (n : Int) (h0 : 0 ≤ n) (h1 : n ≤ 4294967295) (w : World) (ht : Tab w) :
    Gives Tryd.prog 73 #[.int .i64 n] w fun v w' => v = .string (itoaB n) ∧ Ch [] w w' := by
  refine (Tryd.strconv_Itoa n (by omega) (by omega) w ht).mono ?_
  rintro e w' ⟨rfl, k, os, rfl⟩
  exact ⟨_, rfl, rfl, ((Ch.refl [] w).drewN k).thenNil (ch_grow _ os)⟩

theorem itoaB_size (n : Int) (h0 : 0 ≤ n) (h1 : n ≤ 4294967295) : (itoaB n).size ≤ 10 := by
  show (Lib.itoa n).toArray.size ≤ 10
  obtain ⟨u, rfl⟩ : ∃ u : Nat, n = u := ⟨n.toNat, by omega⟩
  have hn : ¬ ((u : Int) < 0) := by omega
  simp only [Lib.itoa, hn, if_false, List.size_toArray, Int.toNat_natCast, Lib.decDigits_length]
  exact nDigits_le 9 u (by omega)

end Go.Proofs.YticfeikmdfijiaaDoor
