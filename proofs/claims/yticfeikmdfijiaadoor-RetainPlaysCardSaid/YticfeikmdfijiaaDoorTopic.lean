/- Topics: Levels, Hidden, Match. -/
import Derived.Test.YticfeikmdfijiaaDoorMsg
import Derived.Lib.SplitLaws
namespace Go.Proofs.YticfeikmdfijiaaDoor
open Go Go.RowKit

def slash : ByteArray := ⟨#[47]⟩
def one_ : ByteArray := ⟨#[43]⟩
def rest_ : ByteArray := ⟨#[35]⟩
def levels (s : ByteArray) : List ByteArray := Lib.splitB slash 0 (Lib.countB s slash) s
theorem levels_length (s : ByteArray) : (levels s).length = Lib.countB s slash + 1 := Lib.splitB_all slash (by decide) 0 _ s rfl
theorem levels_le (s : ByteArray) : (levels s).length ≤ s.size + 1 := by
  have := Lib.countB_le slash (by decide) s.size s (Nat.le_refl _)
  rw [levels_length]
  omega
theorem levels_pos (s : ByteArray) : 0 < (levels s).length := by rw [levels_length]; omega
def hidden (s : ByteArray) : Bool := Lib.hasPrefix s.data.toList [36]

/-- A package variable of the library that is an int. -/
def IntAt (w : World) : Prop := ∃ m, w.cell? ⟨1, 0, none⟩ = some (.int .i64 m)
theorem IntAt.lt {w : World} (h : IntAt w) : 1 < w.heap.size := by
  obtain ⟨m, hm⟩ := h
  exact World.block_lt_of_cell? w _ hm
theorem IntAt.keep {S : List Nat} {w w' : World} (h : IntAt w) (hc : Ch S w w') (hs : 1 ∉ S) : IntAt w' := by
  obtain ⟨m, hm⟩ := h
  exact ⟨m, hc.cell hm hs⟩

set_option maxHeartbeats 1000000 in
theorem levels_call (w : World) (s : ByteArray) (hs : s.size ≤ 1000000) (hm : IntAt w) :
    Gives Tryd.prog 85 #[.string s] w fun r w' => r = .slice (some ⟨w.heap.size, 0, none⟩) (levels s).length (levels s).length ∧ w' = w.alloc (.cells ((levels s).map Value.string).toArray 9) := by
  obtain ⟨m, hm⟩ := hm
  have hc := Tryd.strings_Split s ⟨#[47]⟩ m w (by omega) hm (by decide)
  have e := levels_length s
  unfold levels slash at e
  go_enter Tryd.func85, Tryd.ntmps85
  go_wp2_with (go_at_call 97; refine Calls.mono hc ?_; rintro e w' ⟨rfl, rfl⟩)
  go_ret
  exact ⟨_, rfl, by unfold levels slash; rw [e]; rfl, rfl⟩

set_option maxHeartbeats 1000000 in
theorem hidden_call (w : World) (s : ByteArray) :
    Gives Tryd.prog 86 #[.string s] w fun r w' => r = .bool (hidden s) ∧ w' = w := by
  have hc := Tryd.strings_HasPrefix s ⟨#[36]⟩ w
  go_enter Tryd.func86, Tryd.ntmps86
  go_wp2_with (go_at_call 98; refine Calls.mono hc ?_; rintro e w' ⟨rfl, rfl⟩)
  go_ret
  exact ⟨_, rfl, rfl, rfl⟩

/-- Do a name's levels meet a filter's? -/
def meetL : List ByteArray → List ByteArray → Bool
  | [], n => n.isEmpty
  | x :: f, n => if x = rest_ ∧ f = [] then true else match n with
    | [] => false
    | y :: n => if x = one_ ∨ x = y then meetL f n else false
def matchS (f n : ByteArray) : Bool := if hidden n ∧ ((levels f).head? = some one_ ∨ (levels f).head? = some rest_) then false else meetL (levels f) (levels n)

theorem drop_at {α : Type} {l : List α} {i : Nat} {x : α} (h : l[i]? = some x) : l.drop i = x :: l.drop (i + 1) := by
  obtain ⟨hi, hx⟩ := List.getElem?_eq_some_iff.1 h
  rw [List.drop_eq_getElem_cons hi, hx]
theorem drop_nil' {α : Type} {l : List α} {i : Nat} : l.drop i = [] ↔ l.length ≤ i := List.drop_eq_nil_iff
theorem meet_last {F N : List ByteArray} {i : Nat} {x : ByteArray} (hx : F[i]? = some x) (hl : F.length = i + 1) (hr : x = rest_) : meetL (F.drop i) (N.drop i) = true := by
  rw [drop_at hx, drop_nil'.2 (by omega : F.length ≤ i + 1)]
  simp [meetL, hr]
theorem meet_on {F N : List ByteArray} {i : Nat} {x y : ByteArray} (hx : F[i]? = some x) (hy : N[i]? = some y) (ho : x = one_ ∨ x = y) (hr : ¬ (x = rest_ ∧ F.length = i + 1)) : meetL (F.drop i) (N.drop i) = meetL (F.drop (i + 1)) (N.drop (i + 1)) := by
  have hi := (List.getElem?_eq_some_iff.1 hx).1
  have h2 : ¬ (x = rest_ ∧ F.drop (i + 1) = []) := fun h => hr ⟨h.1, by have := drop_nil'.1 h.2; omega⟩
  rw [drop_at hx, drop_at hy, meetL]
  rw [if_neg h2]
  simp only [ho, if_true]
theorem meet_no {F N : List ByteArray} {i : Nat} {x y : ByteArray} (hx : F[i]? = some x) (hy : N[i]? = some y) (h1 : x ≠ one_) (h3 : x ≠ y) (hr : ¬ (x = rest_ ∧ F.length = i + 1)) : meetL (F.drop i) (N.drop i) = false := by
  have hi := (List.getElem?_eq_some_iff.1 hx).1
  have h2 : ¬ (x = rest_ ∧ F.drop (i + 1) = []) := fun h => hr ⟨h.1, by have := drop_nil'.1 h.2; omega⟩
  rw [drop_at hx, drop_at hy, meetL]
  rw [if_neg h2]
  simp [h1, h3]
theorem meet_end {F N : List ByteArray} {i : Nat} {x : ByteArray} (hx : F[i]? = some x) (hn : N.length ≤ i) (hr : ¬ (x = rest_ ∧ F.length = i + 1)) : meetL (F.drop i) (N.drop i) = false := by
  have hi := (List.getElem?_eq_some_iff.1 hx).1
  have h2 : ¬ (x = rest_ ∧ F.drop (i + 1) = []) := fun h => hr ⟨h.1, by have := drop_nil'.1 h.2; omega⟩
  rw [drop_at hx, drop_nil'.2 hn, meetL]
  rw [if_neg h2]
theorem meet_nil {F N : List ByteArray} {i : Nat} (hf : F.length ≤ i) : meetL (F.drop i) (N.drop i) = decide (N.length ≤ i) := by
  rw [drop_nil'.2 hf, meetL]
  by_cases h : N.length ≤ i
  · rw [drop_nil'.2 h]; simp [h]
  · have : N.drop i ≠ [] := fun e => h (drop_nil'.1 e)
    simp [h]

set_option maxHeartbeats 4000000 in
theorem match_call (w : World) (f n : ByteArray) (hf : f.size ≤ 100000) (hn : n.size ≤ 100000) (hm : IntAt w) :
    Gives Tryd.prog 66 #[.string f, .string n] w fun r w' => r = .bool (matchS f n) ∧ Ch [] w w' := by
  have h1 := levels_call w f (by omega) hm
  have hc1 : Ch [] w (w.alloc (.cells ((levels f).map Value.string).toArray 9)) := (Ch.refl [] w).alloc _
  have hb1 := heap_new w (.cells ((levels f).map Value.string).toArray 9)
  have lf := levels_pos f
  have lf2 := levels_le f
  have ln2 := levels_le n
  unfold matchS
  obtain ⟨w1, hw1⟩ : ∃ w1, w1 = w.alloc (.cells ((levels f).map Value.string).toArray 9) := ⟨_, rfl⟩
  rw [← hw1] at h1 hc1 hb1
  clear hw1
  have h2 := levels_call w1 n (by omega) (hm.keep hc1 (by simp))
  have hc2 : Ch [] w1 (w1.alloc (.cells ((levels n).map Value.string).toArray 9)) := (Ch.refl [] w1).alloc _
  have hb2 := heap_new w1 (.cells ((levels n).map Value.string).toArray 9)
  generalize w1.alloc (.cells ((levels n).map Value.string).toArray 9) = w2 at h2 hc2 hb2
  have hb1' := hc2.keep hb1 (by simp)
  generalize levels f = F at *
  generalize levels n = N at *
  have h3 := hidden_call w2 n
  generalize hidden n = hd at *
  obtain ⟨x0, F', hF⟩ : ∃ x0 F', F = x0 :: F' := by
    cases F with
    | nil => simp at lf
    | cons x F => exact ⟨x, F, rfl⟩
  have c0 : w2.cell? ⟨w.heap.size, 0, none⟩ = some (.string x0) := by rw [cell_of_heap hb1' 0, hF]; rfl
  have hhead : F.head? = some x0 := by rw [hF]; rfl
  rw [hhead]
  obtain ⟨nF, hnF⟩ : ∃ nF, nF = F.length := ⟨_, rfl⟩
  obtain ⟨nN, hnN⟩ : ∃ nN, nN = N.length := ⟨_, rfl⟩
  rw [← hnF] at h1 lf lf2
  rw [← hnN] at h2 ln2
  have HK : Hid (nF = F.length ∧ nN = N.length ∧ F = x0 :: F') := ⟨hnF, hnN, hF⟩
  clear hnF hnN hF hhead
  have hc12 := hc1.thenNil hc2
  by_cases hA : hd = true ∧ (some x0 = some one_ ∨ some x0 = some rest_)
  · rw [if_pos hA]
    obtain ⟨rfl, hx⟩ := hA
    rcases hx with hx | hx
    · replace hx : x0 = ⟨#[43]⟩ := Option.some.inj hx
      subst hx
      have hlf : decide (0 < nF) = true := by simpa using lf
      go_enter Tryd.func66, Tryd.ntmps66
      go_wp2_with fail
      refine Calls.mono h1 ?_
      rintro e w' ⟨_, rfl, rfl, hw⟩
      replace hw := hw.symm
      subst hw
      go_wp2_with fail
      refine Calls.mono h2 ?_
      rintro e w2 ⟨_, rfl, rfl, rfl⟩
      go_wp2_with fail
      refine Calls.mono h3 ?_
      rintro e w' ⟨_, rfl, rfl, rfl⟩
      go_wp2
      go_ret
      exact ⟨_, rfl, rfl, hc12⟩
    · replace hx : x0 = ⟨#[35]⟩ := Option.some.inj hx
      subst hx
      have hlf : decide (0 < nF) = true := by simpa using lf
      go_enter Tryd.func66, Tryd.ntmps66
      go_wp2_with fail
      refine Calls.mono h1 ?_
      rintro e w' ⟨_, rfl, rfl, hw⟩
      replace hw := hw.symm
      subst hw
      go_wp2_with fail
      refine Calls.mono h2 ?_
      rintro e w2 ⟨_, rfl, rfl, rfl⟩
      go_wp2_with fail
      refine Calls.mono h3 ?_
      rintro e w' ⟨_, rfl, rfl, rfl⟩
      go_wp2
      go_ret
      exact ⟨_, rfl, rfl, hc12⟩
  · rw [if_neg hA]
    cases hd with
    | false =>
      clear hA
      have hlf : decide (0 < nF) = true := by simpa using lf
      go_enter Tryd.func66, Tryd.ntmps66
      go_wp2_with fail
      refine Calls.mono h1 ?_
      rintro e w' ⟨_, rfl, rfl, hw⟩
      replace hw := hw.symm
      subst hw
      go_wp2_with fail
      refine Calls.mono h2 ?_
      rintro e w2 ⟨_, rfl, rfl, rfl⟩
      go_wp2_with fail
      refine Calls.mono h3 ?_
      rintro e w' ⟨_, rfl, rfl, rfl⟩
      go_wp2
      go_loop [29] (fun v29 => ∃ i : Nat, v29 = .int .i64 i ∧ i ≤ nF ∧ i ≤ nN ∧ meetL F N = meetL (F.drop i) (N.drop i)) (fun v29 => match v29 with | .int _ x => nF - x.toNat | _ => 0)
      case atStart => exact ⟨0, rfl, by omega, by omega, rfl⟩
      case round =>
        obtain ⟨i, rfl, hiF, hiN, hmeet⟩ := hrel
        have HM : Hid (meetL F N = meetL (F.drop i) (N.drop i)) := hmeet
        clear hmeet
        have hbF : nF ≤ 100001 := by omega
        have hbN : nN ≤ 100001 := by omega
        by_cases hi : i < nF
        · have hlt : decide ((i : Int) < (nF : Int)) = true := by simpa using hi
          have hil : i < F.length := by have := HK.out; omega
          obtain ⟨x, hx⟩ : ∃ x, F[i]? = some x := ⟨_, List.getElem?_eq_getElem hil⟩
          have cx : w'.cell? ⟨w.heap.size, i, none⟩ = some (.string x) := by rw [cell_of_heap hb1' i]; simp [hx]
          have HX : Hid (F[i]? = some x) := hx
          have hw1 : IntKind.i64.wrap ((nF : Int) - 1) = (nF : Int) - 1 := by rw [IntKind.wrap_i64]; omega
          clear hx
          by_cases hr : x = rest_
          · by_cases hl : i + 1 = nF
            · have hlast : ((i : Int) == (nF : Int) - 1) = true := by simp; omega
              have HR : Hid (x = rest_) := hr
              unfold rest_ at hr
              subst hr
              go_wp2
              go_ret
              exact ⟨_, rfl, by rw [HM.out, meet_last HX.out (by have := HK.out; omega) HR.out]; rfl, hc12⟩
            · have hlast : ((i : Int) == (nF : Int) - 1) = false := by simp; omega
              have HR : Hid (¬ (x = rest_ ∧ F.length = i + 1)) := fun h => hl (by have := HK.out; omega)
              unfold rest_ at hr
              subst hr
              by_cases hj : i < nN
              · have hge : decide ((nN : Int) ≤ (i : Int)) = false := by simp; omega
                have hjl : i < N.length := by have := HK.out; omega
                obtain ⟨y, hy⟩ : ∃ y, N[i]? = some y := ⟨_, List.getElem?_eq_getElem hjl⟩
                have cy : w'.cell? ⟨w1.heap.size, i, none⟩ = some (.string y) := by rw [cell_of_heap hb2 i]; simp [hy]
                have HY : Hid (N[i]? = some y) := hy
                clear hy
                by_cases hxy : (⟨#[35]⟩ : ByteArray) = y
                · subst hxy
                  go_wp2
                  go_round
                  case rel => exact ⟨i + 1, by simp, by omega, by omega, HM.out.trans (meet_on HX.out HY.out (.inr rfl) HR.out)⟩
                  case measure => simp; omega
                · have e6 : ([35] == y.toList) = false := by
                    have := bytes_lit (l := [35]) (Ne.symm hxy)
                    rw [beq_eq_false_iff_ne] at this ⊢
                    exact Ne.symm this
                  go_wp2
                  go_ret
                  exact ⟨_, rfl, by rw [HM.out, meet_no HX.out HY.out (by decide) hxy HR.out]; rfl, hc12⟩
              · have hge : decide ((nN : Int) ≤ (i : Int)) = true := by simp; omega
                go_wp2
                go_ret
                exact ⟨_, rfl, by rw [HM.out, meet_end HX.out (by have := HK.out; omega) HR.out]; rfl, hc12⟩
          · have e4 : (x.toList == [35]) = false := bytes_lit hr
            have HR : Hid (¬ (x = rest_ ∧ F.length = i + 1)) := fun h => hr h.1
            by_cases hj : i < nN
            · have hge : decide ((nN : Int) ≤ (i : Int)) = false := by simp; omega
              have hjl : i < N.length := by have := HK.out; omega
              obtain ⟨y, hy⟩ : ∃ y, N[i]? = some y := ⟨_, List.getElem?_eq_getElem hjl⟩
              have cy : w'.cell? ⟨w1.heap.size, i, none⟩ = some (.string y) := by rw [cell_of_heap hb2 i]; simp [hy]
              have HY : Hid (N[i]? = some y) := hy
              clear hy
              by_cases ho : x = one_
              · have HO : Hid (x = one_) := ho
                unfold one_ at ho
                subst ho
                go_wp2
                go_round
                case rel => exact ⟨i + 1, by simp, by omega, by omega, HM.out.trans (meet_on HX.out HY.out (.inl HO.out) HR.out)⟩
                case measure => simp; omega
              · have e5 : (x.toList == [43]) = false := bytes_lit ho
                by_cases hxy : x = y
                · subst hxy
                  go_wp2
                  go_round
                  case rel => exact ⟨i + 1, by simp, by omega, by omega, HM.out.trans (meet_on HX.out HY.out (.inr rfl) HR.out)⟩
                  case measure => simp; omega
                · have e6 := bytes_ne hxy
                  go_wp2
                  go_ret
                  exact ⟨_, rfl, by rw [HM.out, meet_no HX.out HY.out ho hxy HR.out]; rfl, hc12⟩
            · have hge : decide ((nN : Int) ≤ (i : Int)) = true := by simp; omega
              go_wp2
              go_ret
              exact ⟨_, rfl, by rw [HM.out, meet_end HX.out (by have := HK.out; omega) HR.out]; rfl, hc12⟩
        · have hlt : decide ((i : Int) < (nF : Int)) = false := by simpa using hi
          go_wp2
          go_ret
          refine ⟨_, rfl, ?_, hc12⟩
          have h9 := HK.out
          rw [HM.out, meet_nil (by omega)]
          show Value.bool ((nF : Int) == (nN : Int)) = _
          refine congrArg Value.bool ?_
          rw [Bool.eq_iff_iff]
          simp
          omega
    | true =>
      have e1 : (x0.toList == [43]) = false := bytes_lit (fun e => hA ⟨rfl, .inl (congrArg some e)⟩)
      have e2 : (x0.toList == [35]) = false := bytes_lit (fun e => hA ⟨rfl, .inr (congrArg some e)⟩)
      clear hA
      have hlf : decide (0 < nF) = true := by simpa using lf
      go_enter Tryd.func66, Tryd.ntmps66
      go_wp2_with fail
      refine Calls.mono h1 ?_
      rintro e w' ⟨_, rfl, rfl, hw⟩
      replace hw := hw.symm
      subst hw
      go_wp2_with fail
      refine Calls.mono h2 ?_
      rintro e w2 ⟨_, rfl, rfl, rfl⟩
      go_wp2_with fail
      refine Calls.mono h3 ?_
      rintro e w' ⟨_, rfl, rfl, rfl⟩
      go_wp2
      go_loop [29] (fun v29 => ∃ i : Nat, v29 = .int .i64 i ∧ i ≤ nF ∧ i ≤ nN ∧ meetL F N = meetL (F.drop i) (N.drop i)) (fun v29 => match v29 with | .int _ x => nF - x.toNat | _ => 0)
      case atStart => exact ⟨0, rfl, by omega, by omega, rfl⟩
      case round =>
        obtain ⟨i, rfl, hiF, hiN, hmeet⟩ := hrel
        have HM : Hid (meetL F N = meetL (F.drop i) (N.drop i)) := hmeet
        clear hmeet
        have hbF : nF ≤ 100001 := by omega
        have hbN : nN ≤ 100001 := by omega
        by_cases hi : i < nF
        · have hlt : decide ((i : Int) < (nF : Int)) = true := by simpa using hi
          have hil : i < F.length := by have := HK.out; omega
          obtain ⟨x, hx⟩ : ∃ x, F[i]? = some x := ⟨_, List.getElem?_eq_getElem hil⟩
          have cx : w'.cell? ⟨w.heap.size, i, none⟩ = some (.string x) := by rw [cell_of_heap hb1' i]; simp [hx]
          have HX : Hid (F[i]? = some x) := hx
          have hw1 : IntKind.i64.wrap ((nF : Int) - 1) = (nF : Int) - 1 := by rw [IntKind.wrap_i64]; omega
          clear hx
          by_cases hr : x = rest_
          · by_cases hl : i + 1 = nF
            · have hlast : ((i : Int) == (nF : Int) - 1) = true := by simp; omega
              have HR : Hid (x = rest_) := hr
              unfold rest_ at hr
              subst hr
              go_wp2
              go_ret
              exact ⟨_, rfl, by rw [HM.out, meet_last HX.out (by have := HK.out; omega) HR.out]; rfl, hc12⟩
            · have hlast : ((i : Int) == (nF : Int) - 1) = false := by simp; omega
              have HR : Hid (¬ (x = rest_ ∧ F.length = i + 1)) := fun h => hl (by have := HK.out; omega)
              unfold rest_ at hr
              subst hr
              by_cases hj : i < nN
              · have hge : decide ((nN : Int) ≤ (i : Int)) = false := by simp; omega
                have hjl : i < N.length := by have := HK.out; omega
                obtain ⟨y, hy⟩ : ∃ y, N[i]? = some y := ⟨_, List.getElem?_eq_getElem hjl⟩
                have cy : w'.cell? ⟨w1.heap.size, i, none⟩ = some (.string y) := by rw [cell_of_heap hb2 i]; simp [hy]
                have HY : Hid (N[i]? = some y) := hy
                clear hy
                by_cases hxy : (⟨#[35]⟩ : ByteArray) = y
                · subst hxy
                  go_wp2
                  go_round
                  case rel => exact ⟨i + 1, by simp, by omega, by omega, HM.out.trans (meet_on HX.out HY.out (.inr rfl) HR.out)⟩
                  case measure => simp; omega
                · have e6 : ([35] == y.toList) = false := by
                    have := bytes_lit (l := [35]) (Ne.symm hxy)
                    rw [beq_eq_false_iff_ne] at this ⊢
                    exact Ne.symm this
                  go_wp2
                  go_ret
                  exact ⟨_, rfl, by rw [HM.out, meet_no HX.out HY.out (by decide) hxy HR.out]; rfl, hc12⟩
              · have hge : decide ((nN : Int) ≤ (i : Int)) = true := by simp; omega
                go_wp2
                go_ret
                exact ⟨_, rfl, by rw [HM.out, meet_end HX.out (by have := HK.out; omega) HR.out]; rfl, hc12⟩
          · have e4 : (x.toList == [35]) = false := bytes_lit hr
            have HR : Hid (¬ (x = rest_ ∧ F.length = i + 1)) := fun h => hr h.1
            by_cases hj : i < nN
            · have hge : decide ((nN : Int) ≤ (i : Int)) = false := by simp; omega
              have hjl : i < N.length := by have := HK.out; omega
              obtain ⟨y, hy⟩ : ∃ y, N[i]? = some y := ⟨_, List.getElem?_eq_getElem hjl⟩
              have cy : w'.cell? ⟨w1.heap.size, i, none⟩ = some (.string y) := by rw [cell_of_heap hb2 i]; simp [hy]
              have HY : Hid (N[i]? = some y) := hy
              clear hy
              by_cases ho : x = one_
              · have HO : Hid (x = one_) := ho
                unfold one_ at ho
                subst ho
                go_wp2
                go_round
                case rel => exact ⟨i + 1, by simp, by omega, by omega, HM.out.trans (meet_on HX.out HY.out (.inl HO.out) HR.out)⟩
                case measure => simp; omega
              · have e5 : (x.toList == [43]) = false := bytes_lit ho
                by_cases hxy : x = y
                · subst hxy
                  go_wp2
                  go_round
                  case rel => exact ⟨i + 1, by simp, by omega, by omega, HM.out.trans (meet_on HX.out HY.out (.inr rfl) HR.out)⟩
                  case measure => simp; omega
                · have e6 := bytes_ne hxy
                  go_wp2
                  go_ret
                  exact ⟨_, rfl, by rw [HM.out, meet_no HX.out HY.out ho hxy HR.out]; rfl, hc12⟩
            · have hge : decide ((nN : Int) ≤ (i : Int)) = true := by simp; omega
              go_wp2
              go_ret
              exact ⟨_, rfl, by rw [HM.out, meet_end HX.out (by have := HK.out; omega) HR.out]; rfl, hc12⟩
        · have hlt : decide ((i : Int) < (nF : Int)) = false := by simpa using hi
          go_wp2
          go_ret
          refine ⟨_, rfl, ?_, hc12⟩
          have h9 := HK.out
          rw [HM.out, meet_nil (by omega)]
          show Value.bool ((nF : Int) == (nN : Int)) = _
          refine congrArg Value.bool ?_
          rw [Bool.eq_iff_iff]
          simp
          omega

end Go.Proofs.YticfeikmdfijiaaDoor
