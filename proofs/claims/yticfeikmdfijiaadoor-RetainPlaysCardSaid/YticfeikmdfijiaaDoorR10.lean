/- The document's Levels, meets, Match. -/
import Derived.Test.YticfeikmdfijiaaDoorTopic
import Derived.Test.YticfeikmdfijiaaDoorSmatch
import Derived.Lib.IndexBytes
namespace Go.Proofs.YticfeikmdfijiaaDoor
open Go Go.RowKit

/-! ### 1. A topic, cut at its slashes -/
def pieces : List UInt8 → List UInt8 → List (List UInt8)
  | [], cur => [cur]
  | b :: l, cur => if b = 47 then cur :: pieces l [] else pieces l (cur ++ [b])

theorem pieces_split : ∀ (l cur : List UInt8), ∃ x r, Lib.splitK [47] 0 (Lib.count l [47]) l = x :: r ∧ pieces l cur = (cur ++ x) :: r
  | [], cur => ⟨[], [], by simp [Lib.count_one, Lib.splitK], by simp [pieces]⟩
  | b :: l, cur => by
    by_cases h : b = 47
    · subst h
      obtain ⟨x, r, h1, h2⟩ := pieces_split l []
      refine ⟨[], x :: r, ?_, by simp [pieces, h2]⟩
      have hi : Lib.index (47 :: l) [47] = 0 := by rw [Lib.index]; simp [List.isPrefixOf]
      rw [Lib.count_cons_eq, Nat.add_comm, Lib.splitK, hi]
      simp [h1]
    · obtain ⟨x, r, h1, h2⟩ := pieces_split l (cur ++ [b])
      refine ⟨b :: x, r, ?_, by simp [pieces, h, h2]⟩
      rw [Lib.count_cons_ne b 47 l h]
      cases hk : Lib.count l [47] with
      | zero =>
        rw [hk] at h1
        cases h1
        rfl
      | succ k =>
        rw [hk] at h1
        have hm : Lib.index l [47] ≠ -1 := fun e => by rw [Lib.count_miss e] at hk; cases hk
        have hge := Lib.index_ge l [47]
        obtain ⟨j, hj⟩ : ∃ j : Nat, Lib.index l [47] = j := ⟨(Lib.index l [47]).toNat, by omega⟩
        have hp : ([47] : List UInt8).isPrefixOf (b :: l) = false := by simp [List.isPrefixOf, Ne.symm h]
        have hix : Lib.index (b :: l) [47] = ((j + 1 : Nat) : Int) := by
          rw [Lib.index, hp, hj]
          have : ¬ ((j : Int) == -1) = true := by simp
          rw [if_neg (by simp), if_neg this]
          rfl
        have n1 : ¬ ((j : Int) == -1) = true := by simp
        have n2 : ¬ (((j + 1 : Nat) : Int) == -1) = true := by simp; omega
        rw [Lib.splitK, hj, if_neg n1] at h1
        rw [Lib.splitK, hix, if_neg n2]
        cases h1
        simp [Int.toNat_natCast]

theorem levels_pieces (s : ByteArray) : (levels s).map (·.data.toList) = pieces s.data.toList [] := by
  obtain ⟨x, r, h1, h2⟩ := pieces_split s.data.toList []
  rw [h2, levels, Lib.splitB_data]
  exact h1

theorem bytes_map_inj {a b : List ByteArray} (h : a.map (·.data.toList) = b.map (·.data.toList)) : a = b := by
  induction a generalizing b with
  | nil => cases b <;> simp_all
  | cons x a ih =>
    cases b with
    | nil => simp at h
    | cons y b =>
      simp only [List.map_cons, List.cons.injEq] at h
      rw [ih h.2, ByteArray.ext (Array.toList_inj.mp h.1)]

theorem elStr : ElemTy Tryd.prog 39 9 (.string ⟨#[]⟩) 1 16 := ⟨Tryd.underlying39, by kernel_rfl, rfl, by decide⟩

theorem str_at {s : ByteArray} {i : Nat} (h : i < s.size) : s.data.toList.drop i = s[i] :: s.data.toList.drop (i + 1) := by
  rw [List.drop_eq_getElem_cons (by simpa using h)]
  rfl
theorem str_bit {s : ByteArray} {i : Nat} (h : i < s.size) : (s.extract i (i + 1)).data.toList = [s[i]] := by
  have e : (s.extract i (i + 1)).data.toList = (s.data.toList.drop i).take 1 := by
    rw [Lib.extract_data]
    simp
  rw [e, str_at h]
  rfl

set_option maxHeartbeats 4000000 in
theorem levels10_call (w : World) (s : ByteArray) (hs : s.size ≤ 100000) :
    Gives Tryd.prog 88 #[.string s] w fun r w' => w'.ownsRow w.heap.size 9 1 r (levels s).length ((levels s).map Value.string) ∧ Ch [] w w' := by
  have HL : Hid ((levels s).map (·.data.toList) = pieces s.data.toList []) := levels_pieces s
  go_enter Tryd.func88, Tryd.ntmps88
  go_wp2_with fail
  go_loopw [3, 4, 5] (fun v3 v4 v5 wr => ∃ (i : Nat) (D : List ByteArray) (cur : ByteArray) (o1 : Option Addr) (o2 : Nat), v5 = .int .i64 i ∧ v4 = .string cur ∧ v3 = .slice o1 D.length o2 ∧ i ≤ s.size ∧ D.length ≤ i ∧ cur.size ≤ i ∧
      Hid ((levels s).map (·.data.toList) = D.map (·.data.toList) ++ pieces (s.data.toList.drop i) cur.data.toList) ∧
      wr.ownsRow w.heap.size 9 1 (.slice o1 D.length o2) D.length (D.map Value.string) ∧ Ch [] w wr)
    (fun _ _ v5 _ => match v5 with | .int _ x => s.size - x.toNat | _ => 0)
  case atStart => exact ⟨0, [], ⟨#[]⟩, some ⟨w.heap.size, 0, none⟩, 0, rfl, rfl, rfl, Nat.zero_le _, Nat.zero_le _, Nat.zero_le _, HL, ⟨rfl, .inr ⟨w.heap.size, 0, #[], rfl, Nat.le_refl _, heap_new w _, by simp, by decide, rfl, rfl⟩⟩, (Ch.refl [] w).alloc _⟩
  case round =>
    obtain ⟨i, D, cur, o1, o2, rfl, rfl, hvo, hin, hDi, hci, hP, hrow, hcr⟩ := hrel
    obtain ⟨k, hk⟩ : ∃ k, k = D.length := ⟨_, rfl⟩
    rw [← hk] at hvo hrow hDi
    subst hvo
    have HK : Hid (k = D.length) := hk
    clear hk HL
    have q1 : k + 1 ≤ maxLen := le_maxLen (by omega)
    have q2 : (k + 1) * 16 ≤ 140737488355328 := by omega
    have q4 : ∀ u ∈ ([.string cur] : List Value), u.oneCell' = true := by simp [Value.oneCell']
    by_cases hi : i < s.size
    · have hlt : decide ((i : Int) < (s.size : Int)) = true := by simpa using hi
      have HA : Hid (s.data.toList.drop i = s[i] :: s.data.toList.drop (i + 1)) := str_at hi
      have HB : Hid ((s.extract i (i + 1)).data.toList = [s[i]]) := str_bit hi
      by_cases hb : s[i] = 47
      · have hbe : ((s[i].toNat : Int) == 47) = true := by rw [hb]; rfl
        have HE : Hid (s[i] = 47) := hb
        clear hb
        go_upto_region 7 with fail
        have hxs := sl_new wr [.string cur] 9 1 1 rfl (le_maxLen (by omega))
        have hcA := (Ch.refl [] wr).alloc (Obj.cells [.string cur].toArray 9)
        have hrA := row_keep hrow hcA (by simp)
        have q3 : w.heap.size ≤ _ := Nat.le_trans hcr.size hcA.size
        go_wp2_with (at_builtin; refine wl_app rfl (.tmp 17) (.tmp 19) elStr rfl hrA rfl hxs rfl q4 q1 q2 q3 ?_; intro v' w7 hr7 hg7 hnil7 hor7; obtain ⟨e1, e2, rfl⟩ := row_shape hr7)
        refine ⟨⟨i + 1, D ++ [cur], ⟨#[]⟩, e1, e2, by simp, rfl, by simp [← HK.out], by omega, by simp [← HK.out]; omega, Nat.zero_le _, ?_, ?_, (hcr.thenNil hcA).trans (Ch.ofGrown hg7) (fun b hb => .inr (by have := (ownBlock_lt hrA (by simpa using hb)).1; omega))⟩, by simp; omega⟩
        · show _ = _
          rw [hP.out, HA.out, pieces, if_pos HE.out]
          simp
        · simpa [← HK.out] using hr7
      · have hbe : ((s[i].toNat : Int) == 47) = false := by
          rw [beq_eq_false_iff_ne]
          intro e
          exact hb (UInt8.toNat_inj.1 (by have : s[i].toNat = 47 := by omega
                                          simpa using this))
        have HE : Hid (¬ s[i] = 47) := hb
        clear hb
        have j0 : ¬ 9223372036854775807 < cur.size + (min (i + 1) s.size - i) := by omega
        have j1 : ((i : Int) + 1 ≤ (s.size : Int)) := by omega
        have j2 : (0 : Int) ≤ (i : Int) + 1 := by omega
        have j3 : ((i : Int) ≤ (i : Int) + 1) := by omega
        go_wp2
        refine ⟨⟨i + 1, D, cur ++ s.extract i (i + 1), o1, o2, by simp, by simp, by simp [← HK.out], by omega, by rw [← HK.out]; omega, by simp; omega, ?_, by rw [← HK.out]; exact hrow, hcr⟩, by simp; omega⟩
        show _ = _
        rw [hP.out, HA.out, pieces, if_neg HE.out]
        have e9 : (cur ++ s.extract i (i + 1)).data.toList = cur.data.toList ++ [s[i]] := by rw [← HB.out]; simp
        rw [e9]
    · have hlt : decide ((i : Int) < (s.size : Int)) = false := by simpa using hi
      have HZ : Hid (levels s = D ++ [cur]) := by
        refine bytes_map_inj ?_
        rw [hP.out, List.drop_eq_nil_of_le (by simp; omega)]
        simp [pieces]
      go_upto_region 10 with fail
      have hxs := sl_new wr [.string cur] 9 1 1 rfl (le_maxLen (by omega))
      have hcA := (Ch.refl [] wr).alloc (Obj.cells [.string cur].toArray 9)
      have hrA := row_keep hrow hcA (by simp)
      have q3 : w.heap.size ≤ _ := Nat.le_trans hcr.size hcA.size
      go_wp2_with (at_builtin; refine wl_app rfl (.tmp 28) (.tmp 30) elStr rfl hrA rfl hxs rfl q4 q1 q2 q3 ?_; intro v' w7 hr7 hg7 hnil7 hor7)
      go_ret
      refine ⟨_, rfl, ?_, (hcr.thenNil hcA).trans (Ch.ofGrown hg7) (fun b hb => .inr (by have := (ownBlock_lt hrA (by simpa using hb)).1; omega))⟩
      rw [HZ.out]
      simpa [← HK.out] using hr7

/-! ### 2. Do they meet? -/
/-- A row of strings, read. -/
theorem strRow {w : World} {base n : Nat} {v : Value} {F : List ByteArray} (h : w.ownsRow base 9 1 v n (F.map Value.string)) (hp : 0 < F.length) :
    ∃ g cap, v = .slice (some ⟨g, 0, none⟩) n cap ∧ n = F.length ∧ ∀ i x, F[i]? = some x → w.cell? ⟨g, i, none⟩ = some (.string x) := by
  have hl := h.1
  simp only [List.length_map, Nat.mul_one] at hl
  rcases h.2 with ⟨rfl, e⟩ | ⟨g, cap, cur, rfl, hb, hg, hnc, hcm, hcs, htake⟩
  · omega
  · refine ⟨g, cap, rfl, hl.symm, fun i x hx => ?_⟩
    simpa [Addr.add_lit] using h.cells (g := g) rfl i (.string x) (by simp [hx])

theorem meets_call (w : World) (v1 v2 : Value) (F N : List ByteArray) (B1 B2 : Nat) (h1 : w.ownsRow B1 9 1 v1 F.length (F.map Value.string)) (h2 : w.ownsRow B2 9 1 v2 N.length (N.map Value.string)) (p1 : 0 < F.length) (p2 : 0 < N.length) (l1 : F.length ≤ 100001) (l2 : N.length ≤ 100001) :
    Gives Tryd.prog 89 #[v1, v2, .int .i64 0] w fun r w' => r = .bool (meetL F N) ∧ Ch [] w w' := by
  obtain ⟨gF, cF, rfl, -, kF⟩ := strRow h1 p1
  obtain ⟨gN, cN, rfl, -, kN⟩ := strRow h2 p2
  obtain ⟨nF, hnF⟩ : ∃ nF, nF = F.length := ⟨_, rfl⟩
  obtain ⟨nN, hnN⟩ : ∃ nN, nN = N.length := ⟨_, rfl⟩
  rw [← hnF] at p1 l1
  rw [← hnN] at p2 l2
  rw [← hnF, ← hnN]
  have HF : Hid (∀ i x, F[i]? = some x → w.cell? ⟨gF, i, none⟩ = some (.string x)) := kF
  have HN : Hid (∀ i x, N[i]? = some x → w.cell? ⟨gN, i, none⟩ = some (.string x)) := kN
  have HK : Hid (nF = F.length ∧ nN = N.length) := ⟨hnF, hnN⟩
  clear hnF hnN kF kN h1 h2
  go_enter Tryd.func89, Tryd.ntmps89
  go_wp2_with fail
  go_loopw [7] (fun v7 wr => ∃ i : Nat, v7 = .int .i64 i ∧ i ≤ nF ∧ i ≤ nN ∧ Hid (meetL F N = meetL (F.drop i) (N.drop i)) ∧ Ch [] w wr) (fun v7 _ => match v7 with | .int _ x => nF - x.toNat | _ => 0)
  case atStart => exact ⟨0, rfl, by omega, by omega, rfl, Ch.refl _ _⟩
  case round =>
    obtain ⟨i, rfl, hiF, hiN, HM, hcr⟩ := hrel
    by_cases hi : i < nF
    · have hlt : decide ((i : Int) < (nF : Int)) = true := by simpa using hi
      have hil : i < F.length := by have := HK.out; omega
      obtain ⟨x, hx⟩ : ∃ x, F[i]? = some x := ⟨_, List.getElem?_eq_getElem hil⟩
      have cx := hcr.cell (HF.out i x hx) (by simp)
      have HX : Hid (F[i]? = some x) := hx
      have hw1 : IntKind.i64.wrap ((nF : Int) - 1) = (nF : Int) - 1 := by rw [IntKind.wrap_i64]; omega
      clear hx
      by_cases hrl : x = rest_ ∧ i + 1 = nF
      · obtain ⟨hr, hl⟩ := hrl
        have hlast : ((i : Int) == (nF : Int) - 1) = true := by simp; omega
        have HR : Hid (x = rest_) := hr
        have ht : (x.toList == [35]) = true := by rw [hr, ByteArray.toList_eq]; rfl
        clear hr
        go_wp2
        go_ret
        exact ⟨_, rfl, by rw [HM.out, meet_last HX.out (by have := HK.out; omega) HR.out]; rfl, hcr⟩
      · have HR : Hid (¬ (x = rest_ ∧ F.length = i + 1)) := fun h => hrl ⟨h.1, by have := HK.out; omega⟩
        have htest : (x.toList == [35]) = false ∨ (x.toList == [35]) = true ∧ ((i : Int) == (nF : Int) - 1) = false := by
          by_cases hr : x = rest_
          · refine .inr ⟨by rw [hr, ByteArray.toList_eq]; rfl, ?_⟩
            have : ¬ i + 1 = nF := fun e => hrl ⟨hr, e⟩
            simp
            omega
          · exact .inl (bytes_lit hr)
        clear hrl
        by_cases hj : i < nN
        · have hge : decide ((i : Int) ≥ (nN : Int)) = false := by simp; omega
          have hge' : decide ((nN : Int) ≤ (i : Int)) = false := by simp; omega
          have hjl : i < N.length := by have := HK.out; omega
          obtain ⟨y, hy⟩ : ∃ y, N[i]? = some y := ⟨_, List.getElem?_eq_getElem hjl⟩
          have cy := hcr.cell (HN.out i y hy) (by simp)
          have HY : Hid (N[i]? = some y) := hy
          clear hy
          by_cases ho : x = one_ ∨ x = y
          · have HO : Hid (x = one_ ∨ x = y) := ho
            have htest2 : ((x.toList == [43]) = true ∧ (x.toList != [43]) = false) ∨ ((x.toList == [43]) = false ∧ (x.toList != [43]) = true) ∧ ((x.toList == y.toList) = true ∧ (x.toList != y.toList) = false) := by
              by_cases h1 : x = one_
              · have e : (x.toList == [43]) = true := by rw [h1, ByteArray.toList_eq]; rfl
                exact .inl ⟨e, by simp [bne, e]⟩
              · have e : (x.toList == [43]) = false := bytes_lit h1
                rcases ho with h2 | h2
                · exact absurd h2 h1
                · subst h2
                  exact .inr ⟨⟨e, by simp [bne, e]⟩, by simp, by simp⟩
            clear ho
            rcases htest with ht | ⟨ht, ht2⟩
            all_goals
              rcases htest2 with ⟨t1, t2⟩ | ⟨⟨t1, t2⟩, t3, t4⟩
              all_goals
                go_upto_region 8 with fail
                refine wp_region_flow (Ch [] wr) 15 [(true, 0), (true, 1), (true, 2), (true, 3), (true, 4), (true, 5), (true, 6), (true, 7), (true, 8), (true, 9), (true, 10), (true, 11), (true, 12), (true, 13), (true, 14)] (by kernel_rfl) (by kernel_rfl) (Ch.refl [] wr).drew ?_
                intro hS hne
                have f0 : ∀ u : Wd (Ch [] wr), u.v.cell? ⟨gF, i, none⟩ = some (.string x) := fun u => u.p.cell cx (by simp)
                have f1 : ∀ u : Wd (Ch [] wr), u.v.cell? ⟨gN, i, none⟩ = some (.string y) := fun u => u.p.cell cy (by simp)
                repeat (refine flow_q (by rfl) ?_; go_big_quiet_step (fail); refine flow_n ?_)
                refine flow_t ?_
                clear f0 f1 hne
                simp only [List.drop_succ_cons, List.drop_zero]
                go_wp2
                refine shut0_normal ?_
                simp only [Exit.then, Exit.inBlock]
                go_wp2
                refine ⟨⟨i + 1, by simp, by omega, by omega, HM.out.trans (meet_on HX.out HY.out HO.out HR.out), hcr.drew⟩, by simp; omega⟩
          · have HO : Hid (¬ (x = one_ ∨ x = y)) := ho
            have t1 : (x.toList == [43]) = false := bytes_lit (fun e => ho (.inl e))
            have t2 : (x.toList != [43]) = true := by simp [bne, t1]
            have t3 := bytes_ne (fun e => ho (.inr e))
            have t4 : (x.toList != y.toList) = true := by simp [bne, t3]
            clear ho
            rcases htest with ht | ⟨ht, ht2⟩
            all_goals
              go_upto_region 8 with fail
              refine wp_region_flow (Ch [] wr) 15 [(true, 0), (true, 1), (true, 2), (true, 3), (true, 4), (true, 5), (true, 6), (true, 7), (true, 8), (true, 9), (true, 10), (true, 11), (true, 12), (true, 13), (true, 14)] (by kernel_rfl) (by kernel_rfl) (Ch.refl [] wr).drew ?_
              intro hS hne
              have f0 : ∀ u : Wd (Ch [] wr), u.v.cell? ⟨gF, i, none⟩ = some (.string x) := fun u => u.p.cell cx (by simp)
              have f1 : ∀ u : Wd (Ch [] wr), u.v.cell? ⟨gN, i, none⟩ = some (.string y) := fun u => u.p.cell cy (by simp)
              repeat (refine flow_q (by rfl) ?_; go_big_quiet_step (fail); refine flow_n ?_)
              refine flow_t ?_
              clear f0 f1 hne
              simp only [List.drop_succ_cons, List.drop_zero]
              go_wp2
              refine shut0_normal ?_
              simp only [Exit.then, Exit.inBlock]
              go_wp2
              go_ret
              exact ⟨_, rfl, by rw [HM.out, meet_no HX.out HY.out (fun e => HO.out (.inl e)) (fun e => HO.out (.inr e)) HR.out]; rfl, hcr.drew⟩
        · have hge' : decide ((nN : Int) ≤ (i : Int)) = true := by simp; omega
          rcases htest with ht | ⟨ht, ht2⟩
          all_goals
            go_wp2
            go_ret
            exact ⟨_, rfl, by rw [HM.out, meet_end HX.out (by have := HK.out; omega) HR.out]; rfl, hcr⟩
    · have hlt : decide ((i : Int) < (nF : Int)) = false := by simpa using hi
      go_wp2
      go_ret
      refine ⟨_, rfl, ?_, hcr⟩
      have h9 := HK.out
      rw [HM.out, meet_nil (by omega)]
      show Value.bool ((nF : Int) == (nN : Int)) = _
      refine congrArg Value.bool ?_
      rw [Bool.eq_iff_iff]
      simp
      omega

theorem hidden_test (n : ByteArray) : (hidden n = false ∧ ((n.toList == []) = true ∧ (n.toList != []) = false)) ∨
    ((n.toList == []) = false ∧ (n.toList != []) = true ∧ ∃ h : 0 < n.size, (((n[0]'h).toNat : Int) == 36) = hidden n) := by
  obtain ⟨⟨l⟩⟩ := n
  cases l with
  | nil => exact .inl ⟨rfl, by rw [ByteArray.toList_eq]; exact ⟨rfl, rfl⟩⟩
  | cons b l =>
    refine .inr ⟨by rw [ByteArray.toList_eq]; rfl, by rw [ByteArray.toList_eq]; rfl, by show 0 < (b :: l).length; simp, ?_⟩
    show ((b.toNat : Int) == 36) = (([36] : List UInt8).isPrefixOf (b :: l))
    simp only [List.isPrefixOf, Bool.and_true]
    rw [Bool.eq_iff_iff, beq_iff_eq, beq_iff_eq]
    constructor
    · intro e
      exact (UInt8.toNat_inj.1 (by have : b.toNat = 36 := by omega
                                   simpa using this)).symm
    · rintro rfl
      rfl

set_option maxHeartbeats 4000000 in
theorem rmatch_call (w : World) (f n : ByteArray) (hf : f.size ≤ 100000) (hn : n.size ≤ 100000) :
    Gives Tryd.prog 72 #[.string f, .string n] w fun r w' => r = .bool (matchS f n) ∧ Ch [] w w' := by
  have h1 := levels10_call w f hf
  have h2 : ∀ w', _ := fun w' => levels10_call w' n hn
  have h3 : ∀ w' v1 v2 B1 B2, _ → _ → _ := fun w' v1 v2 B1 B2 r1 r2 => meets_call w' v1 v2 (levels f) (levels n) B1 B2 r1 r2 (levels_pos f) (levels_pos n) (by have := levels_le f; omega) (by have := levels_le n; omega)
  have HS := Lib.hid (And.intro h2 h3)
  have HP := Lib.hid (levels_pos f)
  clear h2 h3
  obtain ⟨x0, F', hF⟩ : ∃ x0 F', levels f = x0 :: F' := by
    have lf := levels_pos f
    cases hl : levels f with
    | nil => rw [hl] at lf; simp at lf
    | cons x F => exact ⟨x, F, rfl⟩
  have hx0 : (levels f)[0]? = some x0 := by rw [hF]; rfl
  have HM : Hid (matchS f n = if hidden n ∧ (x0 = one_ ∨ x0 = rest_) then false else meetL (levels f) (levels n)) := by
    show _ = _
    unfold matchS
    rw [hF]
    simp
  have HX := Lib.hid hx0
  clear hx0 hF F'
  obtain ⟨m, hm⟩ : ∃ m, m = (levels f).length := ⟨_, rfl⟩
  rw [← hm] at h1
  have HMM : Hid (m = (levels f).length) := hm
  have hm0 : 0 < m := by rw [hm]; exact levels_pos f
  have hm0' : decide (0 < m) = true := by simpa using hm0
  clear hm
  by_cases hc : hidden n = true ∧ (x0 = one_ ∨ x0 = rest_)
  · have hres : matchS f n = false := by rw [HM.out, if_pos hc]
    rw [hres]
    obtain ⟨hh, hx⟩ := hc
    rcases hidden_test n with ⟨h, _⟩ | ⟨n1, n2, hpos, n3⟩
    · rw [hh] at h; cases h
    · rw [hh] at n3
      have HE : (x0.toList == [43]) = true ∨ (x0.toList == [43]) = false ∧ (x0.toList == [35]) = true := by
        rcases hx with hx | hx
        · exact .inl (by rw [hx, ByteArray.toList_eq]; rfl)
        · exact .inr ⟨by rw [hx, ByteArray.toList_eq]; rfl, by rw [hx, ByteArray.toList_eq]; rfl⟩
      clear hh hx hres HM
      rcases HE with t1 | ⟨t1, t2⟩
      all_goals
        go_enter Tryd.func72, Tryd.ntmps72
        go_wp2_with fail
        refine Calls.mono h1 ?_
        rintro e w1 ⟨v, rfl, hr1, hk1⟩
        obtain ⟨g, cap, rfl, -, hcell⟩ := strRow hr1 HP.out
        have c0 := hcell 0 x0 HX.out
        clear hcell h1
        go_wp2_with fail
        go_ret
        exact ⟨_, rfl, rfl, hk1⟩
  · have HR : Hid (matchS f n = meetL (levels f) (levels n)) := by
      show _ = _
      rw [HM.out, if_neg hc]
    have hcase : ((n.toList == []) = true ∧ (n.toList != []) = false) ∨ ((n.toList == []) = false ∧ (n.toList != []) = true ∧ ∃ h : 0 < n.size, (((n[0]'h).toNat : Int) == 36) = false) ∨
        ((n.toList == []) = false ∧ (n.toList != []) = true ∧ (∃ h : 0 < n.size, (((n[0]'h).toNat : Int) == 36) = true) ∧ (x0.toList == [43]) = false ∧ (x0.toList == [35]) = false) := by
      rcases hidden_test n with ⟨_, h⟩ | ⟨n1, n2, hpos, n3⟩
      · exact .inl h
      · cases hh : hidden n with
        | false => rw [hh] at n3; exact .inr (.inl ⟨n1, n2, hpos, n3⟩)
        | true =>
          rw [hh] at n3
          exact .inr (.inr ⟨n1, n2, ⟨hpos, n3⟩, bytes_lit (fun e => hc ⟨hh, .inl e⟩), bytes_lit (fun e => hc ⟨hh, .inr e⟩)⟩)
    clear hc HM
    rcases hcase with ⟨n1, n2⟩ | ⟨n1, n2, hpos, n3⟩ | ⟨n1, n2, ⟨hpos, n3⟩, t1, t2⟩
    all_goals
      go_enter Tryd.func72, Tryd.ntmps72
      go_wp2_with fail
      refine Calls.mono h1 ?_
      rintro e w1 ⟨v, rfl, hr1, hk1⟩
      obtain ⟨g, cap, rfl, -, hcell⟩ := strRow hr1 HP.out
      have c0 := hcell 0 x0 HX.out
      clear hcell h1
      go_wp2_with fail
      refine Calls.mono (HS.out.1 _) ?_
      rintro e w2 ⟨v2, rfl, hr2, hk2⟩
      clear c0
      go_wp2_with fail
      refine Calls.mono (HS.out.2 _ _ _ _ _ (by rw [← HMM.out]; exact row_keep hr1 hk2 (by simp)) hr2) ?_
      rintro e w3 ⟨v3, rfl, rfl, hk3⟩
      go_wp2_with fail
      go_ret
      exact ⟨_, rfl, by rw [HR.out]; rfl, (hk1.thenNil hk2).thenNil hk3⟩

end Go.Proofs.YticfeikmdfijiaaDoor
