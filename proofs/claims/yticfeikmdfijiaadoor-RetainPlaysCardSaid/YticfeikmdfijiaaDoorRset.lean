/- The document's Set. -/
import Derived.Test.YticfeikmdfijiaaDoorRefL
import Derived.Sort.Walk0
namespace Go.Proofs.YticfeikmdfijiaaDoor
open Go Go.RowKit

def ltK (a b : ByteArray) : Bool := Op.bytesLess a.toList b.toList
/-- A message at its place. -/
def ins (x : MsgR × Value) : List (MsgR × Value) → List (MsgR × Value)
  | [] => [x]
  | y :: l => if ltK x.1.topic y.1.topic = true then x :: y :: l else y :: ins x l
theorem ins_mem {x q : MsgR × Value} {l : List (MsgR × Value)} (h : q ∈ ins x l) : q = x ∨ q ∈ l := by
  induction l with
  | nil => simpa [ins] using h
  | cons y l ih =>
    unfold ins at h
    split at h
    · simpa using h
    · rcases List.mem_cons.1 h with rfl | h
      · simp
      · rcases ih h with h | h
        · exact .inl h
        · exact .inr (List.mem_cons_of_mem _ h)
theorem ins_length (x : MsgR × Value) (l : List (MsgR × Value)) : (ins x l).length = l.length + 1 := by
  induction l with
  | nil => rfl
  | cons y l ih =>
    unfold ins
    split
    · rfl
    · simp [ih]
def setR (R : List (MsgR × Value)) (x : MsgR × Value) (most : Int) : List (MsgR × Value) × Bool :=
  if x.1.payload = ⟨#[]⟩ then (R.filter (otherT x.1.topic), true)
  else if (R.filter (otherT x.1.topic)).length = R.length ∧ (R.length : Int) ≥ most then (R, false)
  else (ins x (R.filter (otherT x.1.topic)), true)

set_option maxHeartbeats 1000000 in
theorem rset_call (w : World) (v : Value) (R : List (MsgR × Value)) (m : MsgR) (pv : Value) (most : Int) (h : RefL w v R) (hl : R.length ≤ 100000) (hx : w.ownsRow 0 150 4 pv m.props.length (m.props.flatMap PropR.cells)) :
    Gives Tryd.prog 42 #[v, m.v pv, .int .i64 most] w fun r w' => ∃ v', r = .tuple #[v', .bool (setR R (m, pv) most).2] ∧ RefL w' v' (setR R (m, pv) most).1 ∧ Ch [] w w' := by
  obtain ⟨mfr, mat, mqos, mret, mps, mtp, mpy⟩ := m
  simp only at hx
  obtain ⟨m1, m3, hpv⟩ := row_shape hx
  obtain ⟨m2, hm2⟩ : ∃ m2, m2 = mps.length := ⟨_, rfl⟩
  rw [← hm2] at hpv
  subst hpv
  have HX := Lib.hid hx
  clear hx
  have HM2 := Lib.hid hm2
  clear hm2
  obtain ⟨n, hn⟩ : ∃ n, n = R.length := ⟨_, rfl⟩
  obtain ⟨ao, cap, hv⟩ := row_shape h.row
  rw [← hn] at hv hl
  subst hv
  have HN : Hid (n = R.length) := hn
  clear hn
  simp only [MsgR.v]
  have hc1 : Ch [] w (w.alloc (.cells #[.string mfr, .int .i64 mat, .int .u8 mqos, .bool mret, .slice m1 m2 m3, .string mtp, .string mpy] 84)) := (Ch.refl [] w).alloc _
  have hbM := heap_new w (.cells #[.string mfr, .int .i64 mat, .int .u8 mqos, .bool mret, .slice m1 m2 m3, .string mtp, .string mpy] 84)
  have hwo : ∀ w', Ch [] w w' → _ := fun w' (hc : Ch [] w w') => without_call w' _ R mtp (h.keep hc) (by rw [← HN.out]; exact hl)
  have HR := Lib.hid h
  clear h
  go_enter Tryd.func42, Tryd.ntmps42
  go_upto_region 1 with fail
  generalize w.alloc (.cells #[.string mfr, .int .i64 mat, .int .u8 mqos, .bool mret, .slice m1 m2 m3, .string mtp, .string mpy] 84) = w1 at hc1 hbM ⊢
  obtain ⟨c0, c1, c2, c3, c4, c5, c6⟩ := cells7 hbM
  have hwo1 := hwo w1 hc1
  clear hwo
  go_wp2_with fail
  refine Calls.mono hwo1 ?_
  rintro e w2 ⟨vk, rfl, hk, hk2⟩
  clear hwo1 c0 c1 c2 c3 c4 c5 c6
  replace hbM := hk2.keep hbM (by simp)
  have hc2 := hc1.thenNil hk2
  clear hk2 hc1
  obtain ⟨K, hK⟩ : ∃ K, K = R.filter (otherT mtp) := ⟨_, rfl⟩
  rw [← hK] at hk
  have HS : Hid (setR R (⟨mfr, mat, mqos, mret, mps, mtp, mpy⟩, .slice m1 m2 m3) most = if mpy = ⟨#[]⟩ then (K, true) else if K.length = R.length ∧ (R.length : Int) ≥ most then (R, false) else (ins (⟨mfr, mat, mqos, mret, mps, mtp, mpy⟩, .slice m1 m2 m3) K, true)) := by
    show _ = _
    rw [hK]
    rfl
  have hKn : K.length ≤ n := by rw [hK, HN.out]; exact List.length_filter_le _ _
  clear hK
  obtain ⟨nk, hnk⟩ : ∃ nk, nk = K.length := ⟨_, rfl⟩
  obtain ⟨ko, kcap, hv⟩ := row_shape hk.row
  rw [← hnk] at hv hKn
  subst hv
  have HNK : Hid (nk = K.length) := hnk
  clear hnk
  obtain ⟨c0, c1, c2, c3, c4, c5, c6⟩ := cells7 hbM
  by_cases hpe : mpy = ⟨#[]⟩
  · have ht : (mpy.toList == []) = true := by rw [hpe, ByteArray.toList_eq]; rfl
    have hres := HS.out
    rw [if_pos hpe] at hres
    have HRES := Lib.hid hres
    clear hres hpe HS
    go_wp2_with fail
    go_ret2
    exact ⟨_, rfl, .slice ko nk kcap, by rw [HRES.out]; rfl, by rw [HRES.out]; exact hk, hc2⟩
  · have ht : (mpy.toList == []) = false := bytes_lit hpe
    by_cases hfull : nk = n ∧ (n : Int) ≥ most
    · have t1 : ((nk : Int) == (n : Int)) = true := by rw [hfull.1]; exact beq_self_eq_true _
      have t2 : decide (most ≤ (n : Int)) = true := decide_eq_true hfull.2
      have hres := HS.out
      rw [if_neg hpe, if_pos ⟨by rw [← HNK.out, ← HN.out]; exact hfull.1, by rw [← HN.out]; exact hfull.2⟩] at hres
      have HRES := Lib.hid hres
      obtain ⟨f1, f2⟩ := hfull
      clear hres hpe HS
      go_wp2_with fail
      go_ret2
      exact ⟨_, rfl, .slice ao n cap, by rw [HRES.out]; rfl, by rw [HRES.out]; exact HR.out.keep hc2, hc2⟩
    · have hres := HS.out
      rw [if_neg hpe, if_neg (by rw [← HNK.out, ← HN.out]; exact hfull)] at hres
      have HRES := Lib.hid hres
      have key : (¬ nk = n ∧ ((nk : Int) == (n : Int)) = false) ∨ (((nk : Int) == (n : Int)) = true ∧ ¬ (n : Int) ≥ most ∧ decide (most ≤ (n : Int)) = false) := by
        by_cases h1 : nk = n
        · exact .inr ⟨by rw [h1]; exact beq_self_eq_true _, fun h2 => hfull ⟨h1, h2⟩, decide_eq_false fun h2 => hfull ⟨h1, h2⟩⟩
        · exact .inl ⟨h1, by simp; omega⟩
      clear hres hpe hfull HS
      rcases key with ⟨t0, t1⟩ | ⟨t1, t0, t2⟩
      all_goals
        go_upto_region 8 with fail
        have hn2 : nk ≤ 100000 := by omega
        clear t0 t1 hKn c0 c1 c2 c3 c4 c5 c6
        have hc3 : Ch [] w2 (w2.alloc (.cells #[] 84)) := (Ch.refl [] w2).alloc _
        have hb3 := heap_new w2 (.cells #[] 84)
        generalize w2.alloc (.cells #[] 84) = w3 at hc3 hb3 ⊢
        go_wp2_with fail
        go_loopw [9, 10, 36] (fun v9 v10 v36 wr => ∃ (i : Nat) (d : Bool) (O : List (MsgR × Value)) (o1 : Option Addr) (o2 : Nat), v36 = .int .i64 i ∧ v10 = .bool d ∧ v9 = .slice o1 O.length o2 ∧ i ≤ nk ∧ O.length ≤ i + 1 ∧
            Hid (ins (⟨mfr, mat, mqos, mret, mps, mtp, mpy⟩, .slice m1 m2 m3) K = O ++ if d = true then K.drop i else ins (⟨mfr, mat, mqos, mret, mps, mtp, mpy⟩, .slice m1 m2 m3) (K.drop i)) ∧
            wr.ownsRow w2.heap.size 84 7 (.slice o1 O.length o2) O.length (O.flatMap fun p => p.1.cells p.2) ∧ Ch [] w2 wr ∧ Hid (d = false → O.length ≤ i))
          (fun _ _ v36 _ => match v36 with | .int _ x => nk - x.toNat | _ => 0)
        case atStart => exact ⟨0, false, [], some ⟨w2.heap.size, 0, none⟩, 0, rfl, rfl, rfl, by omega, by simp, rfl, ⟨rfl, .inr ⟨w2.heap.size, 0, #[], rfl, Nat.le_refl _, hb3, by simp, by decide, rfl, rfl⟩⟩, hc3, fun _ => Nat.le_refl _⟩
        case round =>
          obtain ⟨i, d, O, o1, o2, rfl, rfl, hvo, hin, hOi, hI, hrow, hcr, hd⟩ := hrel
          obtain ⟨k, hkk⟩ : ∃ k, k = O.length := ⟨_, rfl⟩
          rw [← hkk] at hvo hrow hOi hd
          subst hvo
          have HK : Hid (k = O.length) := hkk
          clear hkk
          have hbr := hcr.keep hbM (by simp)
          have qa1 : k + 1 ≤ maxLen := le_maxLen (by omega)
          have qa2 : (k + 1) * 88 ≤ 140737488355328 := by omega
          have qb1 : (k + 1) + 1 ≤ maxLen := le_maxLen (by omega)
          have qb2 : ((k + 1) + 1) * 88 ≤ 140737488355328 := Nat.le_trans (Nat.mul_le_mul_right 88 (show k + 1 + 1 ≤ 1000000 by omega)) (by decide)
          by_cases hi : i < nk
          · have hlt : decide ((i : Int) < (nk : Int)) = true := by simpa using hi
            have hil : i < K.length := by have := HNK.out; omega
            have hp : K[i]? = some K[i] := List.getElem?_eq_getElem hil
            obtain ⟨b, o, cap', g1, g3, hsv, hg, hA, e0, e1, e2, e3, e4, e5, e6⟩ := (hk.keep hcr).elem hp
            cases hsv
            have hdr : K.drop i = K[i] :: K.drop (i + 1) := List.drop_eq_getElem_cons hil
            generalize K[i] = q at hp hg hA e0 e1 e2 e3 e4 e5 e6 hdr
            obtain ⟨⟨fr, at_, qos, ret, ps, tp, py⟩, pq⟩ := q
            simp only at hg hA e0 e1 e2 e3 e4 e5 e6 hdr
            subst hg
            obtain ⟨g2, hg2⟩ : ∃ g2, g2 = ps.length := ⟨_, rfl⟩
            rw [← hg2] at e4 hdr
            have HD := Lib.hid hdr
            have HG2 : Hid (g2 = ps.length) := hg2
            clear hp hg2 hil hdr hA
            have hcB : Ch [] wr (wr.alloc (.cells #[.string fr, .int .i64 at_, .int .u8 qos, .bool ret, .slice g1 g2 g3, .string tp, .string py] 84)) := (Ch.refl [] wr).alloc _
            have hbB := heap_new wr (.cells #[.string fr, .int .i64 at_, .int .u8 qos, .bool ret, .slice g1 g2 g3, .string tp, .string py] 84)
            go_upto_region 11 with fail
            generalize wr.alloc (.cells #[.string fr, .int .i64 at_, .int .u8 qos, .bool ret, .slice g1 g2 g3, .string tp, .string py] 84) = w4 at hcB hbB ⊢
            have hbM4 := hcB.keep hbr (by simp)
            have hrow4 := row_keep hrow hcB (by simp)
            have hob : ∀ b, (Value.slice o1 k o2).ownBlock = some b → b < wr.heap.size := fun b hb => (ownBlock_lt hrow hb).2
            have hc4 := hcr.thenNil hcB
            clear hbr hrow e0 e1 e2 e3 e4 e5 e6
            obtain ⟨c0, c1, c2, c3, c4, c5, c6⟩ := cells7 hbM4
            obtain ⟨k0, k1, k2, k3, k4, k5, k6⟩ := cells7 hbB
            by_cases htest : d = false ∧ ltK mtp tp = true
            · obtain ⟨rfl, hlk⟩ := htest
              have HLK : Hid (ltK mtp tp = true) := hlk
              have hkl := hd.out rfl
              unfold ltK at hlk
              go_upto_region 12 with fail
              have hxs5 := sl_new w4 [.string mfr, .int .i64 mat, .int .u8 mqos, .bool mret, .slice m1 m2 m3, .string mtp, .string mpy] 84 7 1 rfl (le_maxLen (by omega))
              have hcA5 := (Ch.refl [] w4).alloc (Obj.cells [.string mfr, .int .i64 mat, .int .u8 mqos, .bool mret, .slice m1 m2 m3, .string mtp, .string mpy].toArray 84)
              have hrA5 := row_keep hrow4 hcA5 (by simp)
              have q35 : w2.heap.size ≤ _ := Nat.le_trans hc4.size hcA5.size
              have q45 : ∀ u ∈ ([.string mfr, .int .i64 mat, .int .u8 mqos, .bool mret, .slice m1 m2 m3, .string mtp, .string mpy] : List Value), u.oneCell' = true := by simp [Value.oneCell']
              go_upto_region 14 with (at_builtin; refine wl_app rfl (.tmp 49) (.tmp 51) elR12 rfl hrA5 rfl hxs5 rfl q45 qa1 qa2 q35 ?_; intro v' w5 hr5 hg5 hnil5 hor5; obtain ⟨e15, e25, rfl⟩ := row_shape hr5)
              have hc5 : Ch [] w2 w5 := (hc4.thenNil hcA5).trans (Ch.ofGrown hg5) (fun b hb => .inr (by have := (ownBlock_lt hrA5 (by simpa using hb)).1; omega))
              have hbB5 := (Ch.ofGrown hg5).keep (hcA5.keep hbB (by simp)) (by intro hm; have := hob _ (by simpa using hm); omega)
              clear hrow4 hrA5 hxs5 hcA5 hg5 hnil5 hor5 c0 c1 c2 c3 c4 c5 c6 k0 k1 k2 k3 k4 k5 k6 hbB hbM4
              obtain ⟨k0, k1, k2, k3, k4, k5, k6⟩ := cells7 hbB5
              have hxs8 := sl_new w5 [.string fr, .int .i64 at_, .int .u8 qos, .bool ret, .slice g1 g2 g3, .string tp, .string py] 84 7 1 rfl (le_maxLen (by omega))
              have hcA8 := (Ch.refl [] w5).alloc (Obj.cells [.string fr, .int .i64 at_, .int .u8 qos, .bool ret, .slice g1 g2 g3, .string tp, .string py].toArray 84)
              have hrA8 := row_keep hr5 hcA8 (by simp)
              have q38 : w2.heap.size ≤ _ := Nat.le_trans hc5.size hcA8.size
              have q48 : ∀ u ∈ ([.string fr, .int .i64 at_, .int .u8 qos, .bool ret, .slice g1 g2 g3, .string tp, .string py] : List Value), u.oneCell' = true := by simp [Value.oneCell']
              go_wp2_with (at_builtin; refine wl_app rfl (.tmp 53) (.tmp 55) elR12 rfl hrA8 rfl hxs8 rfl q48 qb1 qb2 q38 ?_; intro v' w8 hr8 hg8 hnil8 hor8; obtain ⟨e18, e28, rfl⟩ := row_shape hr8)
              refine ⟨⟨i + 1, true, (O ++ [(⟨mfr, mat, mqos, mret, mps, mtp, mpy⟩, .slice m1 m2 m3)]) ++ [(⟨fr, at_, qos, ret, ps, tp, py⟩, .slice g1 g2 g3)], e18, e28, by simp, rfl, by simp [← HK.out], by omega, by simp only [List.length_append, List.length_cons, List.length_nil, ← HK.out]; omega, ?_, by simpa [← HK.out, MsgR.cells] using hr8, (hc5.thenNil hcA8).trans (Ch.ofGrown hg8) (fun b hb => .inr (by have := (ownBlock_lt hrA8 (by simpa using hb)).1; omega)), fun h => by cases h⟩, by simp; omega⟩
              show _ = _
              have h9 := hI.out
              rw [if_neg (by decide), HD.out, ins, if_pos HLK.out] at h9
              rw [h9, if_pos rfl]
              simp
            · have ht2 : d = true ∨ (d = false ∧ Op.bytesLess mtp.toList tp.toList = false) := by
                cases hd' : d with
                | true => exact .inl rfl
                | false => exact .inr ⟨rfl, by simpa [hd', ltK] using htest⟩
              have HT : Hid (¬ (d = false ∧ ltK mtp tp = true)) := htest
              have hI2 : Hid (ins (⟨mfr, mat, mqos, mret, mps, mtp, mpy⟩, .slice m1 m2 m3) K = (O ++ [(⟨fr, at_, qos, ret, ps, tp, py⟩, .slice g1 g2 g3)]) ++ if d = true then K.drop (i + 1) else ins (⟨mfr, mat, mqos, mret, mps, mtp, mpy⟩, .slice m1 m2 m3) (K.drop (i + 1))) := by
                show _ = _
                have h9 := hI.out
                cases hd' : d with
                | true =>
                  rw [hd', if_pos rfl, HD.out] at h9
                  rw [h9, if_pos rfl]
                  simp
                | false =>
                  rw [hd', if_neg (by decide), HD.out, ins, if_neg (fun h => HT.out ⟨hd', h⟩)] at h9
                  rw [h9, if_neg (by decide)]
                  simp
              clear htest
              rcases ht2 with rfl | ⟨rfl, hlk⟩
              all_goals
                go_upto_region 14 with fail
                have hxs8 := sl_new w4 [.string fr, .int .i64 at_, .int .u8 qos, .bool ret, .slice g1 g2 g3, .string tp, .string py] 84 7 1 rfl (le_maxLen (by omega))
                have hcA8 := (Ch.refl [] w4).alloc (Obj.cells [.string fr, .int .i64 at_, .int .u8 qos, .bool ret, .slice g1 g2 g3, .string tp, .string py].toArray 84)
                have hrA8 := row_keep hrow4 hcA8 (by simp)
                have q38 : w2.heap.size ≤ _ := Nat.le_trans hc4.size hcA8.size
                have q48 : ∀ u ∈ ([.string fr, .int .i64 at_, .int .u8 qos, .bool ret, .slice g1 g2 g3, .string tp, .string py] : List Value), u.oneCell' = true := by simp [Value.oneCell']
                go_wp2_with (at_builtin; refine wl_app rfl (.tmp 53) (.tmp 55) elR12 rfl hrA8 rfl hxs8 rfl q48 qa1 qa2 q38 ?_; intro v' w8 hr8 hg8 hnil8 hor8; obtain ⟨e18, e28, rfl⟩ := row_shape hr8)
                refine ⟨⟨i + 1, _, O ++ [(⟨fr, at_, qos, ret, ps, tp, py⟩, .slice g1 g2 g3)], e18, e28, by simp, rfl, by simp [← HK.out], by omega, by simp only [List.length_append, List.length_cons, List.length_nil, ← HK.out]; omega, hI2, by simpa [← HK.out, MsgR.cells] using hr8, (hc4.thenNil hcA8).trans (Ch.ofGrown hg8) (fun b hb => .inr (by have := (ownBlock_lt hrA8 (by simpa using hb)).1; omega)), fun h => by first | (have := hd.out rfl; simp only [List.length_append, List.length_cons, List.length_nil, ← HK.out]; omega) | cases h⟩, by simp; omega⟩
          · have hlt : decide ((i : Int) < (nk : Int)) = false := by simpa using hi
            have hdn : K.drop i = [] := List.drop_eq_nil_of_le (by have := HNK.out; omega)
            have hEach : Hid (∀ w', Ch [] w2 w' → ∀ p ∈ ins (⟨mfr, mat, mqos, mret, mps, mtp, mpy⟩, .slice m1 m2 m3) K, w'.ownsRow 0 150 4 p.2 p.1.props.length (p.1.props.flatMap PropR.cells)) := by
              intro w' hc p hp
              rcases ins_mem hp with rfl | hp
              · exact row_keep HX.out (hc2.thenNil hc) (by simp)
              · exact row_keep (hk.each p hp) hc (by simp)
            cases d with
            | true =>
              have hO : Hid (ins (⟨mfr, mat, mqos, mret, mps, mtp, mpy⟩, .slice m1 m2 m3) K = O) := by
                show _ = _
                rw [hI.out, if_pos rfl, hdn, List.append_nil]
              clear hdn
              go_wp2_with fail
              go_ret2
              refine ⟨_, rfl, .slice o1 k o2, by rw [HRES.out]; rfl, ?_, hc2.thenNil hcr⟩
              rw [HRES.out]
              refine ⟨?_, hEach.out _ hcr⟩
              show World.ownsRow _ _ _ _ _ (ins (⟨mfr, mat, mqos, mret, mps, mtp, mpy⟩, .slice m1 m2 m3) K).length ((ins (⟨mfr, mat, mqos, mret, mps, mtp, mpy⟩, .slice m1 m2 m3) K).flatMap fun p => p.1.cells p.2)
              rw [hO.out, ← HK.out]
              exact row_base hrow (Nat.zero_le _)
            | false =>
              have hO : Hid (ins (⟨mfr, mat, mqos, mret, mps, mtp, mpy⟩, .slice m1 m2 m3) K = O ++ [(⟨mfr, mat, mqos, mret, mps, mtp, mpy⟩, .slice m1 m2 m3)]) := by
                show _ = _
                rw [hI.out, if_neg (by decide), hdn, ins]
              clear hdn
              obtain ⟨c0, c1, c2, c3, c4, c5, c6⟩ := cells7 hbr
              go_upto_region 17 with fail
              have hxs8 := sl_new wr [.string mfr, .int .i64 mat, .int .u8 mqos, .bool mret, .slice m1 m2 m3, .string mtp, .string mpy] 84 7 1 rfl (le_maxLen (by omega))
              have hcA8 := (Ch.refl [] wr).alloc (Obj.cells [.string mfr, .int .i64 mat, .int .u8 mqos, .bool mret, .slice m1 m2 m3, .string mtp, .string mpy].toArray 84)
              have hrA8 := row_keep hrow hcA8 (by simp)
              have q38 : w2.heap.size ≤ _ := Nat.le_trans hcr.size hcA8.size
              have q48 : ∀ u ∈ ([.string mfr, .int .i64 mat, .int .u8 mqos, .bool mret, .slice m1 m2 m3, .string mtp, .string mpy] : List Value), u.oneCell' = true := by simp [Value.oneCell']
              go_wp2_with (at_builtin; refine wl_app rfl (.tmp 60) (.tmp 62) elR12 rfl hrA8 rfl hxs8 rfl q48 qa1 qa2 q38 ?_; intro v' w8 hr8 hg8 hnil8 hor8; obtain ⟨e18, e28, rfl⟩ := row_shape hr8)
              have hc8 : Ch [] w2 w8 := (hcr.thenNil hcA8).trans (Ch.ofGrown hg8) (fun b hb => .inr (by have := (ownBlock_lt hrA8 (by simpa using hb)).1; omega))
              go_ret2
              refine ⟨_, rfl, .slice e18 (k + 1) e28, by rw [HRES.out]; rfl, ?_, hc2.thenNil hc8⟩
              rw [HRES.out]
              refine ⟨?_, hEach.out _ hc8⟩
              show World.ownsRow _ _ _ _ _ (ins (⟨mfr, mat, mqos, mret, mps, mtp, mpy⟩, .slice m1 m2 m3) K).length ((ins (⟨mfr, mat, mqos, mret, mps, mtp, mpy⟩, .slice m1 m2 m3) K).flatMap fun p => p.1.cells p.2)
              rw [hO.out]
              simpa [← HK.out, MsgR.cells] using row_base hr8 (Nat.zero_le _)

end Go.Proofs.YticfeikmdfijiaaDoor
