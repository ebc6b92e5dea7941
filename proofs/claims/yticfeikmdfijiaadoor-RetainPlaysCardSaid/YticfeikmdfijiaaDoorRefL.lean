/- The document's rows of messages: those of other topics; those that aren't gone. -/
import Derived.Test.YticfeikmdfijiaaDoorSames
import Derived.Deep.Cut
namespace Go.Proofs.YticfeikmdfijiaaDoor
open Go Go.RowKit

theorem elR12 : ElemTy Tryd.prog 96 84 (.agg #[.string ⟨#[]⟩, .int .i64 0, .int .u8 0, .bool false, .slice none 0 0, .string ⟨#[]⟩, .string ⟨#[]⟩]) 7 88 := ⟨Tryd.underlying96, by kernel_rfl, rfl, by decide⟩

/-- The document's messages. -/
structure RefL (w : World) (v : Value) (l : List (MsgR × Value)) : Prop where
  row : w.ownsRow 0 84 7 v l.length (l.flatMap fun p => p.1.cells p.2)
  each : ∀ p ∈ l, w.ownsRow 0 150 4 p.2 p.1.props.length (p.1.props.flatMap PropR.cells)
theorem RefL.keep {w w' : World} {v : Value} {l : List (MsgR × Value)} (h : RefL w v l) (hc : Ch [] w w') : RefL w' v l := ⟨row_keep h.row hc (by simp), fun p hp => row_keep (h.each p hp) hc (by simp)⟩

/-- The numbers of messages fit. -/
structure MsgOk (m : MsgR) : Prop where
  few : m.props.length ≤ 100000
  at0 : 0 ≤ m.at_
  at1 : m.at_ ≤ 1000000
  nums : NumsR m.props
  name : m.topic.size ≤ 100000

/-- An element, read. -/
theorem RefL.elem {w : World} {v : Value} {l : List (MsgR × Value)} (h : RefL w v l) {i : Nat} {p : MsgR × Value} (hp : l[i]? = some p) :
    ∃ b o cap g1 g3, v = .slice (some ⟨b, o, none⟩) l.length cap ∧ p.2 = .slice g1 p.1.props.length g3 ∧ ArgSl w p.2 p.1.props ∧ w.cell? ⟨b, o + i * 7, none⟩ = some (.string p.1.from_) ∧ w.cell? ⟨b, o + i * 7 + 1, none⟩ = some (.int .i64 p.1.at_) ∧ w.cell? ⟨b, o + i * 7 + 2, none⟩ = some (.int .u8 p.1.qos) ∧
      w.cell? ⟨b, o + i * 7 + 3, none⟩ = some (.bool p.1.ret) ∧ w.cell? ⟨b, o + i * 7 + 4, none⟩ = some p.2 ∧ w.cell? ⟨b, o + i * 7 + 5, none⟩ = some (.string p.1.topic) ∧ w.cell? ⟨b, o + i * 7 + 6, none⟩ = some (.string p.1.payload) := by
  obtain ⟨b, o, cap', hsv, hcell⟩ := (Sl.ofRow h.row).at (f := fun p : MsgR × Value => p.1.cells p.2) (i := i) (fun _ => rfl) (by omega) hp
  have hr := h.each p (List.mem_of_getElem? hp)
  obtain ⟨g1, g3, hg⟩ := row_shape hr
  refine ⟨b, o, cap', g1, g3, hsv, hg, (Sl.ofRow hr).arg, ?_, ?_, ?_, ?_, ?_, ?_, ?_⟩
  · simpa using hcell 0 _ rfl
  · simpa [Nat.add_assoc] using hcell 1 _ rfl
  · simpa [Nat.add_assoc] using hcell 2 _ rfl
  · simpa [Nat.add_assoc] using hcell 3 _ rfl
  · simpa [Nat.add_assoc] using hcell 4 _ rfl
  · simpa [Nat.add_assoc] using hcell 5 _ rfl
  · simpa [Nat.add_assoc] using hcell 6 _ rfl

def otherT (name : ByteArray) (p : MsgR × Value) : Bool := decide (p.1.topic ≠ name)
def stays (now : Int) (p : MsgR × Value) : Bool := !goneS p.1 now

set_option maxHeartbeats 4000000 in
theorem without_call (w : World) (v : Value) (l : List (MsgR × Value)) (name : ByteArray) (h : RefL w v l) (hl : l.length ≤ 100000) :
    Gives Tryd.prog 69 #[v, .string name] w fun r w' => RefL w' r (l.filter (otherT name)) ∧ Ch [] w w' := by
  obtain ⟨n, hn⟩ : ∃ n, n = l.length := ⟨_, rfl⟩
  obtain ⟨ao, cap, hv⟩ := row_shape h.row
  rw [← hn] at hv hl
  subst hv
  have HN : Hid (n = l.length) := hn
  clear hn
  go_enter Tryd.func69, Tryd.ntmps69
  go_wp2_with fail
  go_loopw [5, 11] (fun v5 v11 wr => ∃ (i : Nat) (o1 : Option Addr) (o2 : Nat), v11 = .int .i64 i ∧ v5 = .slice o1 ((l.take i).filter ((otherT name))).length o2 ∧ i ≤ n ∧
      wr.ownsRow w.heap.size 84 7 (.slice o1 ((l.take i).filter ((otherT name))).length o2) ((l.take i).filter ((otherT name))).length (((l.take i).filter ((otherT name))).flatMap fun p => p.1.cells p.2) ∧ Ch [] w wr)
    (fun _ v11 _ => match v11 with | .int _ x => n - x.toNat | _ => 0)
  case atStart => exact ⟨0, some ⟨w.heap.size, 0, none⟩, 0, rfl, rfl, by omega, ⟨rfl, .inr ⟨w.heap.size, 0, #[], rfl, Nat.le_refl _, heap_new w _, by simp, by decide, rfl, rfl⟩⟩, (Ch.refl [] w).alloc _⟩
  case round =>
    obtain ⟨i, o1, o2, rfl, hvo, hin, hrow, hcr⟩ := hrel
    have hki : ((l.take i).filter ((otherT name))).length ≤ i := Nat.le_trans (List.length_filter_le _ _) (List.length_take_le _ _)
    obtain ⟨k, hk⟩ : ∃ k, k = ((l.take i).filter ((otherT name))).length := ⟨_, rfl⟩
    rw [← hk] at hvo hrow hki
    subst hvo
    have HK : Hid (k = ((l.take i).filter ((otherT name))).length) := hk
    clear hk
    by_cases hi : i < n
    · have hlt : decide ((i : Int) < (n : Int)) = true := by simpa using hi
      have hil : i < l.length := by have := HN.out; omega
      have hp : l[i]? = some l[i] := List.getElem?_eq_getElem hil
      obtain ⟨b, o, cap', g1, g3, hsv, hg, hA, e0, e1, e2, e3, e4, e5, e6⟩ := (h.keep hcr).elem hp
      cases hsv
      generalize l[i] = q at hp hg hA e0 e1 e2 e3 e4 e5 e6
      obtain ⟨⟨fr, at_, qos, ret, ps, tp, py⟩, pq⟩ := q
      simp only at hg hA e0 e1 e2 e3 e4 e5 e6
      subst hg
      obtain ⟨g2, hg2⟩ : ∃ g2, g2 = ps.length := ⟨_, rfl⟩
      rw [← hg2] at hA e4
      have HS : Hid ((l.take (i + 1)).filter ((otherT name)) = (l.take i).filter ((otherT name)) ++ if ((otherT name)) (⟨fr, at_, qos, ret, ps, tp, py⟩, .slice g1 ps.length g3) = true then [(⟨fr, at_, qos, ret, ps, tp, py⟩, .slice g1 ps.length g3)] else []) := by
        show _ = _
        rw [take_snoc hp, List.filter_append, List.filter_cons, List.filter_nil]
      rw [← hg2] at HS
      have HG2 : Hid (g2 = ps.length) := hg2
      clear hp hg2 hil
      have hcB : Ch [] wr (wr.alloc (.cells #[.string fr, .int .i64 at_, .int .u8 qos, .bool ret, .slice g1 g2 g3, .string tp, .string py] 84)) := (Ch.refl [] wr).alloc _
      have hbB := heap_new wr (.cells #[.string fr, .int .i64 at_, .int .u8 qos, .bool ret, .slice g1 g2 g3, .string tp, .string py] 84)
      go_upto_region 5 with fail
      generalize wr.alloc (.cells #[.string fr, .int .i64 at_, .int .u8 qos, .bool ret, .slice g1 g2 g3, .string tp, .string py] 84) = w3 at hcB hbB ⊢
      obtain ⟨k0, k1, k2, k3, k4, k5, k6⟩ := cells7 hbB
      by_cases htn : tp = name
      · have e9 : (tp.toList == name.toList) = true := by rw [htn]; exact beq_self_eq_true _
        have b9 : (tp.toList != name.toList) = false := by rw [htn]; simp
        go_wp2
        have hs : (l.take (i + 1)).filter ((otherT name)) = (l.take i).filter ((otherT name)) := by rw [HS.out, if_neg (by simp [otherT, htn])]; simp
        refine ⟨⟨i + 1, o1, o2, by simp, by rw [hs, ← HK.out], by omega, by rw [hs, ← HK.out]; exact row_keep hrow (hcB) (by simp), hcr.thenNil hcB⟩, by simp; omega⟩
      · have e9 : (tp.toList == name.toList) = false := bytes_ne htn
        have b9 : (tp.toList != name.toList) = true := by rw [bne, e9]; rfl
        have HTN : Hid (¬ tp = name) := htn
        clear htn
        go_upto_region 6 with fail
        clear k0 k1 k2 k3 k4 k5 k6
        obtain ⟨k0, k1, k2, k3, k4, k5, k6⟩ := cells7 hbB
        have hxs := sl_new w3 [.string fr, .int .i64 at_, .int .u8 qos, .bool ret, .slice g1 g2 g3, .string tp, .string py] 84 7 1 rfl (le_maxLen (by omega))
        have hcA := (Ch.refl [] w3).alloc (Obj.cells [.string fr, .int .i64 at_, .int .u8 qos, .bool ret, .slice g1 g2 g3, .string tp, .string py].toArray 84)
        have hrA := row_keep (row_keep hrow hcB (by simp)) hcA (by simp)
        have q1 : k + 1 ≤ maxLen := le_maxLen (by omega)
        have q2 : (k + 1) * 88 ≤ 140737488355328 := by omega
        have q3 : w.heap.size ≤ _ := Nat.le_trans (Nat.le_trans hcr.size hcB.size) hcA.size
        have q4 : ∀ u ∈ ([.string fr, .int .i64 at_, .int .u8 qos, .bool ret, .slice g1 g2 g3, .string tp, .string py] : List Value), u.oneCell' = true := by simp [Value.oneCell']
        go_wp2_with (at_builtin; refine wl_app rfl (.tmp 19) (.tmp 21) elR12 rfl hrA rfl hxs rfl q4 q1 q2 q3 ?_; intro v' w7 hr7 hg7 hnil7 hor7; obtain ⟨e1, e2, rfl⟩ := row_shape hr7)
        have hs : (l.take (i + 1)).filter ((otherT name)) = (l.take i).filter ((otherT name)) ++ [(⟨fr, at_, qos, ret, ps, tp, py⟩, .slice g1 g2 g3)] := by rw [HS.out, if_pos (by simpa [otherT] using HTN.out)]
        have hs2 : ((l.take (i + 1)).filter ((otherT name))).length = k + 1 := by rw [hs, List.length_append, ← HK.out]; rfl
        refine ⟨⟨i + 1, e1, e2, by simp, by rw [hs2], by omega, ?_, ((hcr.thenNil hcB).thenNil hcA).trans (Ch.ofGrown hg7) (fun b hb => .inr (by have := (ownBlock_lt hrA (by simpa using hb)).1; omega))⟩, by simp; omega⟩
        rw [hs2, hs]
        simpa [MsgR.cells] using hr7
    · have hlt : decide ((i : Int) < (n : Int)) = false := by simpa using hi
      have hit : l.take i = l := List.take_of_length_le (by have := HN.out; omega)
      rw [hit] at HK hrow
      clear hit
      go_wp2
      go_ret
      refine ⟨_, rfl, ⟨?_, fun p hp => row_keep (h.each p ((List.mem_filter.1 hp).1)) hcr (by simp)⟩, hcr⟩
      rw [← HK.out]
      exact row_base hrow (Nat.zero_le _)

set_option maxHeartbeats 4000000 in
theorem rexpire_call (w : World) (v : Value) (l : List (MsgR × Value)) (now : Int) (h : RefL w v l) (hl : l.length ≤ 100000) (hok : ∀ p ∈ l, MsgOk p.1) (n0 : 0 ≤ now) (n1 : now ≤ 1000000) :
    Gives Tryd.prog 44 #[v, .int .i64 now] w fun r w' => RefL w' r (l.filter (stays now)) ∧ Ch [] w w' := by
  obtain ⟨n, hn⟩ : ∃ n, n = l.length := ⟨_, rfl⟩
  obtain ⟨ao, cap, hv⟩ := row_shape h.row
  rw [← hn] at hv hl
  subst hv
  have HN : Hid (n = l.length) := hn
  clear hn
  have HOK : Hid (∀ p ∈ l, MsgOk p.1) := hok
  clear hok
  go_enter Tryd.func44, Tryd.ntmps44
  go_wp2_with fail
  go_loopw [5, 11] (fun v5 v11 wr => ∃ (i : Nat) (o1 : Option Addr) (o2 : Nat), v11 = .int .i64 i ∧ v5 = .slice o1 ((l.take i).filter ((stays now))).length o2 ∧ i ≤ n ∧
      wr.ownsRow w.heap.size 84 7 (.slice o1 ((l.take i).filter ((stays now))).length o2) ((l.take i).filter ((stays now))).length (((l.take i).filter ((stays now))).flatMap fun p => p.1.cells p.2) ∧ Ch [] w wr)
    (fun _ v11 _ => match v11 with | .int _ x => n - x.toNat | _ => 0)
  case atStart => exact ⟨0, some ⟨w.heap.size, 0, none⟩, 0, rfl, rfl, by omega, ⟨rfl, .inr ⟨w.heap.size, 0, #[], rfl, Nat.le_refl _, heap_new w _, by simp, by decide, rfl, rfl⟩⟩, (Ch.refl [] w).alloc _⟩
  case round =>
    obtain ⟨i, o1, o2, rfl, hvo, hin, hrow, hcr⟩ := hrel
    have hki : ((l.take i).filter ((stays now))).length ≤ i := Nat.le_trans (List.length_filter_le _ _) (List.length_take_le _ _)
    obtain ⟨k, hk⟩ : ∃ k, k = ((l.take i).filter ((stays now))).length := ⟨_, rfl⟩
    rw [← hk] at hvo hrow hki
    subst hvo
    have HK : Hid (k = ((l.take i).filter ((stays now))).length) := hk
    clear hk
    by_cases hi : i < n
    · have hlt : decide ((i : Int) < (n : Int)) = true := by simpa using hi
      have hil : i < l.length := by have := HN.out; omega
      have hp : l[i]? = some l[i] := List.getElem?_eq_getElem hil
      obtain ⟨b, o, cap', g1, g3, hsv, hg, hA, e0, e1, e2, e3, e4, e5, e6⟩ := (h.keep hcr).elem hp
      cases hsv
      have hok := HOK.out _ (List.mem_of_getElem? hp)
      generalize l[i] = q at hp hg hA e0 e1 e2 e3 e4 e5 e6 hok
      obtain ⟨⟨fr, at_, qos, ret, ps, tp, py⟩, pq⟩ := q
      simp only at hg hA e0 e1 e2 e3 e4 e5 e6 hok
      subst hg
      obtain ⟨g2, hg2⟩ : ∃ g2, g2 = ps.length := ⟨_, rfl⟩
      rw [← hg2] at hA e4
      have HS : Hid ((l.take (i + 1)).filter ((stays now)) = (l.take i).filter ((stays now)) ++ if ((stays now)) (⟨fr, at_, qos, ret, ps, tp, py⟩, .slice g1 ps.length g3) = true then [(⟨fr, at_, qos, ret, ps, tp, py⟩, .slice g1 ps.length g3)] else []) := by
        show _ = _
        rw [take_snoc hp, List.filter_append, List.filter_cons, List.filter_nil]
      rw [← hg2] at HS
      have HG2 : Hid (g2 = ps.length) := hg2
      clear hp hg2 hil
      have hcB : Ch [] wr (wr.alloc (.cells #[.string fr, .int .i64 at_, .int .u8 qos, .bool ret, .slice g1 g2 g3, .string tp, .string py] 84)) := (Ch.refl [] wr).alloc _
      have hbB := heap_new wr (.cells #[.string fr, .int .i64 at_, .int .u8 qos, .bool ret, .slice g1 g2 g3, .string tp, .string py] 84)
      have hgone : ∀ w', Ch [] wr w' → _ := fun w' (hc : Ch [] wr w') => rgone_call w' ⟨fr, at_, qos, ret, ps, tp, py⟩ (.slice g1 g2 g3) now (hA.keep hc) hok.few hok.at0 hok.at1 hok.nums n0 n1
      go_upto_region 5 with fail
      generalize wr.alloc (.cells #[.string fr, .int .i64 at_, .int .u8 qos, .bool ret, .slice g1 g2 g3, .string tp, .string py] 84) = w3 at hcB hbB ⊢
      obtain ⟨k0, k1, k2, k3, k4, k5, k6⟩ := cells7 hbB
      have hg3 := hgone w3 hcB
      simp only [MsgR.v] at hg3
      clear hgone
      cases hgo : goneS ⟨fr, at_, qos, ret, ps, tp, py⟩ now with
      | true =>
        rw [hgo] at hg3
        go_wp2_with fail
        refine Calls.mono hg3 ?_
        rintro e w4 ⟨v, rfl, rfl, hk4⟩
        have hcB4 := hcB.thenNil hk4
        have HGO : Hid (goneS ⟨fr, at_, qos, ret, ps, tp, py⟩ now = true) := hgo
        clear k0 k1 k2 k3 k4 k5 k6 hg3 hgo
        go_wp2_with fail
        have hs : (l.take (i + 1)).filter ((stays now)) = (l.take i).filter ((stays now)) := by rw [HS.out, if_neg (by simp [stays, HGO.out])]; simp
        refine ⟨⟨i + 1, o1, o2, by simp, by rw [hs, ← HK.out], by omega, by rw [hs, ← HK.out]; exact row_keep hrow (hcB4) (by simp), hcr.thenNil hcB4⟩, by simp; omega⟩
      | false =>
        rw [hgo] at hg3
        go_wp2_with fail
        refine Calls.mono hg3 ?_
        rintro e w4 ⟨v, rfl, rfl, hk4⟩
        have hcB4 := hcB.thenNil hk4
        replace hbB := hk4.keep hbB (by simp)
        have HGO : Hid (goneS ⟨fr, at_, qos, ret, ps, tp, py⟩ now = false) := hgo
        clear k0 k1 k2 k3 k4 k5 k6 hg3 hgo
        go_upto_region 6 with fail
        obtain ⟨k0, k1, k2, k3, k4, k5, k6⟩ := cells7 hbB
        have hxs := sl_new w4 [.string fr, .int .i64 at_, .int .u8 qos, .bool ret, .slice g1 g2 g3, .string tp, .string py] 84 7 1 rfl (le_maxLen (by omega))
        have hcA := (Ch.refl [] w4).alloc (Obj.cells [.string fr, .int .i64 at_, .int .u8 qos, .bool ret, .slice g1 g2 g3, .string tp, .string py].toArray 84)
        have hrA := row_keep (row_keep hrow hcB4 (by simp)) hcA (by simp)
        have q1 : k + 1 ≤ maxLen := le_maxLen (by omega)
        have q2 : (k + 1) * 88 ≤ 140737488355328 := by omega
        have q3 : w.heap.size ≤ _ := Nat.le_trans (Nat.le_trans hcr.size hcB4.size) hcA.size
        have q4 : ∀ u ∈ ([.string fr, .int .i64 at_, .int .u8 qos, .bool ret, .slice g1 g2 g3, .string tp, .string py] : List Value), u.oneCell' = true := by simp [Value.oneCell']
        go_wp2_with (at_builtin; refine wl_app rfl (.tmp 19) (.tmp 21) elR12 rfl hrA rfl hxs rfl q4 q1 q2 q3 ?_; intro v' w7 hr7 hg7 hnil7 hor7; obtain ⟨e1, e2, rfl⟩ := row_shape hr7)
        have hs : (l.take (i + 1)).filter ((stays now)) = (l.take i).filter ((stays now)) ++ [(⟨fr, at_, qos, ret, ps, tp, py⟩, .slice g1 g2 g3)] := by rw [HS.out, if_pos (by simp [stays, HGO.out])]
        have hs2 : ((l.take (i + 1)).filter ((stays now))).length = k + 1 := by rw [hs, List.length_append, ← HK.out]; rfl
        refine ⟨⟨i + 1, e1, e2, by simp, by rw [hs2], by omega, ?_, ((hcr.thenNil hcB4).thenNil hcA).trans (Ch.ofGrown hg7) (fun b hb => .inr (by have := (ownBlock_lt hrA (by simpa using hb)).1; omega))⟩, by simp; omega⟩
        rw [hs2, hs]
        simpa [MsgR.cells] using hr7
    · have hlt : decide ((i : Int) < (n : Int)) = false := by simpa using hi
      have hit : l.take i = l := List.take_of_length_le (by have := HN.out; omega)
      rw [hit] at HK hrow
      clear hit
      go_wp2
      go_ret
      refine ⟨_, rfl, ⟨?_, fun p hp => row_keep (h.each p ((List.mem_filter.1 hp).1)) hcr (by simp)⟩, hcr⟩
      rw [← HK.out]
      exact row_base hrow (Nat.zero_le _)

end Go.Proofs.YticfeikmdfijiaaDoor
