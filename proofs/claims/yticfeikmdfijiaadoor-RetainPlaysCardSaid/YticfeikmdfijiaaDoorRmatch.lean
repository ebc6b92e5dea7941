/- The document's Match on a row of messages. -/
import Derived.Test.YticfeikmdfijiaaDoorRefL
import Derived.Test.YticfeikmdfijiaaDoorR10
namespace Go.Proofs.YticfeikmdfijiaaDoor
open Go Go.RowKit

def tells (f : ByteArray) (now : Int) (p : MsgR × Value) : Bool := matchS f p.1.topic && !goneS p.1 now

set_option maxHeartbeats 4000000 in
theorem rmatches_call (w : World) (v : Value) (l : List (MsgR × Value)) (f : ByteArray) (now : Int) (h : RefL w v l) (hl : l.length ≤ 100000) (hok : ∀ p ∈ l, MsgOk p.1) (hf : f.size ≤ 100000) (n0 : 0 ≤ now) (n1 : now ≤ 1000000) :
    Gives Tryd.prog 46 #[v, .string f, .int .i64 now] w fun r w' => RefL w' r (l.filter (tells f now)) ∧ Ch [] w w' := by
  obtain ⟨n, hn⟩ : ∃ n, n = l.length := ⟨_, rfl⟩
  obtain ⟨ao, cap, hv⟩ := row_shape h.row
  rw [← hn] at hv hl
  subst hv
  have HN : Hid (n = l.length) := hn
  clear hn
  have HOK : Hid (∀ p ∈ l, MsgOk p.1) := hok
  clear hok
  go_enter Tryd.func46, Tryd.ntmps46
  go_wp2_with fail
  go_loopw [7, 13] (fun v7 v13 wr => ∃ (i : Nat) (o1 : Option Addr) (o2 : Nat), v13 = .int .i64 i ∧ v7 = .slice o1 ((l.take i).filter ((tells f now))).length o2 ∧ i ≤ n ∧
      wr.ownsRow w.heap.size 84 7 (.slice o1 ((l.take i).filter ((tells f now))).length o2) ((l.take i).filter ((tells f now))).length (((l.take i).filter ((tells f now))).flatMap fun p => p.1.cells p.2) ∧ Ch [] w wr)
    (fun _ v13 _ => match v13 with | .int _ x => n - x.toNat | _ => 0)
  case atStart => exact ⟨0, some ⟨w.heap.size, 0, none⟩, 0, rfl, rfl, by omega, ⟨rfl, .inr ⟨w.heap.size, 0, #[], rfl, Nat.le_refl _, heap_new w _, by simp, by decide, rfl, rfl⟩⟩, (Ch.refl [] w).alloc _⟩
  case round =>
    obtain ⟨i, o1, o2, rfl, hvo, hin, hrow, hcr⟩ := hrel
    have hki : ((l.take i).filter ((tells f now))).length ≤ i := Nat.le_trans (List.length_filter_le _ _) (List.length_take_le _ _)
    obtain ⟨k, hk⟩ : ∃ k, k = ((l.take i).filter ((tells f now))).length := ⟨_, rfl⟩
    rw [← hk] at hvo hrow hki
    subst hvo
    have HK : Hid (k = ((l.take i).filter ((tells f now))).length) := hk
    clear hk
    by_cases hi : i < n
    · have hlt : decide ((i : Int) < (n : Int)) = true := by simpa using hi
      have hil : i < l.length := by have := HN.out; omega
      have hp : l[i]? = some l[i] := List.getElem?_eq_getElem hil
      obtain ⟨b, o, cap', g1, g3, hsv, hg, hA, e0, e1, e2, e3, e4, e5, e6⟩ := (h.keep hcr).elem hp
      cases hsv
      have hok := HOK.out _ (List.mem_of_getElem? hp)
      generalize l[i] = q at hp hg hA e0 e1 e2 e3 e4 e5 e6 hok
      obtain ⟨⟨fr, at_, qos, ret, ps, tp, py⟩, pq⟩ := q
      simp only at hg hA e0 e1 e2 e3 e4 e5 e6 hok
      subst hg
      obtain ⟨g2, hg2⟩ : ∃ g2, g2 = ps.length := ⟨_, rfl⟩
      rw [← hg2] at hA e4
      have HS : Hid ((l.take (i + 1)).filter ((tells f now)) = (l.take i).filter ((tells f now)) ++ if ((tells f now)) (⟨fr, at_, qos, ret, ps, tp, py⟩, .slice g1 ps.length g3) = true then [(⟨fr, at_, qos, ret, ps, tp, py⟩, .slice g1 ps.length g3)] else []) := by
        show _ = _
        rw [take_snoc hp, List.filter_append, List.filter_cons, List.filter_nil]
      rw [← hg2] at HS
      have HG2 : Hid (g2 = ps.length) := hg2
      clear hp hg2 hil
      have hcB : Ch [] wr (wr.alloc (.cells #[.string fr, .int .i64 at_, .int .u8 qos, .bool ret, .slice g1 g2 g3, .string tp, .string py] 84)) := (Ch.refl [] wr).alloc _
      have hbB := heap_new wr (.cells #[.string fr, .int .i64 at_, .int .u8 qos, .bool ret, .slice g1 g2 g3, .string tp, .string py] 84)
      have hgone : ∀ w', Ch [] wr w' → _ := fun w' (hc : Ch [] wr w') => rgone_call w' ⟨fr, at_, qos, ret, ps, tp, py⟩ (.slice g1 g2 g3) now (hA.keep hc) hok.few hok.at0 hok.at1 hok.nums n0 n1
      have hmt : ∀ w', _ := fun w' => rmatch_call w' f tp hf hok.name
      have HGN := Lib.hid hgone
      go_upto_region 5 with fail
      generalize wr.alloc (.cells #[.string fr, .int .i64 at_, .int .u8 qos, .bool ret, .slice g1 g2 g3, .string tp, .string py] 84) = w3 at hcB hbB ⊢
      obtain ⟨k0, k1, k2, k3, k4, k5, k6⟩ := cells7 hbB
      have hm3 := hmt w3
      clear hmt hgone
      cases hms : matchS f tp with
      | false =>
        rw [hms] at hm3
        go_wp2_with fail
        refine Calls.mono hm3 ?_
        rintro e w4 ⟨v, rfl, rfl, hk4⟩
        have hcB4 := hcB.thenNil hk4
        have HMS : Hid (matchS f tp = false) := hms
        clear k0 k1 k2 k3 k4 k5 k6 hm3 hms
        go_wp2_with fail
        have hs : (l.take (i + 1)).filter ((tells f now)) = (l.take i).filter ((tells f now)) := by rw [HS.out, if_neg (by simp [tells, HMS.out])]; simp
        refine ⟨⟨i + 1, o1, o2, by simp, by rw [hs, ← HK.out], by omega, by rw [hs, ← HK.out]; exact row_keep hrow (hcB4) (by simp), hcr.thenNil hcB4⟩, by simp; omega⟩
      | true =>
        rw [hms] at hm3
        go_wp2_with fail
        refine Calls.mono hm3 ?_
        rintro e w4 ⟨v, rfl, rfl, hk4⟩
        have hcB4 := hcB.thenNil hk4
        replace hbB := hk4.keep hbB (by simp)
        have HMS : Hid (matchS f tp = true) := hms
        clear k0 k1 k2 k3 k4 k5 k6 hm3 hms
        obtain ⟨k0, k1, k2, k3, k4, k5, k6⟩ := cells7 hbB
        have hg4 := HGN.out w4 hcB4
        simp only [MsgR.v] at hg4
        cases hgo : goneS ⟨fr, at_, qos, ret, ps, tp, py⟩ now with
        | true =>
          rw [hgo] at hg4
          go_wp2_with fail
          refine Calls.mono hg4 ?_
          rintro e w5 ⟨v, rfl, rfl, hk5⟩
          have hcB5 := hcB4.thenNil hk5
          have HGO : Hid (goneS ⟨fr, at_, qos, ret, ps, tp, py⟩ now = true) := hgo
          clear k0 k1 k2 k3 k4 k5 k6 hg4 hgo
          go_wp2_with fail
          have hs : (l.take (i + 1)).filter ((tells f now)) = (l.take i).filter ((tells f now)) := by rw [HS.out, if_neg (by simp [tells, HGO.out])]; simp
          refine ⟨⟨i + 1, o1, o2, by simp, by rw [hs, ← HK.out], by omega, by rw [hs, ← HK.out]; exact row_keep hrow (hcB5) (by simp), hcr.thenNil hcB5⟩, by simp; omega⟩
        | false =>
          rw [hgo] at hg4
          go_wp2_with fail
          refine Calls.mono hg4 ?_
          rintro e w5 ⟨v, rfl, rfl, hk5⟩
          have hcB5 := hcB4.thenNil hk5
          replace hbB := hk5.keep hbB (by simp)
          have HGO : Hid (goneS ⟨fr, at_, qos, ret, ps, tp, py⟩ now = false) := hgo
          clear k0 k1 k2 k3 k4 k5 k6 hg4 hgo
          go_upto_region 6 with fail
          obtain ⟨k0, k1, k2, k3, k4, k5, k6⟩ := cells7 hbB
          have hxs := sl_new w5 [.string fr, .int .i64 at_, .int .u8 qos, .bool ret, .slice g1 g2 g3, .string tp, .string py] 84 7 1 rfl (le_maxLen (by omega))
          have hcA := (Ch.refl [] w5).alloc (Obj.cells [.string fr, .int .i64 at_, .int .u8 qos, .bool ret, .slice g1 g2 g3, .string tp, .string py].toArray 84)
          have hrA := row_keep (row_keep hrow hcB5 (by simp)) hcA (by simp)
          have q1 : k + 1 ≤ maxLen := le_maxLen (by omega)
          have q2 : (k + 1) * 88 ≤ 140737488355328 := by omega
          have q3 : w.heap.size ≤ _ := Nat.le_trans (Nat.le_trans hcr.size hcB5.size) hcA.size
          have q4 : ∀ u ∈ ([.string fr, .int .i64 at_, .int .u8 qos, .bool ret, .slice g1 g2 g3, .string tp, .string py] : List Value), u.oneCell' = true := by simp [Value.oneCell']
          go_wp2_with (at_builtin; refine wl_app rfl (.tmp 27) (.tmp 29) elR12 rfl hrA rfl hxs rfl q4 q1 q2 q3 ?_; intro v' w7 hr7 hg7 hnil7 hor7; obtain ⟨e1, e2, rfl⟩ := row_shape hr7)
          have hs : (l.take (i + 1)).filter ((tells f now)) = (l.take i).filter ((tells f now)) ++ [(⟨fr, at_, qos, ret, ps, tp, py⟩, .slice g1 g2 g3)] := by rw [HS.out, if_pos (by simp [tells, HMS.out, HGO.out])]
          have hs2 : ((l.take (i + 1)).filter ((tells f now))).length = k + 1 := by rw [hs, List.length_append, ← HK.out]; rfl
          refine ⟨⟨i + 1, e1, e2, by simp, by rw [hs2], by omega, ?_, ((hcr.thenNil hcB5).thenNil hcA).trans (Ch.ofGrown hg7) (fun b hb => .inr (by have := (ownBlock_lt hrA (by simpa using hb)).1; omega))⟩, by simp; omega⟩
          rw [hs2, hs]
          simpa [MsgR.cells] using hr7
    · have hlt : decide ((i : Int) < (n : Int)) = false := by simpa using hi
      have hit : l.take i = l := List.take_of_length_le (by have := HN.out; omega)
      rw [hit] at HK hrow
      clear hit
      go_wp2
      go_ret
      refine ⟨_, rfl, ⟨?_, fun p hp => row_keep (h.each p ((List.mem_filter.1 hp).1)) hcr (by simp)⟩, hcr⟩
      rw [← HK.out]
      exact row_base hrow (Nat.zero_le _)

end Go.Proofs.YticfeikmdfijiaaDoor
