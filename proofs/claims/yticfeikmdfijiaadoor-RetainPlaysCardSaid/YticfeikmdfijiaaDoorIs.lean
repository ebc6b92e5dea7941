/- Is: a store's messages are the document's. -/
import Derived.Test.YticfeikmdfijiaaDoorRefL
import Derived.Test.YticfeikmdfijiaaDoorSmatch
namespace Go.Proofs.YticfeikmdfijiaaDoor
open Go Go.RowKit

/-- What a store tells. -/
structure OutL (w : World) (v : Value) (l : List (MsgR × Value)) : Prop where
  row : ∃ B, w.ownsRow B 58 7 v l.length (l.flatMap fun p => p.1.cells p.2)
  each : ∀ p ∈ l, ArgSl w p.2 p.1.props ∧ p.1.props.length ≤ 100000
theorem OutL.keep {w w' : World} {v : Value} {l : List (MsgR × Value)} (h : OutL w v l) (hc : Ch [] w w') : OutL w' v l :=
  ⟨h.row.imp fun _ hr => row_keep hr hc (by simp), fun p hp => ⟨(h.each p hp).1.keep hc, (h.each p hp).2⟩⟩
theorem OutL.elem {w : World} {v : Value} {l : List (MsgR × Value)} (h : OutL w v l) {i : Nat} {p : MsgR × Value} (hp : l[i]? = some p) :
    ∃ b o cap g1 g3, v = .slice (some ⟨b, o, none⟩) l.length cap ∧ p.2 = .slice g1 p.1.props.length g3 ∧ ArgSl w p.2 p.1.props ∧ w.cell? ⟨b, o + i * 7, none⟩ = some (.string p.1.from_) ∧ w.cell? ⟨b, o + i * 7 + 1, none⟩ = some (.int .i64 p.1.at_) ∧ w.cell? ⟨b, o + i * 7 + 2, none⟩ = some (.int .u8 p.1.qos) ∧
      w.cell? ⟨b, o + i * 7 + 3, none⟩ = some (.bool p.1.ret) ∧ w.cell? ⟨b, o + i * 7 + 4, none⟩ = some p.2 ∧ w.cell? ⟨b, o + i * 7 + 5, none⟩ = some (.string p.1.topic) ∧ w.cell? ⟨b, o + i * 7 + 6, none⟩ = some (.string p.1.payload) := by
  obtain ⟨B, hr⟩ := h.row
  obtain ⟨b, o, cap', hsv, hcell⟩ := (Sl.ofRow hr).at (f := fun p : MsgR × Value => p.1.cells p.2) (i := i) (fun _ => rfl) (by omega) hp
  have ha := (h.each p (List.mem_of_getElem? hp)).1
  obtain ⟨g1, g3, hg⟩ := ha.shape'
  refine ⟨b, o, cap', g1, g3, hsv, hg, ha, ?_, ?_, ?_, ?_, ?_, ?_, ?_⟩
  · simpa using hcell 0 _ rfl
  · simpa [Nat.add_assoc] using hcell 1 _ rfl
  · simpa [Nat.add_assoc] using hcell 2 _ rfl
  · simpa [Nat.add_assoc] using hcell 3 _ rfl
  · simpa [Nat.add_assoc] using hcell 4 _ rfl
  · simpa [Nat.add_assoc] using hcell 5 _ rfl
  · simpa [Nat.add_assoc] using hcell 6 _ rfl

set_option maxHeartbeats 4000000 in
theorem is_call (w : World) (v1 v2 : Value) (l1 l2 : List (MsgR × Value)) (h1 : OutL w v1 l1) (h2 : RefL w v2 l2) (he : l1.map (·.1) = l2.map (·.1)) (hl : l1.length ≤ 100000) :
    Gives Tryd.prog 45 #[v1, v2] w fun r w' => r = .int .i64 0 ∧ Ch [] w w' := by
  obtain ⟨n, hn⟩ : ∃ n, n = l2.length := ⟨_, rfl⟩
  have hn1 : n = l1.length := by rw [hn]; simpa using (congrArg List.length he).symm
  obtain ⟨B, hr1⟩ := h1.row
  obtain ⟨ao, cap, hv⟩ := row_shape hr1
  rw [← hn1] at hv hl
  subst hv
  obtain ⟨bo, bcap, hv⟩ := row_shape h2.row
  rw [← hn] at hv
  subst hv
  have HN : Hid (n = l1.length ∧ n = l2.length) := ⟨hn1, hn⟩
  have HE : Hid (l1.map (·.1) = l2.map (·.1)) := he
  clear hn hn1 he hr1
  go_enter Tryd.func45, Tryd.ntmps45
  go_wp2_with fail
  go_loopw [13] (fun v13 wr => ∃ i : Nat, v13 = .int .i64 i ∧ i ≤ n ∧ Ch [] w wr) (fun v13 _ => match v13 with | .int _ x => n - x.toNat | _ => 0)
  case atStart => exact ⟨0, rfl, by omega, Ch.refl _ _⟩
  case round =>
    obtain ⟨i, rfl, hin, hcr⟩ := hrel
    by_cases hi : i < n
    · have hlt : decide ((i : Int) < (n : Int)) = true := by simpa using hi
      have hil : i < l1.length := by have := HN.out; omega
      have hil2 : i < l2.length := by have := HN.out; omega
      have hp : l1[i]? = some l1[i] := List.getElem?_eq_getElem hil
      have hp2 : l2[i]? = some l2[i] := List.getElem?_eq_getElem hil2
      have hpe : l1[i].1 = l2[i].1 := by
        have e1 := congrArg (fun l => l[i]?) HE.out
        simp only [List.getElem?_map, hp, hp2, Option.map_some, Option.some.injEq] at e1
        exact e1
      obtain ⟨b, o, cap', g1, g3, hsv, hg, hA, e0, e1, e2, e3, e4, e5, e6⟩ := (h1.keep hcr).elem hp
      rw [← HN.out.1] at hsv
      cases hsv
      obtain ⟨b', o', cap'', q1, q3, hsv, hq, hA2, d0, d1, d2, d3, d4, d5, d6⟩ := (h2.keep hcr).elem hp2
      rw [← HN.out.2] at hsv
      cases hsv
      have hfew := (h1.each _ (List.mem_of_getElem? hp)).2
      rw [← hpe] at hq hA2 d0 d1 d2 d3 d5 d6
      rw [hq] at hA2 d4
      rw [hg] at hA e4
      generalize l1[i].1 = q at hA hA2 e0 e1 e2 e3 e4 e5 e6 d0 d1 d2 d3 d4 d5 d6 hfew
      have htold : ∀ w', Ch [] wr w' → _ := fun w' (hc : Ch [] wr w') => told12_call w' q _ (hA.keep hc) hfew
      have hsame : ∀ w' pv, Ch [] wr w' → ArgSl w' pv q.props → _ := fun w' pv (hc : Ch [] wr w') ha => same12_call w' q pv _ ha (hA2.keep hc) hfew
      obtain ⟨fr, at_, qos, ret, ps, tp, py⟩ := q
      simp only [MsgR.v] at hA hA2 e0 e1 e2 e3 e4 e5 e6 d0 d1 d2 d3 d4 d5 d6 hfew htold hsame
      obtain ⟨g2, hg2⟩ : ∃ g2, g2 = ps.length := ⟨_, rfl⟩
      simp only [← hg2] at e4 d4 htold hsame
      have HG2 : Hid (g2 = ps.length) := hg2
      have HT := Lib.hid htold
      have HS := Lib.hid hsame
      clear hp hp2 hpe hg hq hA hA2 hg2 hil hil2 htold hsame hfew
      go_upto_region 6 with fail
      refine wp_region_flow (Ch [] wr) 10 [(true, 0), (true, 1), (true, 2), (true, 3), (true, 5), (true, 6), (true, 7), (true, 8), (false, 4), (false, 9)] (by kernel_rfl) (by kernel_rfl) (Ch.refl [] wr).drew ?_
      intro hS hne
      have f0 : ∀ u : Wd (Ch [] wr), u.v.cell? ⟨b, o + i * 7, none⟩ = some (.string fr) := fun u => u.p.cell e0 (by simp)
      have r0 : ∀ u : Wd (Ch [] wr), u.v.cell? ⟨b', o' + i * 7, none⟩ = some (.string fr) := fun u => u.p.cell d0 (by simp)
      have f1 : ∀ u : Wd (Ch [] wr), u.v.cell? ⟨b, o + i * 7 + 1, none⟩ = some (.int .i64 at_) := fun u => u.p.cell e1 (by simp)
      have r1 : ∀ u : Wd (Ch [] wr), u.v.cell? ⟨b', o' + i * 7 + 1, none⟩ = some (.int .i64 at_) := fun u => u.p.cell d1 (by simp)
      have f2 : ∀ u : Wd (Ch [] wr), u.v.cell? ⟨b, o + i * 7 + 2, none⟩ = some (.int .u8 qos) := fun u => u.p.cell e2 (by simp)
      have r2 : ∀ u : Wd (Ch [] wr), u.v.cell? ⟨b', o' + i * 7 + 2, none⟩ = some (.int .u8 qos) := fun u => u.p.cell d2 (by simp)
      have f3 : ∀ u : Wd (Ch [] wr), u.v.cell? ⟨b, o + i * 7 + 3, none⟩ = some (.bool ret) := fun u => u.p.cell e3 (by simp)
      have r3 : ∀ u : Wd (Ch [] wr), u.v.cell? ⟨b', o' + i * 7 + 3, none⟩ = some (.bool ret) := fun u => u.p.cell d3 (by simp)
      have f4 : ∀ u : Wd (Ch [] wr), u.v.cell? ⟨b, o + i * 7 + 4, none⟩ = some (.slice g1 g2 g3) := fun u => u.p.cell e4 (by simp)
      have r4 : ∀ u : Wd (Ch [] wr), u.v.cell? ⟨b', o' + i * 7 + 4, none⟩ = some (.slice q1 g2 q3) := fun u => u.p.cell d4 (by simp)
      have f5 : ∀ u : Wd (Ch [] wr), u.v.cell? ⟨b, o + i * 7 + 5, none⟩ = some (.string tp) := fun u => u.p.cell e5 (by simp)
      have r5 : ∀ u : Wd (Ch [] wr), u.v.cell? ⟨b', o' + i * 7 + 5, none⟩ = some (.string tp) := fun u => u.p.cell d5 (by simp)
      have f6 : ∀ u : Wd (Ch [] wr), u.v.cell? ⟨b, o + i * 7 + 6, none⟩ = some (.string py) := fun u => u.p.cell e6 (by simp)
      have r6 : ∀ u : Wd (Ch [] wr), u.v.cell? ⟨b', o' + i * 7 + 6, none⟩ = some (.string py) := fun u => u.p.cell d6 (by simp)
      repeat (refine flow_q (by rfl) ?_; go_big_quiet_step (fail); refine flow_n ?_)
      refine flow_l (by rfl) ?_
      go_wp2_with fail
      refine Calls.mono (HT.out wr.drew (Ch.refl [] wr).drew) ?_
      rintro e w4 ⟨v, rfl, pv4, rfl, hrow4, hk4⟩
      obtain ⟨a4, c4, rfl⟩ := row_shape hrow4
      have hA4 : ArgSl w4 (.slice a4 g2 c4) ps := by
        have h9 := hrow4
        rw [HG2.out] at h9 ⊢
        exact (Sl.ofRow h9).arg
      have hs4 := (Ch.refl [] wr).drew.thenNil hk4
      have hsm := HS.out w4 _ hs4 hA4
      clear hrow4
      go_wp2
      refine ⟨hs4, ?_⟩
      refine flow_l (by rfl) ?_
      go_wp2_with fail
      refine Calls.mono hsm ?_
      rintro e w5 ⟨v, rfl, rfl, hk5⟩
      have hs5 := hs4.thenNil hk5
      go_wp2
      refine ⟨hs5, ?_⟩
      refine flow_t ?_
      clear f0 r0 f1 r1 f2 r2 f3 r3 f4 r4 f5 r5 f6 r6 hne
      simp only [List.drop_succ_cons, List.drop_zero]
      go_wp2
      refine shut0_normal ?_
      simp only [Exit.then]
      go_wp2
      refine ⟨⟨i + 1, by simp, by omega, hcr.thenNil hs5⟩, by simp; omega⟩
    · have hlt : decide ((i : Int) < (n : Int)) = false := by simpa using hi
      go_wp2
      go_ret
      exact ⟨_, rfl, rfl, hcr⟩

end Go.Proofs.YticfeikmdfijiaaDoor
