/- The law's own check: awake. -/
import Derived.Test.YticfeikmdfijiaaDoorPub
namespace Go.Proofs.YticfeikmdfijiaaDoor
open Go Go.RowKit

def mA : MsgR := ⟨⟨#[]⟩, 10, 0, false, [⟨2, 5, ⟨#[]⟩, ⟨#[]⟩⟩], ⟨#[97]⟩, ⟨#[120]⟩⟩
theorem mA_left : leftS mA 12 = (3, true) := by decide
theorem mA_gone15 : goneS mA 15 = true := by decide
theorem mA_gone14 : goneS mA 14 = false := by decide
theorem mA_gone11 : goneS mA 11 = false := by decide
theorem mA_match : matchS ⟨#[43]⟩ ⟨#[97]⟩ = true := by decide
theorem mA_set : setS [] 1 mA = ([(⟨#[97]⟩, mA)], 0) := by
  have h : ¬ (mA.payload = ⟨#[]⟩) := by decide
  simp [setS, h, alook, aset, mA]
theorem mA_pub : pubPs mA 12 = [⟨2, 3, ⟨#[]⟩, ⟨#[]⟩⟩] := by rfl
theorem mA_matches : matchesS [(⟨#[97]⟩, mA)] ⟨#[43]⟩ 11 [⟨#[97]⟩] = [mA] := by simp [matchesS, matchOne, alook, mA_match, mA_gone11]

set_option maxHeartbeats 4000000 in
theorem rawake_call (w : World) (hi : IntAt w) :
    Gives Tryd.prog 24 #[] w fun r w' => r = .bool true ∧ Ch [] w w' := by
  have hc0 : Ch [] w ((w.alloc (.cells #[.int .i64 2, .int .u32 5, .string ⟨#[]⟩, .string ⟨#[]⟩] 62)).alloc (.cells #[.string ⟨#[]⟩, .int .i64 10, .int .u8 0, .bool false, .slice (some ⟨w.heap.size, 0, none⟩) 1 1, .string ⟨#[97]⟩, .string ⟨#[120]⟩] 58)) := ((Ch.refl [] w).alloc _).alloc _
  have hp0 := heap_old (heap_new w (.cells #[.int .i64 2, .int .u32 5, .string ⟨#[]⟩, .string ⟨#[]⟩] 62)) (.cells #[.string ⟨#[]⟩, .int .i64 10, .int .u8 0, .bool false, .slice (some ⟨w.heap.size, 0, none⟩) 1 1, .string ⟨#[97]⟩, .string ⟨#[120]⟩] 58)
  have hb0 := heap_new (w.alloc (.cells #[.int .i64 2, .int .u32 5, .string ⟨#[]⟩, .string ⟨#[]⟩] 62)) (.cells #[.string ⟨#[]⟩, .int .i64 10, .int .u8 0, .bool false, .slice (some ⟨w.heap.size, 0, none⟩) 1 1, .string ⟨#[97]⟩, .string ⟨#[120]⟩] 58)
  have e1 : (w.alloc (.cells #[.int .i64 2, .int .u32 5, .string ⟨#[]⟩, .string ⟨#[]⟩] 62)).heap.size = w.heap.size + 1 := by simp
  rw [e1] at hb0
  have hm0 : MsgAt ((w.alloc (.cells #[.int .i64 2, .int .u32 5, .string ⟨#[]⟩, .string ⟨#[]⟩] 62)).alloc (.cells #[.string ⟨#[]⟩, .int .i64 10, .int .u8 0, .bool false, .slice (some ⟨w.heap.size, 0, none⟩) 1 1, .string ⟨#[97]⟩, .string ⟨#[120]⟩] 58)) mA (.slice (some ⟨w.heap.size, 0, none⟩) 1 1) :=
    ⟨(sl_new w [.int .i64 2, .int .u32 5, .string ⟨#[]⟩, .string ⟨#[]⟩] 62 4 1 rfl (le_maxLen (by omega))).keep ((Ch.refl [] _).alloc _) (by simp), by decide, by decide, by decide, by decide⟩
  go_enter Tryd.func24, Tryd.ntmps24
  go_wp2_with fail
  generalize (w.alloc (.cells #[.int .i64 2, .int .u32 5, .string ⟨#[]⟩, .string ⟨#[]⟩] 62)).alloc (.cells #[.string ⟨#[]⟩, .int .i64 10, .int .u8 0, .bool false, .slice (some ⟨w.heap.size, 0, none⟩) 1 1, .string ⟨#[97]⟩, .string ⟨#[120]⟩] 58) = w1 at hc0 hp0 hb0 hm0 ⊢
  refine Calls.mono (left_call w1 mA _ 12 hm0 (by decide) (by decide)) ?_
  rintro e w2 ⟨v, rfl, hv, hk2⟩
  rw [mA_left] at hv
  subst hv
  have hb2 := hk2.keep hb0 (by simp)
  go_wp2_with fail
  refine Calls.mono (store_new w2 1 (by decide) (by decide)) ?_
  rintro e w3 ⟨v, rfl, bs, bm, rfl, A3, hk3, hbs, hbm⟩
  have hb3 := hk3.keep hb2 (by simp)
  have hm3 := (hm0.keep hk2).keep hk3
  have c0 : w3.cell? ⟨w.heap.size + 1, 0, none⟩ = some (.string ⟨#[]⟩) := cell_of_heap hb3 0
  have c1 : w3.cell? ⟨w.heap.size + 1, 1, none⟩ = some (.int .i64 10) := cell_of_heap hb3 1
  have c2 : w3.cell? ⟨w.heap.size + 1, 2, none⟩ = some (.int .u8 0) := cell_of_heap hb3 2
  have c3 : w3.cell? ⟨w.heap.size + 1, 3, none⟩ = some (.bool false) := cell_of_heap hb3 3
  have c4 : w3.cell? ⟨w.heap.size + 1, 4, none⟩ = some (.slice (some ⟨w.heap.size, 0, none⟩) 1 1) := cell_of_heap hb3 4
  have c5 : w3.cell? ⟨w.heap.size + 1, 5, none⟩ = some (.string ⟨#[97]⟩) := cell_of_heap hb3 5
  have c6 : w3.cell? ⟨w.heap.size + 1, 6, none⟩ = some (.string ⟨#[120]⟩) := cell_of_heap hb3 6
  go_wp2_with fail
  clear c0 c1 c2 c3 c4 c5 c6
  refine Calls.mono (store_set w3 bs bm 1 [] A3 mA _ hm3) ?_
  rintro e w4 ⟨v, rfl, hv, l', A4, hl4, hk4, _⟩
  have hset : setS (absM []) 1 mA = ([(⟨#[97]⟩, mA)], 0) := mA_set
  rw [hset] at hv hl4
  subst hv
  obtain ⟨pv4, rfl⟩ : ∃ pv4, l' = [(⟨#[97]⟩, (mA, pv4))] := by
    match l', hl4 with
    | [(k, (m, pv))], h => simp [absM] at h; obtain ⟨rfl, rfl⟩ := h; exact ⟨pv, rfl⟩
  have hlt2 := lt_of_heap hb2
  have hlt0 := lt_of_heap hp0
  have hb4 := hk4.keep hb3 (by simp; omega)
  have hm4 : MsgAt w4 mA (.slice (some ⟨w.heap.size, 0, none⟩) 1 1) := by
    obtain ⟨es, c, hmb, _⟩ := A3.map
    exact hm3.keepMap hmb hk4
  have hc4 : Ch [] w w4 := ((hc0.thenNil hk2).thenNil hk3).trans hk4 (fun x hx => .inr (by simp at hx; have := (hc0.thenNil hk2).size; omega))
  have c0 : w4.cell? ⟨w.heap.size + 1, 0, none⟩ = some (.string ⟨#[]⟩) := cell_of_heap hb4 0
  have c1 : w4.cell? ⟨w.heap.size + 1, 1, none⟩ = some (.int .i64 10) := cell_of_heap hb4 1
  have c2 : w4.cell? ⟨w.heap.size + 1, 2, none⟩ = some (.int .u8 0) := cell_of_heap hb4 2
  have c3 : w4.cell? ⟨w.heap.size + 1, 3, none⟩ = some (.bool false) := cell_of_heap hb4 3
  have c4 : w4.cell? ⟨w.heap.size + 1, 4, none⟩ = some (.slice (some ⟨w.heap.size, 0, none⟩) 1 1) := cell_of_heap hb4 4
  have c5 : w4.cell? ⟨w.heap.size + 1, 5, none⟩ = some (.string ⟨#[97]⟩) := cell_of_heap hb4 5
  have c6 : w4.cell? ⟨w.heap.size + 1, 6, none⟩ = some (.string ⟨#[120]⟩) := cell_of_heap hb4 6
  go_wp2_with fail
  clear c0 c1 c2 c3 c4 c5 c6
  refine Calls.mono (gone_call w4 mA _ 15 hm4 (by decide) (by decide)) ?_
  rintro e w5 ⟨v, rfl, hv, hk5⟩
  rw [mA_gone15] at hv
  subst hv
  have hb5 := hk5.keep hb4 (by simp)
  have c0 : w5.cell? ⟨w.heap.size + 1, 0, none⟩ = some (.string ⟨#[]⟩) := cell_of_heap hb5 0
  have c1 : w5.cell? ⟨w.heap.size + 1, 1, none⟩ = some (.int .i64 10) := cell_of_heap hb5 1
  have c2 : w5.cell? ⟨w.heap.size + 1, 2, none⟩ = some (.int .u8 0) := cell_of_heap hb5 2
  have c3 : w5.cell? ⟨w.heap.size + 1, 3, none⟩ = some (.bool false) := cell_of_heap hb5 3
  have c4 : w5.cell? ⟨w.heap.size + 1, 4, none⟩ = some (.slice (some ⟨w.heap.size, 0, none⟩) 1 1) := cell_of_heap hb5 4
  have c5 : w5.cell? ⟨w.heap.size + 1, 5, none⟩ = some (.string ⟨#[97]⟩) := cell_of_heap hb5 5
  have c6 : w5.cell? ⟨w.heap.size + 1, 6, none⟩ = some (.string ⟨#[120]⟩) := cell_of_heap hb5 6
  go_wp2_with fail
  clear c0 c1 c2 c3 c4 c5 c6
  refine Calls.mono (gone_call w5 mA _ 14 (hm4.keep hk5) (by decide) (by decide)) ?_
  rintro e w6 ⟨v, rfl, hv, hk6⟩
  rw [mA_gone14] at hv
  subst hv
  have hb6 := hk6.keep hb5 (by simp)
  have A6 := (A4.keep hk5).keep hk6
  go_wp2_with fail
  refine Calls.mono (store_len w6 bs bm 1 _ A6) ?_
  rintro e w6 ⟨v, rfl, rfl, rfl⟩
  have hc6 := (hc4.thenNil hk5).thenNil hk6
  go_wp2_with fail
  refine Calls.mono (store_match w6 bs bm 1 _ A6 ⟨#[43]⟩ 11 (by decide) (by decide) (by decide) (by simp; decide) (by simp) (hi.keep hc6 (by simp))) ?_
  rintro e w7 ⟨v, rfl, ks, outs, hks, _, hou, hrow7, _, hk7⟩
  have hks' : ks = [⟨#[97]⟩] := List.perm_singleton.1 hks
  subst hks'
  have hou' : outs.map (·.1) = [mA] := hou.trans mA_matches
  have hol : outs.length = 1 := by have := congrArg List.length hou'; simpa using this
  obtain ⟨o1, o2, rfl⟩ := row_shape hrow7
  have hb7 := hk7.keep hb6 (by simp)
  have c0 : w7.cell? ⟨w.heap.size + 1, 0, none⟩ = some (.string ⟨#[]⟩) := cell_of_heap hb7 0
  have c1 : w7.cell? ⟨w.heap.size + 1, 1, none⟩ = some (.int .i64 10) := cell_of_heap hb7 1
  have c2 : w7.cell? ⟨w.heap.size + 1, 2, none⟩ = some (.int .u8 0) := cell_of_heap hb7 2
  have c3 : w7.cell? ⟨w.heap.size + 1, 3, none⟩ = some (.bool false) := cell_of_heap hb7 3
  have c4 : w7.cell? ⟨w.heap.size + 1, 4, none⟩ = some (.slice (some ⟨w.heap.size, 0, none⟩) 1 1) := cell_of_heap hb7 4
  have c5 : w7.cell? ⟨w.heap.size + 1, 5, none⟩ = some (.string ⟨#[97]⟩) := cell_of_heap hb7 5
  have c6 : w7.cell? ⟨w.heap.size + 1, 6, none⟩ = some (.string ⟨#[120]⟩) := cell_of_heap hb7 6
  go_wp2_with fail
  clear c0 c1 c2 c3 c4 c5 c6
  refine Calls.mono (pub_call w7 mA _ 12 (((hm4.keep hk5).keep hk6).keep hk7) (by decide) (by decide)) ?_
  rintro e w8 ⟨v, rfl, pv', rfl, _, hsl8, hk8⟩
  rw [mA_pub] at hsl8
  have HS : Hid (Sl w8 pv' 4 1 ([(⟨2, 3, ⟨#[]⟩, ⟨#[]⟩⟩ : PropR)].flatMap PropR.cells)) := hsl8
  clear hou hou' hrow7 hsl8 hks
  simp only [mA]
  have hfd : ∀ w : World, (Instr.field 29 (.agg #[.bool false, .bool false, .int .u8 0, .int .u32 0, pv', .string ⟨#[97]⟩, .string ⟨#[120]⟩]) 4).run Tryd.prog w = .ok pv' w := fun _ => by kernel_rfl
  set_option maxRecDepth 6000 in
  go_wp2_with fail
  refine Calls.mono (num_call w8 pv' [⟨2, 3, ⟨#[]⟩, ⟨#[]⟩⟩] 2 0 HS.out (by decide)) ?_
  rintro e w9 ⟨v, rfl, hv, hk9⟩
  have hv3 : v = .int .u32 3 := hv
  subst hv3
  go_wp2_with fail
  go_ret
  exact ⟨_, rfl, rfl, ((hc6.thenNil hk7).thenNil hk8).thenNil hk9⟩

end Go.Proofs.YticfeikmdfijiaaDoor
