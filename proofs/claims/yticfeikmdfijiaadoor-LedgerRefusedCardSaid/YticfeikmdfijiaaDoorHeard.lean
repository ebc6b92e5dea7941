/- The ledger: heard. -/
import Derived.Test.YticfeikmdfijiaaDoorSent
namespace Go.Proofs.YticfeikmdfijiaaDoor
open Go Go.RowKit

/-- An answer. -/
structure Ans where
  kind : Int
  id : Int
  code : Int

def Ans.v (a : Ans) : Value := .agg #[.int .i64 a.kind, .int .u32 a.id, .int .u8 a.code, .slice none 0 0]

def heardS (s : Side) (a : Ans) : Side :=
  if a.kind = 6 then { s with took := adel s.took a.id }
  else match alook s.opens a.id with
    | none => s
    | some x =>
      if a.kind = 5 then
        if a.code < 128 ∨ x.came = true then { s with opens := aset s.opens a.id { x with came := true } }
        else { s with opens := adel s.opens a.id }
      else if a.kind = 7 ∧ x.came = true then { s with done := s.done ++ [{ x with over := true }], opens := adel s.opens a.id }
      else s

theorem Moved.same {B : Nat} {w w' : World} {s s' s2 : Lay} (h : Moved B w s w' s') (e : s' = s2) : Moved B w s w' s2 := e ▸ h

set_option maxHeartbeats 2000000 in
theorem heard_call (B : Nat) (w : World) (s : Lay) (a : Ans) (h : SideAt B w s) (hn : s.abs.Few 100000) :
    Gives Tryd.prog 49 #[ptrOf s.bs, a.v] w fun v w' => v = .tuple #[] ∧ ∃ s', Moved B w s w' s' ∧ s'.abs = heardS s.abs a := by
  obtain ⟨kind, id, code⟩ := a
  simp only [Ans.v] at *
  unfold ptrOf
  have hb : (w.alloc (Obj.cells #[.int .i64 kind, .int .u32 id, .int .u8 code, .slice none 0 0] 34)).heap[w.heap.size]? = some (Obj.cells #[.int .i64 kind, .int .u32 id, .int .u8 code, .slice none 0 0] 34) := heap_new w _
  have hc1 : Ch [] w (w.alloc (Obj.cells #[.int .i64 kind, .int .u32 id, .int .u8 code, .slice none 0 0] 34)) := (Ch.refl [] w).alloc _
  go_enter Tryd.func49, Tryd.ntmps49
  go_wp2
  generalize w.alloc (Obj.cells #[.int .i64 kind, .int .u32 id, .int .u8 code, .slice none 0 0] 34) = w1 at hb hc1 ⊢
  have M1 := Moved.other h hc1
  have b0 : w1.cell? ⟨w.heap.size, 0, none⟩ = some (.int .i64 kind) := cell_of_heap hb 0
  have b1 : w1.cell? ⟨w.heap.size, 1, none⟩ = some (.int .u32 id) := cell_of_heap hb 1
  have b2 : w1.cell? ⟨w.heap.size, 2, none⟩ = some (.int .u8 code) := cell_of_heap hb 2
  have ha := abs_alook s id
  by_cases k6 : kind = 6
  · subst k6
    have hd : ∀ w3, IsMap (Value.int .u32) w3 s.bk (adel (s.took.map fun p => (p.1, Value.int .i64 p.2)) id) → Ch [s.bk] w1.drew.drew w3 → ∃ s', Moved B w s w3 s' ∧ s'.abs = heardS s.abs ⟨6, id, code⟩ := fun w3 hm3 hc3 =>
      ⟨_, M1.trans (Moved.ofDrew2 (M1.at_.drew.drew.setTook (by rw [adel_map (fun q : Int => Value.int .i64 q)]; exact hm3) hc3)), rfl⟩
    cases hx : alook s.os id with
    | none =>
      refine wp_region_flow (Ch [] w1) 7 [(true, 0), (true, 1), (true, 2), (true, 3), (true, 4), (true, 5), (true, 6)] (by kernel_rfl) (by kernel_rfl) ((Ch.refl [] w1).drew) ?_
      intro hS hne
      have f0 := wd_cell M1.at_.head 0 (v := .map (some s.bo)) rfl
      have f1 := wd_cell hb 1 rfl
      have fl := wd_look M1.at_.opens kU32 Tryd.underlying105 Tryd.zeroValue112 id (v := .pointer none) (by rw [alook_map (fun q : Nat × Exch => ptrOf q.1), hx]; rfl)
      repeat (refine flow_q (by rfl) ?_; go_big_quiet_step (fail); refine flow_n ?_)
      refine flow_t ?_
      clear f0 f1 fl hne hS
      simp only [List.drop_succ_cons, List.drop_zero]
      go_wp2
      refine shut0_normal ?_
      simp only [Exit.then, Exit.inBlock]
      go_wp2
      refine wp_region_flow (Ch [] w1) 6 [(true, 0), (true, 1), (true, 2), (true, 3), (true, 4), (true, 5)] (by kernel_rfl) (by kernel_rfl) ((Ch.refl [] w1).drew.drew) ?_
      intro hS hne
      have f0 := wd_cell M1.at_.head 2 (v := .map (some s.bk)) rfl
      have f1 := wd_cell hb 1 rfl
      repeat (refine flow_q (by rfl) ?_; go_big_quiet_step (fail); refine flow_n ?_)
      refine flow_t ?_
      clear f0 f1 hne hS
      obtain ⟨w3, hrun, hm3, hc3, hs3⟩ := M1.at_.drew.drew.took.run_del kU32 Tryd.underlying106 id 0
      simp only [List.drop_succ_cons, List.drop_zero]
      go_wp2
      refine shut0_normal ?_
      simp only [Exit.then, Exit.inBlock]
      go_wp2
      go_end0
      obtain ⟨s', hM, he⟩ := hd w3 hm3 hc3
      exact ⟨_, rfl, rfl, s', hM, he⟩
    | some bx =>
      obtain ⟨b, x⟩ := bx
      refine wp_region_flow (Ch [] w1) 7 [(true, 0), (true, 1), (true, 2), (true, 3), (true, 4), (true, 5), (true, 6)] (by kernel_rfl) (by kernel_rfl) ((Ch.refl [] w1).drew) ?_
      intro hS hne
      have f0 := wd_cell M1.at_.head 0 (v := .map (some s.bo)) rfl
      have f1 := wd_cell hb 1 rfl
      have fl := wd_look M1.at_.opens kU32 Tryd.underlying105 Tryd.zeroValue112 id (v := .pointer (some ⟨b, 0, none⟩)) (by rw [alook_map (fun q : Nat × Exch => ptrOf q.1), hx]; rfl)
      repeat (refine flow_q (by rfl) ?_; go_big_quiet_step (fail); refine flow_n ?_)
      refine flow_t ?_
      clear f0 f1 fl hne hS
      simp only [List.drop_succ_cons, List.drop_zero]
      go_wp2
      refine shut0_normal ?_
      simp only [Exit.then, Exit.inBlock]
      go_wp2
      refine wp_region_flow (Ch [] w1) 6 [(true, 0), (true, 1), (true, 2), (true, 3), (true, 4), (true, 5)] (by kernel_rfl) (by kernel_rfl) ((Ch.refl [] w1).drew.drew) ?_
      intro hS hne
      have f0 := wd_cell M1.at_.head 2 (v := .map (some s.bk)) rfl
      have f1 := wd_cell hb 1 rfl
      repeat (refine flow_q (by rfl) ?_; go_big_quiet_step (fail); refine flow_n ?_)
      refine flow_t ?_
      clear f0 f1 hne hS
      obtain ⟨w3, hrun, hm3, hc3, hs3⟩ := M1.at_.drew.drew.took.run_del kU32 Tryd.underlying106 id 0
      simp only [List.drop_succ_cons, List.drop_zero]
      go_wp2
      refine shut0_normal ?_
      simp only [Exit.then, Exit.inBlock]
      go_wp2
      go_end0
      obtain ⟨s', hM, he⟩ := hd w3 hm3 hc3
      exact ⟨_, rfl, rfl, s', hM, he⟩
  · have k6' : (kind == 6) = false := by simpa using k6
    cases hx : alook s.os id with
    | none =>
      rw [hx] at ha
      refine wp_region_flow (Ch [] w1) 7 [(true, 0), (true, 1), (true, 2), (true, 3), (true, 4), (true, 5), (true, 6)] (by kernel_rfl) (by kernel_rfl) ((Ch.refl [] w1).drew) ?_
      intro hS hne
      have f0 := wd_cell M1.at_.head 0 (v := .map (some s.bo)) rfl
      have f1 := wd_cell hb 1 rfl
      have fl := wd_look M1.at_.opens kU32 Tryd.underlying105 Tryd.zeroValue112 id (v := .pointer none) (by rw [alook_map (fun q : Nat × Exch => ptrOf q.1), hx]; rfl)
      repeat (refine flow_q (by rfl) ?_; go_big_quiet_step (fail); refine flow_n ?_)
      refine flow_t ?_
      clear f0 f1 fl hne hS
      simp only [List.drop_succ_cons, List.drop_zero]
      go_wp2
      refine shut0_normal ?_
      simp only [Exit.then, Exit.inBlock]
      go_wp2
      go_end0
      exact ⟨_, rfl, rfl, s, M1.drew, by simp [heardS, k6, ha]⟩
    | some bx =>
      obtain ⟨b, x⟩ := bx
      rw [hx] at ha
      obtain ⟨xid, xt, xp, tm, came, over⟩ := x
      have hmem := alook_mem hx
      have hxb := M1.at_.each _ hmem
      simp only [Exch.cells] at hxb
      have x4 : w1.cell? ⟨b, 4, none⟩ = some (.bool came) := cell_of_heap hxb 4
      have xf : ∀ i, w1.frozen? ⟨b, i, none⟩ = false := fun i => free_of_heap hxb i
      have xf4 := xf 4
      refine wp_region_flow (Ch [] w1) 7 [(true, 0), (true, 1), (true, 2), (true, 3), (true, 4), (true, 5), (true, 6)] (by kernel_rfl) (by kernel_rfl) ((Ch.refl [] w1).drew) ?_
      intro hS hne
      have f0 := wd_cell M1.at_.head 0 (v := .map (some s.bo)) rfl
      have f1 := wd_cell hb 1 rfl
      have fl := wd_look M1.at_.opens kU32 Tryd.underlying105 Tryd.zeroValue112 id (v := .pointer (some ⟨b, 0, none⟩)) (by rw [alook_map (fun q : Nat × Exch => ptrOf q.1), hx]; rfl)
      repeat (refine flow_q (by rfl) ?_; go_big_quiet_step (fail); refine flow_n ?_)
      refine flow_t ?_
      clear f0 f1 fl hne hS
      simp only [List.drop_succ_cons, List.drop_zero]
      go_wp2
      refine shut0_normal ?_
      simp only [Exit.then, Exit.inBlock]
      by_cases k5 : kind = 5
      · subst k5
        have hcame : ∀ w3, w3 = ((w1.setCell ⟨b, 4, none⟩ (.bool true)).drew) → ∃ s', Moved B w s w3 s' ∧ s'.abs = { s.abs with opens := aset s.abs.opens id ⟨xid, xt, xp, tm, true, over⟩ } := by
          rintro w3 rfl
          refine ⟨_, M1.trans (M1.at_.setExch (x' := ⟨xid, xt, xp, tm, true, over⟩) hx (i := 4) (v := .bool true) rfl).drew, ?_⟩
          simp only [Lay.abs, aset_map (fun q : Nat × Exch => q.2)]
        by_cases hcode : code < 128
        · have hco : decide (code < 128) = true := by simpa using hcode
          go_wp2
          go_end0
          obtain ⟨s', hM, he⟩ := hcame _ rfl
          exact ⟨_, rfl, rfl, s', hM, by rw [he]; simp [heardS, ha, hcode]⟩
        · have hco : decide (code < 128) = false := by simpa using hcode
          cases came with
          | true =>
            go_wp2
            go_end0
            obtain ⟨s', hM, he⟩ := hcame _ rfl
            exact ⟨_, rfl, rfl, s', hM, by rw [he]; simp [heardS, ha]⟩
          | false =>
            go_wp2
            refine wp_region_flow (Ch [] w1) 6 [(true, 0), (true, 1), (true, 2), (true, 3), (true, 4), (true, 5)] (by kernel_rfl) (by kernel_rfl) ((Ch.refl [] w1).drew.drew) ?_
            intro hS hne
            have f0 := wd_cell M1.at_.head 0 (v := .map (some s.bo)) rfl
            have f1 := wd_cell hb 1 rfl
            repeat (refine flow_q (by rfl) ?_; go_big_quiet_step (fail); refine flow_n ?_)
            refine flow_t ?_
            clear f0 f1 hne hS
            obtain ⟨w3, hrun, hm3, hc3, hs3⟩ := M1.at_.drew.drew.opens.run_del kU32 Tryd.underlying105 id 0
            simp only [List.drop_succ_cons, List.drop_zero]
            go_wp2
            refine shut0_normal ?_
            simp only [Exit.then, Exit.inBlock]
            go_wp2
            go_end0
            refine ⟨_, rfl, rfl, _, M1.trans (Moved.ofDrew2 (M1.at_.drew.drew.subOpens (adel_sub s.os id) (by rw [adel_map (fun q : Nat × Exch => ptrOf q.1)]; exact hm3) hc3)), ?_⟩
            simp only [heardS, ha, Option.map_some]
            simp only [Lay.abs, adel_map (fun q : Nat × Exch => q.2)]
            simp [hcode]
            intro hh
            omega
      · have k5' : (kind == 5) = false := by simpa using k5
        by_cases k7 : kind = 7
        · subst k7
          cases came with
          | false =>
            go_wp2
            go_end0
            exact ⟨_, rfl, rfl, s, M1.drew, by simp [heardS, ha]⟩
          | true =>
            have x5 : w1.cell? ⟨b, 5, none⟩ = some (.bool over) := cell_of_heap hxb 5
            have xf5 := xf 5
            go_wp2
            have hlt : b < w.heap.size := lt_of_heap (h.each _ hmem)
            have hb2 := heap_setCell_ne hb (p := ⟨b, 5, none⟩) (by show w.heap.size ≠ b; omega) (.bool true)
            have M2 := M1.at_.setExch (x' := ⟨xid, xt, xp, tm, true, true⟩) hx (i := 5) (v := .bool true) rfl
            have hx2 : alook (aset s.os id (b, (⟨xid, xt, xp, tm, true, true⟩ : Exch))) id = some (b, ⟨xid, xt, xp, tm, true, true⟩) := by simp [alook_aset]
            generalize w1.setCell ⟨b, 5, none⟩ (.bool true) = w2 at hb2 M2 ⊢
            have A2 := M2.at_
            have F2 := A2.far
            have hb6 := A2.each _ (alook_mem hx2)
            simp only [Exch.cells] at hb6
            have hnb : b ∉ s.dv.ownBlock.toList := by simpa using F2.pd _ (alook_mem hx2)
            have hns : s.bs ∉ s.dv.ownBlock.toList := by simpa using F2.ds
            have hdv : w2.cell? ⟨s.bs, 1, none⟩ = some s.dv := cell_of_heap A2.head 1
            refine wp_region_flow (Ch s.dv.ownBlock.toList w2) 12 [(true, 0), (true, 1), (true, 2), (true, 3), (true, 4), (true, 5), (true, 6), (true, 7), (false, 8), (false, 9), (true, 10), (true, 11)] (by kernel_rfl) (by kernel_rfl) (Ch.refl _ w2).drew.drew ?_
            intro hS hne
            have f1 := wd_cellS A2.head hns 1 (v := s.dv) rfl
            have g0 := wd_cellS hb6 hnb 0 rfl
            have g1 := wd_cellS hb6 hnb 1 rfl
            have g2 := wd_cellS hb6 hnb 2 rfl
            have g3 := wd_cellS hb6 hnb 3 rfl
            have g4 := wd_cellS hb6 hnb 4 rfl
            have g5 := wd_cellS hb6 hnb 5 rfl
            repeat (refine flow_q (by rfl) ?_; go_big_quiet_step (fail); refine flow_n ?_)
            refine flow_l (by rfl) ?_
            go_wp2
            refine ⟨hS.alloc _, ?_⟩
            refine flow_l (by rfl) ?_
            have hxs := sl_new w2 [.int .u32 xid, .string xt, .string xp, .int .i64 tm, .bool true, .bool true] 114 6 1 rfl (le_maxLen (by omega))
            have hcA : Ch [] w2 (w2.alloc (Obj.cells [.int .u32 xid, .string xt, .string xp, .int .i64 tm, .bool true, .bool true].toArray 114)) := (Ch.refl [] w2).alloc _
            have hr2 := row_keep A2.done hcA (by simp)
            have hnd : s.done.length ≤ 100000 := by have := hn.done; simp only [Lay.abs] at this; omega
            refine wl_app rfl (.tmp 70) (.tmp 74) elExch rfl hr2 rfl hxs rfl (by simp [Value.oneCell']) (le_maxLen (by show s.done.length + 1 ≤ _; omega)) (by show (s.done.length + 1) * 56 ≤ _; omega) (Nat.le_trans A2.base hcA.size) ?_
            intro dv' w3 hr3 hg3 _ hor
            obtain ⟨d1, d2, rfl⟩ := row_shape hr3
            have hg3' : (w2.alloc (Obj.cells [.int .u32 xid, .string xt, .string xp, .int .i64 tm, .bool true, .bool true].toArray 114)).grownBy w3 s.dv.ownBlock := ⟨hg3.os, hg3.tape, hg3.output, hg3.size, hg3.block⟩
            have hc3 : Ch s.dv.ownBlock.toList w2 w3 := hcA.ofNil.grown hg3' (fun k hk => .inl (by simp [hk]))
            refine wpList_nil ⟨hc3, ?_⟩
            simp only [Act.put, List.setIfInBounds_toArray, List.set_cons_succ, List.set_cons_zero]
            repeat (refine flow_q (by rfl) ?_; go_big_quiet_step (fail); refine flow_n ?_)
            refine flow_t ?_
            clear f1 g0 g1 g2 g3 g4 g5 hne hS
            simp only [List.drop_succ_cons, List.drop_zero]
            have hh3 := hc3.keep A2.head hns
            have c3 : w3.cell? ⟨s.bs, 1, none⟩ = some s.dv := cell_of_heap hh3 1
            have c3f : w3.frozen? ⟨s.bs, 1, none⟩ = false := free_of_heap hh3 1
            go_wp2
            refine shut0_normal ?_
            simp only [Exit.then, Exit.inBlock]
            have M3 := A2.setDone (done' := s.done ++ [⟨xid, xt, xp, tm, true, true⟩]) hc3 (by simpa [Exch.cells] using hr3) (by
              rcases hor with h1 | h1
              · exact .inl h1
              · exact .inr ⟨_, hcA.size, h1⟩)
            have hb3 : (w3.setCell ⟨s.bs, 1, none⟩ (.slice d1 (s.done.length + 1) d2)).heap[w.heap.size]? = _ := heap_setCell_ne (hc3.keep hb2 (by
              intro hm
              have := A2.done.lt w.heap.size (by simpa using hm)
              have h2 := ownBlock_lt h.done (by simpa using hm : s.dv.ownBlock = some w.heap.size)
              omega)) (by show w.heap.size ≠ s.bs; have := lt_of_heap h.head; omega) _
            go_wp2
            have M4 := (M1.trans M2).trans M3
            have A3 := M3.at_
            have hbs : s.bo = s.bo := rfl
            generalize w3.setCell ⟨s.bs, 1, none⟩ (.slice d1 (s.done.length + 1) d2) = w4 at hb3 M3 M4 A3 ⊢
            clear M3 c3 c3f hh3 hg3 hg3' hr3 hr2 hcA hxs hc3
            refine wp_region_flow (Ch [] w4) 6 [(true, 0), (true, 1), (true, 2), (true, 3), (true, 4), (true, 5)] (by kernel_rfl) (by kernel_rfl) ((Ch.refl [] w4).drew) ?_
            intro hS hne
            have f0 := wd_cell M4.at_.head 0 (v := .map (some s.bo)) rfl
            have f1 := wd_cell hb3 1 rfl
            repeat (refine flow_q (by rfl) ?_; go_big_quiet_step (fail); refine flow_n ?_)
            refine flow_t ?_
            clear f0 f1 hne hS
            obtain ⟨w3, hrun, hm3, hc3, hs3⟩ := M4.at_.drew.opens.run_del kU32 Tryd.underlying105 id 0
            simp only [List.drop_succ_cons, List.drop_zero]
            go_wp2
            refine shut0_normal ?_
            simp only [Exit.then, Exit.inBlock]
            go_wp2
            go_end0
            refine ⟨_, rfl, rfl, _, M4.trans (Moved.ofDrew (M4.at_.drew.subOpens (adel_sub _ id) (by rw [adel_map (fun q : Nat × Exch => ptrOf q.1)]; exact hm3) hc3)), ?_⟩
            simp only [heardS, ha, Option.map_some]
            simp only [Lay.abs, adel_map (fun q : Nat × Exch => q.2), aset_map (fun q : Nat × Exch => q.2), adel_aset]
            simp
        · have k7' : (kind == 7) = false := by simpa using k7
          go_wp2
          go_end0
          exact ⟨_, rfl, rfl, s, M1.drew, by simp [heardS, k6, k5, k7, ha]⟩

end Go.Proofs.YticfeikmdfijiaaDoor
