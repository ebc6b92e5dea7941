/- The ledger: sent. -/
import Derived.Test.YticfeikmdfijiaaDoorLed
namespace Go.Proofs.YticfeikmdfijiaaDoor
open Go Go.RowKit

/-- A publish, as far as the ledger looks. -/
structure Pub where
  dup : Bool
  ret : Bool
  qos : Int
  id : Int
  topic : ByteArray
  payload : ByteArray

def Pub.v (p : Pub) : Value := .agg #[.bool p.dup, .bool p.ret, .int .u8 p.qos, .int .u32 p.id, .slice none 0 0, .string p.topic, .string p.payload]

def wBound : ByteArray := ⟨#[98, 111, 117, 110, 100, 32, 116, 119, 105, 99, 101]⟩
def wNever : ByteArray := ⟨#[110, 101, 118, 101, 114, 32, 98, 111, 117, 110, 100]⟩
def wRecv : ByteArray := ⟨#[115, 101, 110, 116, 32, 119, 104, 101, 110, 32, 114, 101, 99, 101, 105, 118, 101, 100]⟩
def wOther : ByteArray := ⟨#[97, 110, 111, 116, 104, 101, 114, 32, 109, 101, 115, 115, 97, 103, 101]⟩

def sentS (s : Side) (p : Pub) : Side :=
  if p.qos = 2 then
    match alook s.opens p.id with
    | some x =>
      if p.dup then
        if x.came then wrongE s wRecv p.id
        else if x.topic = p.topic ∧ x.payload = p.payload then { s with opens := aset s.opens p.id { x with times := x.times + 1 } }
        else wrongE s wOther p.id
      else wrongE s wBound p.id
    | none =>
      if p.dup then wrongE s wNever p.id
      else { s with opens := aset s.opens p.id ⟨p.id, p.topic, p.payload, 1, false, false⟩ }
  else s

/-- No more than n of anything. -/
structure Side.Few (n : Int) (s : Side) : Prop where
  errs : s.errs.length ≤ n
  done : s.done.length ≤ n
  times : ∀ p ∈ s.opens, 0 ≤ p.2.times ∧ p.2.times ≤ n
  took : ∀ p ∈ s.took, 0 ≤ p.2 ∧ p.2 ≤ n
  news : 0 ≤ s.news ∧ s.news ≤ n

theorem SideAt.drew {B : Nat} {w : World} {s : Lay} (h : SideAt B w s) : SideAt B w.drew s := ⟨h.base, h.head, h.opens, h.took, h.each, h.apart, h.done, h.errs, h.ne, h.dne, h.low⟩
theorem Moved.ofDrew {B : Nat} {w w' : World} {s s' : Lay} (h : Moved B w.drew s w' s') : Moved B w s w' s' := ⟨h.at_, h.bs, h.ch.fromDrew, h.foot⟩
theorem Moved.ofDrew2 {B : Nat} {w w' : World} {s s' : Lay} (h : Moved B w.drew.drew s w' s') : Moved B w s w' s' := h.ofDrew.ofDrew
theorem Moved.drew {B : Nat} {w w' : World} {s s' : Lay} (h : Moved B w s w' s') : Moved B w s w'.drew s' := ⟨h.at_.drew, h.bs, h.ch.drew, h.foot⟩
theorem abs_alook (s : Lay) (id : Int) : alook s.abs.opens id = (alook s.os id).map (·.2) := alook_map (fun q : Nat × Exch => q.2) s.os id

set_option maxHeartbeats 1000000 in
theorem sent_call (B : Nat) (w : World) (s : Lay) (p : Pub) (h : SideAt B w s) (ht : Tab w) (h8 : tabN ≤ B) (h0 : 0 ≤ p.id) (h1 : p.id ≤ 4294967295) (hn : s.abs.Few 100000) :
    Gives Tryd.prog 47 #[ptrOf s.bs, p.v] w fun v w' => v = .tuple #[] ∧ ∃ s', Moved B w s w' s' ∧ s'.abs = sentS s.abs p := by
  obtain ⟨dup, ret, qos, id, topic, payload⟩ := p
  simp only [Pub.v] at *
  unfold ptrOf
  by_cases hq : qos = 2
  · subst hq
    have hb : (w.alloc (Obj.cells #[.bool dup, .bool ret, .int .u8 2, .int .u32 id, .slice none 0 0, .string topic, .string payload] 29)).heap[w.heap.size]? = some (Obj.cells #[.bool dup, .bool ret, .int .u8 2, .int .u32 id, .slice none 0 0, .string topic, .string payload] 29) := heap_new w _
    have hc1 : Ch [] w (w.alloc (Obj.cells #[.bool dup, .bool ret, .int .u8 2, .int .u32 id, .slice none 0 0, .string topic, .string payload] 29)) := (Ch.refl [] w).alloc _
    go_enter Tryd.func47, Tryd.ntmps47
    go_wp2
    generalize w.alloc (Obj.cells #[.bool dup, .bool ret, .int .u8 2, .int .u32 id, .slice none 0 0, .string topic, .string payload] 29) = w1 at hb hc1 ⊢
    have M1 := Moved.other h hc1
    have ht1 := ht.keep hc1 h8 (by simp)
    have c0 : w1.cell? ⟨s.bs, 0, none⟩ = some (.map (some s.bo)) := cell_of_heap M1.at_.head 0
    have b0 : w1.cell? ⟨w.heap.size, 0, none⟩ = some (.bool dup) := cell_of_heap hb 0
    have b3 : w1.cell? ⟨w.heap.size, 3, none⟩ = some (.int .u32 id) := cell_of_heap hb 3
    have b5 : w1.cell? ⟨w.heap.size, 5, none⟩ = some (.string topic) := cell_of_heap hb 5
    have b6 : w1.cell? ⟨w.heap.size, 6, none⟩ = some (.string payload) := cell_of_heap hb 6
    have ha := abs_alook s id
    cases hx : alook s.os id with
    | none =>
      rw [hx] at ha
      refine wp_region_flow (Ch [] w1) 7 [(true, 0), (true, 1), (true, 2), (true, 3), (true, 4), (true, 5), (true, 6)] (by kernel_rfl) (by kernel_rfl) (Ch.refl [] w1).drew ?_
      intro hS hne
      have f0 := wd_cell M1.at_.head 0 (v := .map (some s.bo)) rfl
      have f3 := wd_cell hb 3 rfl
      have fl := wd_look M1.at_.opens kU32 Tryd.underlying105 Tryd.zeroValue112 id (v := .pointer none) (by rw [alook_map (fun q : Nat × Exch => ptrOf q.1), hx]; rfl)
      repeat (refine flow_q (by rfl) ?_; go_big_quiet_step (fail); refine flow_n ?_)
      refine flow_t ?_
      simp only [List.drop_succ_cons, List.drop_zero]
      go_wp2
      refine shut0_normal ?_
      clear f0 f3 fl hne hS
      simp only [Exit.then, Exit.inBlock]
      cases dup with
      | false =>
        go_wp2
        refine wp_region_flow (Ch [] w1) 14 [(true, 0), (true, 1), (true, 2), (true, 3), (true, 4), (true, 5), (true, 6), (true, 7), (true, 8), (true, 9), (true, 10), (true, 11), (true, 12), (false, 13)] (by kernel_rfl) (by kernel_rfl) (Ch.refl [] w1).drew.drew ?_
        intro hS hne
        have f0 := wd_cell M1.at_.head 0 (v := .map (some s.bo)) rfl
        have f3 := wd_cell hb 3 rfl
        have f5 := wd_cell hb 5 rfl
        have f6 := wd_cell hb 6 rfl
        repeat (refine flow_q (by rfl) ?_; go_big_quiet_step (fail); refine flow_n ?_)
        refine flow_l (by rfl) ?_
        go_wp2
        refine ⟨hS.alloc _, ?_⟩
        refine flow_t ?_
        clear f0 f3 f5 f6 hne
        obtain ⟨w3, hrun, hm3, hc3, hs3⟩ := (M1.at_.opens.keep ((Ch.refl [] _).alloc (Obj.cells #[.int .u32 id, .string topic, .string payload, .int .i64 1, .bool false, .bool false] 114)).drew.drew (by simp)).run_put kU32 Tryd.underlying105 id (.pointer (some ⟨w1.heap.size, 0, none⟩))
        simp only [List.drop_succ_cons, List.drop_zero]
        go_wp2
        refine shut0_normal ?_
        simp only [Exit.then, Exit.inBlock]
        go_wp2
        go_end0
        refine ⟨_, rfl, rfl, _, M1.trans (M1.at_.newOpen (x := ⟨id, topic, payload, 1, false, false⟩) hx (by rw [aset_map (fun q : Nat × Exch => ptrOf q.1)]; exact hm3) hc3.fromDrew.fromDrew), ?_⟩
        simp only [sentS, ha]
        simp only [Lay.abs, aset_map (fun q : Nat × Exch => q.2)]
        rfl
      | true =>
        go_wp2_with (go_at_call 48; refine Calls.mono (wrong_call B _ s _ id M1.at_.drew ht1.drew h0 h1 (by decide) (by have := hn.errs; simp only [Lay.abs] at this; omega)) ?_; rintro e w' ⟨v, rfl, rfl, s', M, habs⟩)
        go_end0
        exact ⟨_, rfl, rfl, s', M1.trans M.ofDrew, by rw [habs]; simp [sentS, ha, wBound, wNever, wRecv, wOther]⟩
    | some bx =>
      obtain ⟨b, x⟩ := bx
      rw [hx] at ha
      refine wp_region_flow (Ch [] w1) 7 [(true, 0), (true, 1), (true, 2), (true, 3), (true, 4), (true, 5), (true, 6)] (by kernel_rfl) (by kernel_rfl) (Ch.refl [] w1).drew ?_
      intro hS hne
      have f0 := wd_cell M1.at_.head 0 (v := .map (some s.bo)) rfl
      have f3 := wd_cell hb 3 rfl
      have fl := wd_look M1.at_.opens kU32 Tryd.underlying105 Tryd.zeroValue112 id (v := .pointer (some ⟨b, 0, none⟩)) (by rw [alook_map (fun q : Nat × Exch => ptrOf q.1), hx]; rfl)
      repeat (refine flow_q (by rfl) ?_; go_big_quiet_step (fail); refine flow_n ?_)
      refine flow_t ?_
      simp only [List.drop_succ_cons, List.drop_zero]
      go_wp2
      refine shut0_normal ?_
      clear f0 f3 fl hne hS
      simp only [Exit.then, Exit.inBlock]
      cases dup with
      | false =>
        go_wp2_with (go_at_call 48; refine Calls.mono (wrong_call B _ s _ id M1.at_.drew ht1.drew h0 h1 (by decide) (by have := hn.errs; simp only [Lay.abs] at this; omega)) ?_; rintro e w' ⟨v, rfl, rfl, s', M, habs⟩)
        go_end0
        exact ⟨_, rfl, rfl, s', M1.trans M.ofDrew, by rw [habs]; simp [sentS, ha, wBound, wNever, wRecv, wOther]⟩
      | true =>
        obtain ⟨xid, xt, xp, tm, came, over⟩ := x
        have hxb := M1.at_.each _ (alook_mem hx)
        simp only [Exch.cells] at hxb
        have x4 : w1.cell? ⟨b, 4, none⟩ = some (.bool came) := cell_of_heap hxb 4
        cases came with
        | true =>
          go_wp2_with (go_at_call 48; refine Calls.mono (wrong_call B _ s _ id M1.at_.drew ht1.drew h0 h1 (by decide) (by have := hn.errs; simp only [Lay.abs] at this; omega)) ?_; rintro e w' ⟨v, rfl, rfl, s', M, habs⟩)
          go_end0
          exact ⟨_, rfl, rfl, s', M1.trans M.ofDrew, by rw [habs]; simp [sentS, ha, wBound, wNever, wRecv, wOther]⟩
        | false =>
          go_wp2
          by_cases e1 : xt = topic
          · subst e1
            by_cases e2 : xp = payload
            · subst e2
              have x3 : w1.cell? ⟨b, 3, none⟩ = some (.int .i64 tm) := cell_of_heap hxb 3
              have xf : w1.frozen? ⟨b, 3, none⟩ = false := free_of_heap hxb 3
              have htm := hn.times (id, ⟨xid, xt, xp, tm, false, over⟩) (by
                have := alook_mem hx
                simp only [Lay.abs, List.mem_map]
                exact ⟨_, this, rfl⟩)
              have hwr : IntKind.i64.wrap (tm + 1) = tm + 1 := by simp only at htm; rw [IntKind.wrap_i64]; omega
              refine wp_region_flow (Ch [] w1) 16 [(true, 0), (true, 1), (true, 2), (true, 3), (true, 4), (true, 5), (true, 6), (true, 7), (true, 8), (true, 9), (true, 10), (true, 11), (true, 12), (true, 13), (true, 14), (true, 15)] (by kernel_rfl) (by kernel_rfl) (Ch.refl [] w1).drew.drew ?_
              intro hS hne
              have f1 := wd_cell hxb 1 rfl
              have f2 := wd_cell hxb 2 rfl
              have f5 := wd_cell hb 5 rfl
              have f6 := wd_cell hb 6 rfl
              repeat (refine flow_q (by rfl) ?_; go_big_quiet_step (fail); refine flow_n ?_)
              refine flow_t ?_
              simp only [List.drop_succ_cons, List.drop_zero]
              go_wp2
              refine shut0_normal ?_
              clear f1 f2 f5 f6 hne hS
              simp only [Exit.then, Exit.inBlock]
              go_wp2
              go_end0
              refine ⟨_, rfl, rfl, _, M1.trans (M1.at_.setExch (x' := ⟨xid, xt, xp, tm + 1, false, over⟩) hx (i := 3) (v := .int .i64 (tm + 1)) rfl).drew.drew, ?_⟩
              simp only [sentS, ha]
              simp only [Lay.abs, aset_map (fun q : Nat × Exch => q.2)]
              simp
            · have e3 := bytes_ne e2
              refine wp_region_flow (Ch [] w1) 16 [(true, 0), (true, 1), (true, 2), (true, 3), (true, 4), (true, 5), (true, 6), (true, 7), (true, 8), (true, 9), (true, 10), (true, 11), (true, 12), (true, 13), (true, 14), (true, 15)] (by kernel_rfl) (by kernel_rfl) (Ch.refl [] w1).drew.drew ?_
              intro hS hne
              have f1 := wd_cell hxb 1 rfl
              have f2 := wd_cell hxb 2 rfl
              have f5 := wd_cell hb 5 rfl
              have f6 := wd_cell hb 6 rfl
              repeat (refine flow_q (by rfl) ?_; go_big_quiet_step (fail); refine flow_n ?_)
              refine flow_t ?_
              simp only [List.drop_succ_cons, List.drop_zero]
              go_wp2
              refine shut0_normal ?_
              clear f1 f2 f5 f6 hne hS
              simp only [Exit.then, Exit.inBlock]
              go_wp2_with (go_at_call 48; refine Calls.mono (wrong_call B _ s _ id M1.at_.drew.drew ht1.drew.drew h0 h1 (by decide) (by have := hn.errs; simp only [Lay.abs] at this; omega)) ?_; rintro e w' ⟨v, rfl, rfl, s', M, habs⟩)
              go_end0
              exact ⟨_, rfl, rfl, s', M1.trans M.ofDrew2, by rw [habs]; simp [sentS, ha, wBound, wNever, wRecv, wOther, e2]⟩
          · have e3 := bytes_ne e1
            refine wp_region_flow (Ch [] w1) 16 [(true, 0), (true, 1), (true, 2), (true, 3), (true, 4), (true, 5), (true, 6), (true, 7), (true, 8), (true, 9), (true, 10), (true, 11), (true, 12), (true, 13), (true, 14), (true, 15)] (by kernel_rfl) (by kernel_rfl) (Ch.refl [] w1).drew.drew ?_
            intro hS hne
            have f1 := wd_cell hxb 1 rfl
            have f2 := wd_cell hxb 2 rfl
            have f5 := wd_cell hb 5 rfl
            have f6 := wd_cell hb 6 rfl
            repeat (refine flow_q (by rfl) ?_; go_big_quiet_step (fail); refine flow_n ?_)
            refine flow_t ?_
            simp only [List.drop_succ_cons, List.drop_zero]
            go_wp2
            refine shut0_normal ?_
            clear f1 f2 f5 f6 hne hS
            simp only [Exit.then, Exit.inBlock]
            go_wp2_with (go_at_call 48; refine Calls.mono (wrong_call B _ s _ id M1.at_.drew.drew ht1.drew.drew h0 h1 (by decide) (by have := hn.errs; simp only [Lay.abs] at this; omega)) ?_; rintro e w' ⟨v, rfl, rfl, s', M, habs⟩)
            go_end0
            exact ⟨_, rfl, rfl, s', M1.trans M.ofDrew2, by rw [habs]; simp [sentS, ha, wBound, wNever, wRecv, wOther, e1]⟩
  · have hc1 : Ch [] w (w.alloc (Obj.cells #[.bool dup, .bool ret, .int .u8 qos, .int .u32 id, .slice none 0 0, .string topic, .string payload] 29)) := (Ch.refl [] w).alloc _
    go_enter Tryd.func47, Tryd.ntmps47
    go_wp2
    refine bodyPost_ret (results_none rfl _ _ _) rfl ?_
    exact ⟨_, rfl, rfl, s, Moved.other h hc1, by simp [sentS, hq]⟩

end Go.Proofs.YticfeikmdfijiaaDoor
