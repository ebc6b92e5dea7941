/- The ledger: Said, Heard, New. -/
import Derived.Test.YticfeikmdfijiaaDoorHeard
namespace Go.Proofs.YticfeikmdfijiaaDoor
open Go Go.RowKit

def notIface : TypeDesc → Bool
  | .interface _ => false
  | _ => true

theorem run_ta_yes {P : Program} {t x : TypeId} {d : TypeDesc} (hd : P.underlying t = some d) (hi : notIface d = true) (v : Value) (w : World) : (Instr.typeAssert (.iface t v) x t true).run P w = .ok (.tuple #[v, .bool true]) w := by
  cases d <;> first | (simp [notIface] at hi; done) | simp [Instr.typeAssert, run_underlying hd, Result.andThen]
theorem run_ta_no {P : Program} {t u x : TypeId} {d : TypeDesc} (hd : P.underlying t = some d) (hi : notIface d = true) {z : Value} (hz : ∀ w, (zeroValue t).run P w = .ok z w) (hne : u ≠ t) (v : Value) (w : World) : (Instr.typeAssert (.iface u v) x t true).run P w = .ok (.tuple #[z, .bool false]) w := by
  cases d <;> first | (simp [notIface] at hi; done) | simp [Instr.typeAssert, run_underlying hd, Result.andThen, hne, hz]

set_option maxHeartbeats 1000000 in
theorem said_pub (B : Nat) (w : World) (s : Lay) (p : Pub) (h : SideAt B w s) (ht : Tab w) (h8 : tabN ≤ B) (h0 : 0 ≤ p.id) (h1 : p.id ≤ 4294967295) (hn : s.abs.Few 100000) :
    Gives Tryd.prog 13 #[ptrOf s.bs, .iface 31 p.v] w fun v w' => v = .tuple #[] ∧ ∃ s', Moved B w s w' s' ∧ s'.abs = sentS s.abs p := by
  unfold ptrOf
  have hm := Moved.other h ((Ch.refl [] w).alloc (Obj.cells #[.bool p.dup, .bool p.ret, .int .u8 p.qos, .int .u32 p.id, .slice none 0 0, .string p.topic, .string p.payload] 31))
  have hc := sent_call B _ s p hm.at_ (ht.keep ((Ch.refl [] w).alloc _) h8 (by simp)) h8 h0 h1 hn
  unfold Pub.v ptrOf at hc
  unfold Pub.v
  have ta := run_ta_yes (x := 110) Tryd.underlying31 rfl
  go_enter Tryd.func13, Tryd.ntmps13
  go_wp2_with (go_at_call 47; refine Calls.mono hc ?_; rintro e w' ⟨v, rfl, rfl, s', M, habs⟩)
  go_end0
  exact ⟨_, rfl, rfl, s', hm.trans M, habs⟩

def wReleased : ByteArray := ⟨#[114, 101, 108, 101, 97, 115, 101, 100]⟩
def releasedS (s : Side) (a : Ans) : Side :=
  if a.kind = 6 ∧ a.code = 0 then
    match alook s.opens a.id with
    | none => wrongE s wReleased a.id
    | some x => if x.came then s else wrongE s wReleased a.id
  else s

set_option maxHeartbeats 2000000 in
theorem said_ack (B : Nat) (w : World) (s : Lay) (a : Ans) (h : SideAt B w s) (ht : Tab w) (h8 : tabN ≤ B) (h0 : 0 ≤ a.id) (h1 : a.id ≤ 4294967295) (hn : s.abs.Few 100000) :
    Gives Tryd.prog 13 #[ptrOf s.bs, .iface 36 a.v] w fun v w' => v = .tuple #[] ∧ ∃ s', Moved B w s w' s' ∧ s'.abs = releasedS s.abs a := by
  obtain ⟨kind, id, code⟩ := a
  simp only [Ans.v] at *
  unfold ptrOf
  have tp := run_ta_no (x := 110) (u := 36) Tryd.underlying31 rfl Tryd.zeroValue31 (by decide)
  have ta := run_ta_yes (x := 110) Tryd.underlying36 rfl
  have hb : (w.alloc (Obj.cells #[.int .i64 kind, .int .u32 id, .int .u8 code, .slice none 0 0] 36)).heap[w.heap.size]? = some (Obj.cells #[.int .i64 kind, .int .u32 id, .int .u8 code, .slice none 0 0] 36) := heap_new w _
  have hc1 : Ch [] w (w.alloc (Obj.cells #[.int .i64 kind, .int .u32 id, .int .u8 code, .slice none 0 0] 36)) := (Ch.refl [] w).alloc _
  have ha := abs_alook s id
  go_enter Tryd.func13, Tryd.ntmps13
  go_wp2
  generalize w.alloc (Obj.cells #[.int .i64 kind, .int .u32 id, .int .u8 code, .slice none 0 0] 36) = w1 at hb hc1 ⊢
  have M1 := Moved.other h hc1
  have ht1 := ht.keep hc1 h8 (by simp)
  have b0 : w1.cell? ⟨w.heap.size, 0, none⟩ = some (.int .i64 kind) := cell_of_heap hb 0
  have b1 : w1.cell? ⟨w.heap.size, 1, none⟩ = some (.int .u32 id) := cell_of_heap hb 1
  have b2 : w1.cell? ⟨w.heap.size, 2, none⟩ = some (.int .u8 code) := cell_of_heap hb 2
  clear ta tp
  cases hx : alook s.os id with
  | none =>
    rw [hx] at ha
    refine wp_region_flow (Ch [] w1) 8 [(true, 0), (true, 1), (true, 2), (true, 3), (true, 4), (true, 5), (true, 6), (true, 7)] (by kernel_rfl) (by kernel_rfl) ((Ch.refl [] w1).drew) ?_
    intro hS hne
    have f0 := wd_cell M1.at_.head 0 (v := .map (some s.bo)) rfl
    have f1 := wd_cell hb 1 rfl
    have fl := wd_look M1.at_.opens kU32 Tryd.underlying105 Tryd.zeroValue112 id (v := .pointer none) (by rw [alook_map (fun q : Nat × Exch => ptrOf q.1), hx]; rfl)
    repeat (refine flow_q (by rfl) ?_; go_big_quiet_step (fail); refine flow_n ?_)
    refine flow_t ?_
    clear f0 f1 fl hne hS
    simp only [List.drop_succ_cons, List.drop_zero]
    go_wp2
    refine shut0_normal ?_
    simp only [Exit.then, Exit.inBlock]
    by_cases k6 : kind = 6
    · subst k6
      by_cases hk : code = 0
      · subst hk
        go_wp2_with (go_at_call 48; refine Calls.mono (wrong_call B _ s _ id M1.at_.drew ht1.drew h0 h1 (by decide) (by have := hn.errs; simp only [Lay.abs] at this; omega)) ?_; rintro e w' ⟨v, rfl, rfl, s', M, habs⟩)
        go_end0
        exact ⟨_, rfl, rfl, s', M1.trans M.ofDrew, by rw [habs]; simp [releasedS, ha, wReleased]⟩
      · have hk' : (code == 0) = false := by simpa using hk
        go_wp2
        go_end0
        exact ⟨_, rfl, rfl, s, M1.drew, by simp [releasedS, hk]⟩
    · have k6' : (kind == 6) = false := by simpa using k6
      go_wp2
      go_end0
      exact ⟨_, rfl, rfl, s, M1.drew, by simp [releasedS, k6]⟩
  | some bx =>
    obtain ⟨b, x⟩ := bx
    rw [hx] at ha
    obtain ⟨xid, xt, xp, tm, came, over⟩ := x
    have hxb := M1.at_.each _ (alook_mem hx)
    simp only [Exch.cells] at hxb
    have x4 : w1.cell? ⟨b, 4, none⟩ = some (.bool came) := cell_of_heap hxb 4
    refine wp_region_flow (Ch [] w1) 8 [(true, 0), (true, 1), (true, 2), (true, 3), (true, 4), (true, 5), (true, 6), (true, 7)] (by kernel_rfl) (by kernel_rfl) ((Ch.refl [] w1).drew) ?_
    intro hS hne
    have f0 := wd_cell M1.at_.head 0 (v := .map (some s.bo)) rfl
    have f1 := wd_cell hb 1 rfl
    have fl := wd_look M1.at_.opens kU32 Tryd.underlying105 Tryd.zeroValue112 id (v := .pointer (some ⟨b, 0, none⟩)) (by rw [alook_map (fun q : Nat × Exch => ptrOf q.1), hx]; rfl)
    repeat (refine flow_q (by rfl) ?_; go_big_quiet_step (fail); refine flow_n ?_)
    refine flow_t ?_
    clear f0 f1 fl hne hS
    simp only [List.drop_succ_cons, List.drop_zero]
    go_wp2
    refine shut0_normal ?_
    simp only [Exit.then, Exit.inBlock]
    by_cases k6 : kind = 6
    · subst k6
      by_cases hk : code = 0
      · subst hk
        cases came with
        | true =>
          go_wp2
          go_end0
          exact ⟨_, rfl, rfl, s, M1.drew, by simp [releasedS, ha]⟩
        | false =>
          go_wp2_with (go_at_call 48; refine Calls.mono (wrong_call B _ s _ id M1.at_.drew ht1.drew h0 h1 (by decide) (by have := hn.errs; simp only [Lay.abs] at this; omega)) ?_; rintro e w' ⟨v, rfl, rfl, s', M, habs⟩)
          go_end0
          exact ⟨_, rfl, rfl, s', M1.trans M.ofDrew, by rw [habs]; simp [releasedS, ha, wReleased]⟩
      · have hk' : (code == 0) = false := by simpa using hk
        go_wp2
        go_end0
        exact ⟨_, rfl, rfl, s, M1.drew, by simp [releasedS, hk]⟩
    · have k6' : (kind == 6) = false := by simpa using k6
      go_wp2
      go_end0
      exact ⟨_, rfl, rfl, s, M1.drew, by simp [releasedS, k6]⟩

set_option maxHeartbeats 2000000 in
theorem heard_ack (B : Nat) (w : World) (s : Lay) (a : Ans) (h : SideAt B w s) (hn : s.abs.Few 100000) :
    Gives Tryd.prog 14 #[ptrOf s.bs, .iface 36 a.v] w fun v w' => v = .tuple #[] ∧ ∃ s', Moved B w s w' s' ∧ s'.abs = heardS s.abs a := by
  have tp := run_ta_no (x := 110) (u := 36) Tryd.underlying31 rfl Tryd.zeroValue31 (by decide)
  have ta := run_ta_yes (x := 110) Tryd.underlying36 rfl
  have M1 := Moved.other h ((Ch.refl [] w).alloc (Obj.cells #[.int .i64 a.kind, .int .u32 a.id, .int .u8 a.code, .slice none 0 0] 36))
  have hc := heard_call B _ s a M1.at_ hn
  unfold ptrOf Ans.v at hc
  unfold ptrOf Ans.v
  go_enter Tryd.func14, Tryd.ntmps14
  go_wp2_with (go_at_call 49; refine Calls.mono hc ?_; rintro e w' ⟨v, rfl, rfl, s', M, habs⟩)
  go_end0
  exact ⟨_, rfl, rfl, s', M1.trans M, habs⟩

def tookS (s : Side) (p : Pub) : Side :=
  if p.qos = 2 then
    let n := (alook s.took p.id).getD 0 + 1
    { s with took := aset s.took p.id n, news := if n = 1 then s.news + 1 else s.news }
  else s

set_option maxHeartbeats 2000000 in
theorem heard_pub (B : Nat) (w : World) (s : Lay) (p : Pub) (h : SideAt B w s) (hn : s.abs.Few 100000) :
    Gives Tryd.prog 14 #[ptrOf s.bs, .iface 31 p.v] w fun v w' => v = .tuple #[] ∧ ∃ s', Moved B w s w' s' ∧ s'.abs = tookS s.abs p := by
  have ta := run_ta_yes (x := 110) Tryd.underlying31 rfl
  obtain ⟨dup, ret, qos, id, topic, payload⟩ := p
  simp only [Pub.v] at *
  unfold ptrOf
  have hb : (w.alloc (Obj.cells #[.bool dup, .bool ret, .int .u8 qos, .int .u32 id, .slice none 0 0, .string topic, .string payload] 31)).heap[w.heap.size]? = some (Obj.cells #[.bool dup, .bool ret, .int .u8 qos, .int .u32 id, .slice none 0 0, .string topic, .string payload] 31) := heap_new w _
  have hc1 : Ch [] w (w.alloc (Obj.cells #[.bool dup, .bool ret, .int .u8 qos, .int .u32 id, .slice none 0 0, .string topic, .string payload] 31)) := (Ch.refl [] w).alloc _
  have M1 := Moved.other h hc1
  have c2 : (w.alloc (Obj.cells #[.bool dup, .bool ret, .int .u8 qos, .int .u32 id, .slice none 0 0, .string topic, .string payload] 31)).cell? ⟨s.bs, 2, none⟩ = some (.map (some s.bk)) := cell_of_heap M1.at_.head 2
  by_cases hq : qos = 2
  · subst hq
    have hg : 0 ≤ (alook s.took id).getD 0 ∧ (alook s.took id).getD 0 ≤ 100000 := by
      cases hx : alook s.took id with
      | none => simp
      | some n => exact hn.took _ (alook_mem hx)
    have hl := M1.at_.took.run_look kU32 Tryd.underlying106 (Tryd.zeroValue3 _) id
    rw [alook_map (fun q : Int => Value.int .i64 q), show ∀ o : Option Int, (o.map (Value.int .i64)).getD (.int .i64 0) = .int .i64 (o.getD 0) from fun o => by cases o <;> rfl] at hl
    have hts : tookS s.abs ⟨dup, ret, 2, id, topic, payload⟩ = { s.abs with took := aset s.took id ((alook s.took id).getD 0 + 1), news := if (alook s.took id).getD 0 + 1 = 1 then s.news + 1 else s.news } := rfl
    rw [hts]
    generalize (alook s.took id).getD 0 = n at hg hl ⊢
    obtain ⟨m, hm⟩ : ∃ m, m = n + 1 := ⟨_, rfl⟩
    obtain ⟨w3, hrun, hm3, hc3, hs3⟩ := M1.at_.took.run_put kU32 Tryd.underlying106 id (.int .i64 m)
    have hwr : IntKind.i64.wrap (n + 1) = m := by rw [IntKind.wrap_i64]; omega
    have M2 := M1.at_.setTook (m := aset s.took id m) (by rw [aset_map (fun q : Int => Value.int .i64 q)]; exact hm3) hc3
    have hl2 := M2.at_.took.run_look kU32 Tryd.underlying106 (Tryd.zeroValue3 _) id
    rw [alook_map (fun q : Int => Value.int .i64 q), alook_aset, if_pos rfl] at hl2
    have d2 : w3.cell? ⟨s.bs, 2, none⟩ = some (.map (some s.bk)) := cell_of_heap M2.at_.head 2
    have d3 : w3.cell? ⟨s.bs, 3, none⟩ = some (.int .i64 s.news) := cell_of_heap M2.at_.head 3
    have df : w3.frozen? ⟨s.bs, 3, none⟩ = false := free_of_heap M2.at_.head 3
    have hnw : IntKind.i64.wrap (s.news + 1) = s.news + 1 := by have := hn.news; simp only [Lay.abs] at this; rw [IntKind.wrap_i64]; omega
    simp only [Option.map_some, Option.getD_some] at hl2
    rw [← hm]
    by_cases h1 : m = 1
    · subst h1
      clear hm
      go_enter Tryd.func14, Tryd.ntmps14
      go_wp2
      go_end0
      exact ⟨_, rfl, rfl, _, (M1.trans M2).trans (M2.at_.setNews (s.news + 1)), by simp [Lay.abs]⟩
    · have e1 : (m == 1) = false := by simpa using h1
      clear hm
      go_enter Tryd.func14, Tryd.ntmps14
      go_wp2
      go_end0
      exact ⟨_, rfl, rfl, _, M1.trans M2, by simp [Lay.abs, h1]⟩
  · have hq' : (qos == 2) = false := by simpa using hq
    go_enter Tryd.func14, Tryd.ntmps14
    go_wp2
    go_end0
    exact ⟨_, rfl, rfl, s, M1, by simp [tookS, hq]⟩

end Go.Proofs.YticfeikmdfijiaaDoor
