/- The ledger: Said of a Connack and of others, Heard of others, New, News, Errs, Done. -/
import Derived.Test.YticfeikmdfijiaaDoorSaid
import Derived.Carry
namespace Go.Proofs.YticfeikmdfijiaaDoor
open Go Go.RowKit

def freshS (s : Side) : Side := { s with opens := [], took := [] }

set_option maxHeartbeats 2000000 in
theorem said_conn (B : Nat) (w : World) (s : Lay) (there : Bool) (h : SideAt B w s) :
    Gives Tryd.prog 13 #[ptrOf s.bs, .iface 119 (.agg #[.bool there, .int .u8 0, .slice none 0 0])] w fun v w' => v = .tuple #[] ∧ ∃ s', Moved B w s w' s' ∧ s'.abs = if there then s.abs else freshS s.abs := by
  have tp := run_ta_no (x := 110) (u := 119) Tryd.underlying31 rfl Tryd.zeroValue31 (by decide)
  have tq := run_ta_no (x := 110) (u := 119) Tryd.underlying36 rfl Tryd.zeroValue36 (by decide)
  have ta := run_ta_yes (x := 110) Tryd.underlying119 rfl
  unfold ptrOf
  have M1 := Moved.other h ((Ch.refl [] w).alloc (Obj.cells #[.bool there, .int .u8 0, .slice none 0 0] 119))
  have c0 : (w.alloc (Obj.cells #[.bool there, .int .u8 0, .slice none 0 0] 119)).cell? ⟨s.bs, 0, none⟩ = some (.map (some s.bo)) := cell_of_heap M1.at_.head 0
  cases there with
  | true =>
    go_enter Tryd.func13, Tryd.ntmps13
    go_wp2
    go_end0
    exact ⟨_, rfl, rfl, s, M1, by simp⟩
  | false =>
    obtain ⟨w3, hrun, hm3, hc3, hs3⟩ := M1.at_.opens.run_clear Tryd.underlying105 0
    have M2 := M1.at_.subOpens (os' := []) (List.nil_sublist _) hm3 hc3
    have c2 : w3.cell? ⟨s.bs, 2, none⟩ = some (.map (some s.bk)) := cell_of_heap M2.at_.head 2
    obtain ⟨w4, hrun2, hm4, hc4, hs4⟩ := M2.at_.took.run_clear Tryd.underlying106 0
    have M3 := M2.at_.setTook (m := []) hm4 hc4
    go_enter Tryd.func13, Tryd.ntmps13
    go_wp2
    go_end0
    exact ⟨_, rfl, rfl, _, (M1.trans M2).trans M3, rfl⟩

set_option maxHeartbeats 2000000 in
theorem said_other (w : World) (p : Value) (u : TypeId) (v : Value) (h1 : u ≠ 31) (h2 : u ≠ 36) (h3 : u ≠ 119) :
    Gives Tryd.prog 13 #[p, .iface u v] w fun v w' => v = .tuple #[] ∧ w' = w := by
  have tp := run_ta_no (x := 110) Tryd.underlying31 rfl Tryd.zeroValue31 h1
  have tq := run_ta_no (x := 110) Tryd.underlying36 rfl Tryd.zeroValue36 h2
  have ta := run_ta_no (x := 110) Tryd.underlying119 rfl Tryd.zeroValue119 h3
  go_enter Tryd.func13, Tryd.ntmps13
  go_wp2
  go_end0
  exact ⟨_, rfl, rfl, rfl⟩

set_option maxHeartbeats 2000000 in
theorem heard_other (w : World) (p : Value) (u : TypeId) (v : Value) (h1 : u ≠ 31) (h2 : u ≠ 36) :
    Gives Tryd.prog 14 #[p, .iface u v] w fun v w' => v = .tuple #[] ∧ w' = w := by
  have tp := run_ta_no (x := 110) Tryd.underlying31 rfl Tryd.zeroValue31 h1
  have tq := run_ta_no (x := 110) Tryd.underlying36 rfl Tryd.zeroValue36 h2
  go_enter Tryd.func14, Tryd.ntmps14
  go_wp2
  go_end0
  exact ⟨_, rfl, rfl, rfl⟩

def emptyS : Side := ⟨[], [], [], 0, []⟩

set_option maxHeartbeats 2000000 in
theorem new_call (w : World) :
    Gives Tryd.prog 12 #[] w fun v w' => ∃ s, v = ptrOf s.bs ∧ SideAt w.heap.size w' s ∧ s.abs = emptyS ∧ Ch [] w w' ∧ s.dv = .slice none 0 0 ∧ s.ev = .slice none 0 0 := by
  have hmm := @run_makeMap Tryd.prog
  go_enter Tryd.func12, Tryd.ntmps12
  go_wp2
  go_ret
  have hc1 : Ch [] w (w.alloc (Obj.map #[] 0)) := (Ch.refl [] w).alloc _
  have hc2 : Ch [] (w.alloc (Obj.map #[] 0)) ((w.alloc (Obj.map #[] 0)).alloc (Obj.map #[] 0)) := (Ch.refl [] _).alloc _
  have hc3 : Ch [] ((w.alloc (Obj.map #[] 0)).alloc (Obj.map #[] 0)) _ := (Ch.refl [] _).alloc (Obj.cells #[.map (some w.heap.size), .slice none 0 0, .map (some (w.heap.size + 1)), .int .i64 0, .slice none 0 0] 108)
  have m1 : IsMap (Value.int .u32) _ w.heap.size [] := ((isMap_new w).keep hc2 (by simp)).keep hc3 (by simp)
  have m2 : IsMap (Value.int .u32) _ (w.alloc (Obj.map #[] 0)).heap.size [] := (isMap_new (w.alloc (Obj.map #[] 0))).keep hc3 (by simp)
  have e1 : (w.alloc (Obj.map #[] 0)).heap.size = w.heap.size + 1 := by simp
  have e2 : ((w.alloc (Obj.map #[] 0)).alloc (Obj.map #[] 0)).heap.size = w.heap.size + 1 + 1 := by simp
  have h0 := heap_new ((w.alloc (Obj.map #[] 0)).alloc (Obj.map #[] 0)) (Obj.cells #[.map (some w.heap.size), .slice none 0 0, .map (some (w.heap.size + 1)), .int .i64 0, .slice none 0 0] 108)
  rw [e2] at h0
  rw [e1] at m2
  refine ⟨_, rfl, ⟨w.heap.size + 1 + 1, w.heap.size, w.heap.size + 1, [], [], .slice none 0 0, [], 0, .slice none 0 0, []⟩, rfl, ?_, rfl, hc1.then (hc2.then hc3), rfl, rfl⟩
  refine ⟨by simp; omega, h0, m1, m2, by simp, by simp, ⟨by simp, .inl ⟨rfl, rfl⟩⟩, ⟨by simp, .inl ⟨rfl, rfl⟩⟩, by simp, by simp, ?_⟩
  intro b hb
  simp [Lay.foot, Value.ownBlock] at hb
  omega

set_option maxHeartbeats 2000000 in
theorem news_call (B : Nat) (w : World) (s : Lay) (h : SideAt B w s) :
    Gives Tryd.prog 20 #[ptrOf s.bs] w fun v w' => v = .int .i64 s.news ∧ w' = w := by
  have c3 : w.cell? ⟨s.bs, 3, none⟩ = some (.int .i64 s.news) := cell_of_heap h.head 3
  unfold ptrOf
  go_enter Tryd.func20, Tryd.ntmps20
  go_wp2
  go_ret
  exact ⟨_, rfl, rfl, rfl⟩

theorem info_of {P : Program} {t e : TypeId} {z : Value} {size bytes : Nat} (T : ElemTy P t e z size bytes) : ∃ i0, P.info? e = some i0 ∧ i0.zero = some z ∧ i0.size = size ∧ i0.bytes = bytes := by
  have h := T.info
  cases hi : P.info? e with
  | none => rw [hi] at h; cases h
  | some i =>
    rw [hi] at h
    simp only [Option.map_some, Option.some.injEq, Prod.mk.injEq] at h
    exact ⟨i, rfl, h.1, h.2.1, h.2.2⟩

/-- slices.Clone. -/
theorem clone_any {P : Program} {ρ : Go.Shelf.Ren} (L : SlLaysE0.n41 P ρ) {t e : TypeId} (he : ρ.t 23 = e) {z : Value} {size bytes : Nat} (T : ElemTy P t e z size bytes) (hz : ∀ w, (Go.sizeOf e).run P w = .ok size w)
    (B : Nat) (w : World) (v : Value) (n : Nat) (cs : List Value) (h : w.ownsRow B e size v n cs) (hn : n ≤ 1000000) (hb : bytes ≤ 1000) (h1 : ∀ u ∈ cs, u.oneCell' = true) :
    Gives P (ρ.f 41) #[v] w fun v' w' => Sl w' v' size n cs ∧ Ch [] w w' := by
  subst he
  rcases h.2 with ⟨rfl, rfl⟩ | ⟨g, cap, cur, rfl, hgb, hg, hnc, hcm, hcs, htake⟩
  · have hcs : cs = [] := List.eq_nil_of_length_eq_zero (by simpa using h.1)
    subst hcs
    refine Calls.mono (AnyE.slices_Clone_nil L 0 0 w) ?_
    rintro _ _ ⟨rfl, rfl⟩
    exact ⟨_, rfl, Sl.nil _ size, Ch.refl _ _⟩
  · obtain ⟨i0, hi, hz0, hz1, hz2⟩ := info_of T
    have hbn : n * bytes ≤ 1000000 * 1000 := Nat.mul_le_mul hn hb
    refine Calls.mono (AnyE.slices_Clone L i0 z size bytes hi hz0 hz1 hz2 T.zsize T.pos hz g 0 n cap cs w h.1 (Nat.le_trans hnc hcm) (by omega) (fun j u hj => by
      have := h.cells (g := g) rfl j u hj
      simpa [Addr.add_lit] using this) h1) ?_
    rintro _ w' ⟨v', rfl, hr, _, hbel⟩
    exact ⟨_, rfl, Sl.ofRow hr, Ch.ofBelow hbel⟩

def cloneS_ren : Go.Shelf.Ren := ⟨fun | 41 => 52 | n => n, fun | 22 => 39 | 23 => 9 | 4 => 4 | n => n, fun | n => n⟩
theorem cloneS_lays : SlLaysE0.n41 Tryd.prog cloneS_ren := {
  mixed := by kernel_rfl
  f41 := ⟨Tryd.f52.name, by decide, Tryd.func52.trans (congrArg some (by kernel_rfl))⟩
  t4 := Tryd.underlying4
  a4 := Tryd.isAgg4
  z4 := Tryd.sizeOf4
  v4 := Tryd.zeroValue4
  t22 := Tryd.underlying39
  a22 := Tryd.isAgg39
  z22 := Tryd.sizeOf39
  v22 := Tryd.zeroValue39 }
def cloneX_ren : Go.Shelf.Ren := ⟨fun | 41 => 53 | n => n, fun | 22 => 37 | 23 => 114 | 4 => 4 | n => n, fun | n => n⟩
theorem cloneX_lays : SlLaysE0.n41 Tryd.prog cloneX_ren := {
  mixed := by kernel_rfl
  f41 := ⟨Tryd.f53.name, by decide, Tryd.func53.trans (congrArg some (by kernel_rfl))⟩
  t4 := Tryd.underlying4
  a4 := Tryd.isAgg4
  z4 := Tryd.sizeOf4
  v4 := Tryd.zeroValue4
  t22 := Tryd.underlying37
  a22 := Tryd.isAgg37
  z22 := Tryd.sizeOf37
  v22 := Tryd.zeroValue37 }

set_option maxHeartbeats 2000000 in
theorem errs_call (B : Nat) (w : World) (s : Lay) (h : SideAt B w s) (hn : s.abs.Few 100000) :
    Gives Tryd.prog 16 #[ptrOf s.bs] w fun v w' => Sl w' v 1 s.errs.length (s.errs.map Value.string) ∧ Ch [] w w' := by
  have c4 : w.cell? ⟨s.bs, 4, none⟩ = some s.ev := cell_of_heap h.head 4
  have hl : s.errs.length ≤ 1000000 := by have := hn.errs; simp only [Lay.abs] at this; omega
  have hc := clone_any cloneS_lays (t := 39) (e := 9) rfl elErr Tryd.sizeOf9 B w s.ev s.errs.length (s.errs.map Value.string) h.errs hl (by omega) (by simp [Value.oneCell'])
  unfold ptrOf
  go_enter Tryd.func16, Tryd.ntmps16
  go_wp2_with (go_at_call 52; refine Calls.mono hc ?_; rintro e w' ⟨v, rfl, hs, hw⟩)
  go_ret
  exact ⟨_, rfl, hs, hw⟩

set_option maxHeartbeats 2000000 in
theorem done_call (B : Nat) (w : World) (s : Lay) (h : SideAt B w s) (hn : s.abs.Few 100000) :
    Gives Tryd.prog 17 #[ptrOf s.bs] w fun v w' => Sl w' v 6 s.done.length (s.done.flatMap Exch.cells) ∧ Ch [] w w' := by
  have c1 : w.cell? ⟨s.bs, 1, none⟩ = some s.dv := cell_of_heap h.head 1
  have hl : s.done.length ≤ 1000000 := by have := hn.done; simp only [Lay.abs] at this; omega
  have hc := clone_any cloneX_lays (t := 37) (e := 114) rfl elExch Tryd.sizeOf114 B w s.dv s.done.length (s.done.flatMap Exch.cells) h.done hl (by omega) (by
    intro u hu
    obtain ⟨x, _, hx⟩ := List.mem_flatMap.1 hu
    simp [Exch.cells] at hx
    rcases hx with rfl | rfl | rfl | rfl | rfl | rfl <;> rfl)
  unfold ptrOf
  go_enter Tryd.func17, Tryd.ntmps17
  go_wp2_with (go_at_call 53; refine Calls.mono hc ?_; rintro e w' ⟨v, rfl, hs, hw⟩)
  go_ret
  exact ⟨_, rfl, hs, hw⟩

end Go.Proofs.YticfeikmdfijiaaDoor
