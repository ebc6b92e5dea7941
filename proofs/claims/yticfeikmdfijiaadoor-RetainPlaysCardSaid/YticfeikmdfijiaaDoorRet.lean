/- Retained messages: properties: Get, Num. -/
import Derived.Test.YticfeikmdfijiaaDoorItoa
import Derived.Test.YticfeikmdfijiaaDoorReg
import Derived.Handy
import Derived.LoopTactic
import Derived.OwnWalk
namespace Go.Proofs.YticfeikmdfijiaaDoor
open Go Go.RowKit

/-- A property. -/
structure PropR where
  id : Int
  n : Int
  s : ByteArray
  t : ByteArray

def PropR.cells (p : PropR) : List Value := [.int .i64 p.id, .int .u32 p.n, .string p.s, .string p.t]
def PropR.v (p : PropR) : Value := .agg #[.int .i64 p.id, .int .u32 p.n, .string p.s, .string p.t]
def zeroP : PropR := ⟨0, 0, ⟨#[]⟩, ⟨#[]⟩⟩
def getP (l : List PropR) (id : Int) : Option PropR := l.find? (fun p => p.id == id)

theorem getP_at {l : List PropR} {id : Int} {i : Nat} {p : PropR} (hno : ∀ k q, k < i → l[k]? = some q → q.id ≠ id) (hp : l[i]? = some p) (hi : p.id = id) : getP l id = some p := by
  induction l generalizing i with
  | nil => simp at hp
  | cons x l ih =>
    cases i with
    | zero =>
      simp at hp
      subst hp
      simp [getP, hi]
    | succ i =>
      have hx : (x.id == id) = false := by simpa using hno 0 x (by omega) rfl
      have := ih (i := i) (fun k q hk hq => hno (k + 1) q (by omega) (by simpa using hq)) (by simpa using hp)
      simpa [getP, hx] using this
theorem getP_none {l : List PropR} {id : Int} (hno : ∀ (k : Nat) q, k < l.length → l[k]? = some q → q.id ≠ id) : getP l id = none := by
  unfold getP
  rw [List.find?_eq_none]
  intro q hq
  obtain ⟨k, hk, rfl⟩ := List.getElem_of_mem hq
  simpa using hno k l[k] hk (List.getElem?_eq_getElem hk)

theorem elProp : ElemTy Tryd.prog 27 62 (.agg #[.int .i64 0, .int .u32 0, .string ⟨#[]⟩, .string ⟨#[]⟩]) 4 48 := ⟨Tryd.underlying27, by kernel_rfl, rfl, by decide⟩

set_option maxHeartbeats 4000000 in
theorem get_call (w : World) (v : Value) (l : List PropR) (id : Int) (h : Sl w v 4 l.length (l.flatMap PropR.cells)) (hl : l.length ≤ 1000000) :
    Gives Tryd.prog 61 #[v, .int .i64 id] w fun r w' => r = .tuple #[((getP l id).getD zeroP).v, .bool (getP l id).isSome] ∧ Ch [] w w' := by
  obtain ⟨n, hn⟩ : ∃ n, n = l.length := ⟨_, rfl⟩
  have hsh : ∃ ao cap, v = .slice ao n cap := by obtain ⟨bo, cap, rfl, _⟩ := h; exact ⟨_, _, by rw [hn]⟩
  obtain ⟨ao, cap, hv⟩ := hsh
  subst hv
  have HN : Hid (n = l.length) := hn
  clear hn
  have hb0 := heap_new w (Obj.cells #[.int .i64 0, .int .u32 0, .string ⟨#[]⟩, .string ⟨#[]⟩] 62)
  have hc0 : Ch [] w (w.alloc (Obj.cells #[.int .i64 0, .int .u32 0, .string ⟨#[]⟩, .string ⟨#[]⟩] 62)) := (Ch.refl [] w).alloc _
  go_enter Tryd.func61, Tryd.ntmps61
  go_wp2
  generalize w.alloc (Obj.cells #[.int .i64 0, .int .u32 0, .string ⟨#[]⟩, .string ⟨#[]⟩] 62) = w1 at hb0 hc0 ⊢
  go_loopw [10] (fun v10 wr => ∃ i : Nat, v10 = .int .i64 i ∧ i ≤ n ∧ (∀ k p, k < i → l[k]? = some p → p.id ≠ id) ∧ Ch [] w1 wr) (fun v10 _ => match v10 with | .int _ x => n - x.toNat | _ => 0)
  case atStart => exact ⟨0, rfl, by omega, fun k p hk => by omega, Ch.refl _ _⟩
  case round =>
    obtain ⟨i, rfl, hin, hno, hcr⟩ := hrel
    have hnn : n ≤ 1000000 := by have := HN.out; omega
    have HNO : Hid (∀ k p, k < i → l[k]? = some p → p.id ≠ id) := hno
    clear hno
    have hz := hcr.keep hb0 (by simp)
    have hc1 := hc0.thenNil hcr
    by_cases hi : i < n
    · have hil : i < l.length := by have := HN.out; omega
      have hp : l[i]? = some l[i] := List.getElem?_eq_getElem hil
      have hs := h.keep hc1 (by simp)
      obtain ⟨b, o, cap', hsv, hcell⟩ := hs.at (i := i) (fun _ => rfl) (by omega) hp
      cases hsv
      generalize hpp : l[i] = p at hp hcell
      obtain ⟨pid, pn, ps, pt⟩ := p
      have e0 : wr.cell? ⟨b, o + i * 4, none⟩ = some (.int .i64 pid) := by simpa using hcell 0 _ rfl
      have e1 : wr.cell? ⟨b, o + i * 4 + 1, none⟩ = some (.int .u32 pn) := by simpa [Nat.add_assoc] using hcell 1 _ rfl
      have e2 : wr.cell? ⟨b, o + i * 4 + 2, none⟩ = some (.string ps) := by simpa [Nat.add_assoc] using hcell 2 _ rfl
      have e3 : wr.cell? ⟨b, o + i * 4 + 3, none⟩ = some (.string pt) := by simpa [Nat.add_assoc] using hcell 3 _ rfl
      have hlt : decide ((i : Int) < (l.length : Int)) = true := by simpa using hil
      have hzA := heap_old hz (Obj.cells #[.int .i64 pid, .int .u32 pn, .string ps, .string pt] 62)
      have hcA := hc1.alloc (Obj.cells #[.int .i64 pid, .int .u32 pn, .string ps, .string pt] 62)
      have z0 : (wr.alloc (Obj.cells #[.int .i64 pid, .int .u32 pn, .string ps, .string pt] 62)).cell? ⟨w.heap.size, 0, none⟩ = some (.int .i64 0) := cell_of_heap hzA 0
      have f0 : (wr.alloc (Obj.cells #[.int .i64 pid, .int .u32 pn, .string ps, .string pt] 62)).frozen? ⟨w.heap.size, 0, none⟩ = false := free_of_heap hzA 0
      have z1 : (wr.alloc (Obj.cells #[.int .i64 pid, .int .u32 pn, .string ps, .string pt] 62)).cell? ⟨w.heap.size, 1, none⟩ = some (.int .u32 0) := cell_of_heap hzA 1
      have f1 : (wr.alloc (Obj.cells #[.int .i64 pid, .int .u32 pn, .string ps, .string pt] 62)).frozen? ⟨w.heap.size, 1, none⟩ = false := free_of_heap hzA 1
      have z2 : (wr.alloc (Obj.cells #[.int .i64 pid, .int .u32 pn, .string ps, .string pt] 62)).cell? ⟨w.heap.size, 2, none⟩ = some (.string ⟨#[]⟩) := cell_of_heap hzA 2
      have f2 : (wr.alloc (Obj.cells #[.int .i64 pid, .int .u32 pn, .string ps, .string pt] 62)).frozen? ⟨w.heap.size, 2, none⟩ = false := free_of_heap hzA 2
      have z3 : (wr.alloc (Obj.cells #[.int .i64 pid, .int .u32 pn, .string ps, .string pt] 62)).cell? ⟨w.heap.size, 3, none⟩ = some (.string ⟨#[]⟩) := cell_of_heap hzA 3
      have f3 : (wr.alloc (Obj.cells #[.int .i64 pid, .int .u32 pn, .string ps, .string pt] 62)).frozen? ⟨w.heap.size, 3, none⟩ = false := free_of_heap hzA 3
      have HP : Hid (l[i]? = some ⟨pid, pn, ps, pt⟩) := hp
      clear hp hpp hcell
      by_cases hid : pid = id
      · subst hid
        go_wp2
        have hW := (heap_setCell_at (i := 3) (heap_setCell_at (i := 2) (heap_setCell_at (i := 1) (heap_setCell_at (i := 0) hzA (.int .i64 pid)) (.int .u32 pn)) (.string ps)) (.string pt))
        simp only [List.setIfInBounds_toArray, List.set_cons_zero, List.set_cons_succ] at hW
        have hcW := ((((hcA.setCell ⟨w.heap.size, 0, none⟩ (.int .i64 pid) (.inr (by simp))).setCell ⟨w.heap.size, 1, none⟩ (.int .u32 pn) (.inr (by simp))).setCell ⟨w.heap.size, 2, none⟩ (.string ps) (.inr (by simp))).setCell ⟨w.heap.size, 3, none⟩ (.string pt) (.inr (by simp)))
        generalize (((((wr.alloc (Obj.cells #[.int .i64 pid, .int .u32 pn, .string ps, .string pt] 62)).setCell ⟨w.heap.size, 0, none⟩ (.int .i64 pid)).setCell ⟨w.heap.size, 1, none⟩ (.int .u32 pn)).setCell ⟨w.heap.size, 2, none⟩ (.string ps)).setCell ⟨w.heap.size, 3, none⟩ (.string pt)) = w5 at hW hcW ⊢
        have q0 := cell_of_heap hW 0
        have q1 := cell_of_heap hW 1
        have q2 := cell_of_heap hW 2
        have q3 := cell_of_heap hW 3
        simp only [List.getElem?_toArray, List.getElem?_cons_zero, List.getElem?_cons_succ] at q0 q1 q2 q3
        clear e0 e1 e2 e3 z0 z1 z2 z3 f0 f1 f2 f3
        refine bodyPost_ret (v := .tuple #[.agg #[.int .i64 pid, .int .u32 pn, .string ps, .string pt], .bool true]) (by simp [results, Tryd.f61, go_sem, q0, q1, q2, q3]) rfl ?_
        have hg := getP_at HNO.out HP.out rfl
        exact ⟨_, rfl, by rw [hg]; rfl, hcW⟩
      · have hid' : (pid == id) = false := by simpa using hid
        go_wp2
        refine ⟨⟨i + 1, by simp, by omega, ?_, hcr.alloc _⟩, by simp; omega⟩
        intro k q hk hq
        rcases Nat.lt_or_ge k i with h1 | h1
        · exact HNO.out k q h1 hq
        · obtain rfl : k = i := by omega
          rw [HP.out] at hq
          cases hq
          exact hid
    · have hlt : decide ((i : Int) < (n : Int)) = false := by simpa using hi
      have z0 : wr.cell? ⟨w.heap.size, 0, none⟩ = some (.int .i64 0) := cell_of_heap hz 0
      have f0 : wr.frozen? ⟨w.heap.size, 0, none⟩ = false := free_of_heap hz 0
      have z1 : wr.cell? ⟨w.heap.size, 1, none⟩ = some (.int .u32 0) := cell_of_heap hz 1
      have f1 : wr.frozen? ⟨w.heap.size, 1, none⟩ = false := free_of_heap hz 1
      have z2 : wr.cell? ⟨w.heap.size, 2, none⟩ = some (.string ⟨#[]⟩) := cell_of_heap hz 2
      have f2 : wr.frozen? ⟨w.heap.size, 2, none⟩ = false := free_of_heap hz 2
      have z3 : wr.cell? ⟨w.heap.size, 3, none⟩ = some (.string ⟨#[]⟩) := cell_of_heap hz 3
      have f3 : wr.frozen? ⟨w.heap.size, 3, none⟩ = false := free_of_heap hz 3
      go_wp2
      have hW := (heap_setCell_at (i := 3) (heap_setCell_at (i := 2) (heap_setCell_at (i := 1) (heap_setCell_at (i := 0) hz (.int .i64 0)) (.int .u32 0)) (.string ⟨#[]⟩)) (.string ⟨#[]⟩))
      simp only [List.setIfInBounds_toArray, List.set_cons_zero, List.set_cons_succ] at hW
      have hcW := ((((hc1.setCell ⟨w.heap.size, 0, none⟩ (.int .i64 0) (.inr (by simp))).setCell ⟨w.heap.size, 1, none⟩ (.int .u32 0) (.inr (by simp))).setCell ⟨w.heap.size, 2, none⟩ (.string ⟨#[]⟩) (.inr (by simp))).setCell ⟨w.heap.size, 3, none⟩ (.string ⟨#[]⟩) (.inr (by simp)))
      generalize ((((wr.setCell ⟨w.heap.size, 0, none⟩ (.int .i64 0)).setCell ⟨w.heap.size, 1, none⟩ (.int .u32 0)).setCell ⟨w.heap.size, 2, none⟩ (.string ⟨#[]⟩)).setCell ⟨w.heap.size, 3, none⟩ (.string ⟨#[]⟩)) = w5 at hW hcW ⊢
      have q0 := cell_of_heap hW 0
      have q1 := cell_of_heap hW 1
      have q2 := cell_of_heap hW 2
      have q3 := cell_of_heap hW 3
      simp only [List.getElem?_toArray, List.getElem?_cons_zero, List.getElem?_cons_succ] at q0 q1 q2 q3
      clear z0 z1 z2 z3 f0 f1 f2 f3
      refine bodyPost_ret (v := .tuple #[.agg #[.int .i64 0, .int .u32 0, .string ⟨#[]⟩, .string ⟨#[]⟩], .bool false]) (by simp [results, Tryd.f61, go_sem, q0, q1, q2, q3]) rfl ?_
      have hg : getP l id = none := getP_none (fun k q hk hq => HNO.out k q (by have := HN.out; omega) hq)
      exact ⟨_, rfl, by rw [hg]; rfl, hcW⟩

set_option maxHeartbeats 2000000 in
theorem num_call (w : World) (v : Value) (l : List PropR) (id other : Int) (h : Sl w v 4 l.length (l.flatMap PropR.cells)) (hl : l.length ≤ 1000000) :
    Gives Tryd.prog 62 #[v, .int .i64 id, .int .u32 other] w fun r w' => r = .int .u32 ((getP l id).elim other PropR.n) ∧ Ch [] w w' := by
  have hc := get_call w v l id h hl
  go_enter Tryd.func62, Tryd.ntmps62
  cases hg : getP l id with
  | none =>
    simp only [hg, Option.getD_none, Option.isSome_none, zeroP, PropR.v] at hc
    go_wp2_with (go_at_call 61; refine Calls.mono hc ?_; rintro e w' ⟨v, rfl, rfl, hw⟩)
    go_ret
    exact ⟨_, rfl, rfl, hw.alloc _⟩
  | some p =>
    obtain ⟨pid, pn, ps, pt⟩ := p
    simp only [hg, Option.getD_some, Option.isSome_some, PropR.v] at hc
    go_wp2_with (go_at_call 61; refine Calls.mono hc ?_; rintro e w' ⟨v, rfl, rfl, hw⟩)
    go_ret
    exact ⟨_, rfl, rfl, hw.alloc _⟩

end Go.Proofs.YticfeikmdfijiaaDoor
