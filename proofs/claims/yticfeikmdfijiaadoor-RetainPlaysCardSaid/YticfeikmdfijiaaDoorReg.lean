/- A region that draws its order: one walk serves every order, where calls and allocations come one behind the other and whatever comes up beside them only reads cells that they leave alone. -/
import Derived.Test.YticfeikmdfijiaaDoorKit
import Derived.StillTail
import Derived.OrdersHeld
import Derived.BigQuiet
namespace Go.Proofs.YticfeikmdfijiaaDoor
open Go Go.RowKit

section
variable {P : Program} {ops : Array Oper} {Q : Exit → Act → World → Prop} {md : Region.Mode} {S : World → Prop} {n : Nat}

/-- Operations that hand back a value, and no call of a Go function. -/
def plainOp : Op → Bool
  | .move _ | .assign _ | .pick .. | .build .. | .load .. | .nilCheck _ | .binOp .. | .unOp .. | .convert .. | .fieldAddr .. | .field .. | .indexAddr .. | .index .. | .lookup .. | .extract .. | .typeAssert .. | .makeInterface .. | .slice .. => true
  | .call { callee := .builtin .len, .. } | .call { callee := .builtin .cap, .. } | .call { callee := .builtin .min, .. } | .call { callee := .builtin .max, .. } => true
  | _ => false

theorem plain_bind {s : Sem Value} {w w' : World} {x : Next} (h : (do pure (Next.value (← s)) : Sem Next).run P w = .ok x w') : ∃ v, x = .value v := by
  rw [Sem.run_bind] at h
  cases hs : s.run P w with
  | ok v w1 =>
    rw [hs] at h
    simp only [Result.andThen_ok, Sem.run_pure] at h
    cases h
    exact ⟨v, rfl⟩
  | halt x w1 => rw [hs] at h; cases h

theorem plain_value {o : Oper} (hp : plainOp o.op = true) {ρ : Operand → Value} {w w' : World} {x : Next} (h : (execOp ρ o).run P w = .ok x w') : ∃ v, x = .value v := by
  obtain ⟨dst, op, ty, pos, after, guard⟩ := o
  cases op
  case move => simp [execOp] at h; exact ⟨_, h.1.symm⟩
  case assign => simp [execOp] at h; exact ⟨_, h.1.symm⟩
  case nilCheck x0 =>
    simp only [execOp] at h
    split at h
    · simp [runtimePanic, goPanic, program, Sem.run, Result.andThen] at h
    · simp [runtimePanic, goPanic, program, Sem.run, Result.andThen] at h
    · simp [runtimePanic, goPanic, program, Sem.run, Result.andThen] at h
    · split at h
      · simp [runtimePanic, goPanic, program, Sem.run, Result.andThen] at h
      · rw [Sem.run_bind] at h
        cases hp : (program).run P w with
        | halt y w1 => rw [hp] at h; cases h
        | ok p w1 =>
          rw [hp] at h
          simp only [Result.andThen_ok] at h
          rw [Sem.run_bind] at h
          revert h
          cases hq : (nilAhead (p.types.size + Made.depth) _ _ _).run P w1 with
          | halt y w2 => intro h; cases h
          | ok q w2 =>
            intro h
            simp only [Result.andThen_ok] at h
            rw [Sem.run_ite] at h
            split at h
            · simp [unsupported, Sem.run, Result.andThen] at h
            · simp only [Sem.run_pure] at h
              cases h
              exact ⟨_, rfl⟩
      · simp only [Sem.run_pure] at h; cases h; exact ⟨_, rfl⟩
    · simp only [Sem.run_pure] at h; cases h; exact ⟨_, rfl⟩
  case call c =>
    obtain ⟨callee, args, ats⟩ := c
    cases callee with
    | value f => simp [plainOp] at hp
    | invoke r m => simp [plainOp] at hp
    | builtin b =>
      cases b <;> first | (simp [plainOp] at hp; done) | exact plain_bind h
  case pick c a b =>
    simp only [execOp] at h
    rw [Sem.run_bind] at h
    cases hs : (asBool (ρ c)).run P w with
    | halt y w1 => rw [hs] at h; cases h
    | ok y w1 =>
      rw [hs] at h
      simp only [Result.andThen_ok, Sem.run_pure] at h
      cases h
      exact ⟨_, rfl⟩
  case binOp => exact plain_bind h
  all_goals first | (simp [plainOp] at hp; done) | exact plain_bind h

/-- Whatever order is picked from here on; S holds behind every operation ahead of number n. -/
def wpAnyK (P : Program) (md : Region.Mode) (ops : Array Oper) (Q : Exit → Act → World → Prop) (S : World → Prop) (n : Nat) : Nat → Array Bool → Act → World → Prop
  | 0, listed, a, w => Region.ready md ops listed = [] ∧ Q .normal a w
  | fuel + 1, listed, a, w =>
    (Region.ready md ops listed = [] → Q .normal a w) ∧
    ∀ i ∈ Region.ready md ops listed, wpOp P ops Q i (fun a' w' => (i < n → S w') ∧ wpAnyK P md ops Q S n fuel (listed.setIfInBounds i true) a' w') a w

theorem wpAny_of_K : ∀ (fuel : Nat) (listed : Array Bool) (a : Act) (w : World), wpAnyK P md ops Q S n fuel listed a w → wpAny P md ops Q fuel listed a w
  | 0, _, _, _, h => h
  | fuel + 1, _, _, _, h => ⟨h.1, fun i hi => wpOp_mono (fun a' w' h' => wpAny_of_K fuel _ a' w' h'.2) (h.2 i hi)⟩

theorem wpAnyK_first {i : Nat} {oi : Oper} {v : Value} (hi : ops[i]? = some oi) (hsel : ∀ (j : Nat) (o : Oper) cs b, ops[j]? = some o → o.op ≠ .select cs b)
    (hQ : ∀ c a w, Q (.panic c) (a.put oi.dst v) w → Q (.panic c) a w)
    (hs : Region.sinkB md ops n = true) (hc : Region.chainB md ops n = true) (hn : n < ops.size) (hin : i < n) :
    ∀ (fuel : Nat) (listed : Array Bool) (a : Act) (w : World), HeadInv md ops n listed →
      (∀ j oj, ops[j]? = some oj → j ≠ i → listed.getD j true = false → (∀ e ∈ oj.after, Region.binds md e = true → e.on ≠ i) → oi.apart ops oj = true) →
      i ∈ Region.ready md ops listed → YieldsIf P ops S oi v a → S w →
      wpAnyK P md ops Q S n fuel (listed.setIfInBounds i true) (a.put oi.dst v) w → wpAnyK P md ops Q S n (fuel + 1) listed a w := by
  intro fuel
  induction fuel with
  | zero =>
    intro listed a w inv _ hr hy hS H
    refine ⟨fun h => (by rw [h] at hr; cases hr), fun j hj => ?_⟩
    by_cases hji : j = i
    · subst hji; exact hy.wpOp hi hS ⟨fun _ => hS, H⟩
    · have := ready_mono hj hji
      rw [H.1] at this
      cases this
  | succ fuel ih =>
    intro listed a w inv hfree hr hy hS H
    have hun := (mem_ready.1 hr).1
    refine ⟨fun h => (by rw [h] at hr; cases hr), fun j hj => ?_⟩
    by_cases hji : j = i
    · subst hji; exact hy.wpOp hi hS ⟨fun _ => hS, H⟩
    · have hjn : j < n := by
        rcases Nat.lt_or_ge j n with h | h
        · exact h
        · exact absurd hj (tail_waits hs hc hn inv _ i rfl hin hun j h)
      have h1 := H.2 j (ready_mono hj hji)
      obtain ⟨hjun, oj, hoj, hall⟩ := mem_ready.1 hj
      have hnot : ∀ e ∈ oj.after, Region.binds md e = true → e.on ≠ i := fun e he hb heq => by
        have h1 := hall e he hb
        rw [heq, getD_both hun] at h1
        cases h1
      have h2 := wpOp_putIf hoj (hfree j oj hoj hji hjun hnot) (fun cs b => hsel i oi cs b hi) (fun cs b => hsel j oj cs b hoj) hQ hy h1
      have hfree' : ∀ k ok, ops[k]? = some ok → k ≠ i → (listed.setIfInBounds j true).getD k true = false →
          (∀ e ∈ ok.after, Region.binds md e = true → e.on ≠ i) → oi.apart ops ok = true := fun k ok hk hki hun' hno => by
        refine hfree k ok hk hki ?_ hno
        by_cases hjk : j = k
        · subst hjk; exact hjun
        · rw [getD_set_ne true hjk] at hun'; exact hun'
      refine wpOp_mono (fun a' w' h3 => ⟨h3.2.1, ih (listed.setIfInBounds j true) a' w' (inv.set hj hjn) hfree' (ready_mono hr (Ne.symm hji)) h3.1 (h3.2.1 hjn) ?_⟩) h2
      rw [Array.setIfInBounds_comm _ _ hji]
      exact h3.2.2

/-! ### The walk by a plan: (true, i): operation i only reads; (false, i): it is carried out, and S holds behind it -/

/-- A world that meets S. -/
structure Wd (S : World → Prop) : Type where
  v : World
  p : S v

/-- The worlds that meet S, as the quiet walk wants them. -/
abbrev InS (S : World → Prop) : World → Prop := fun w' => ∃ x : Wd S, w' = x.v

/-- What stands behind an operation that is carried out. -/
def LoudPost (S : World → Prop) (Q : Exit → Act → World → Prop) (K : Act → World → Prop) : Exit → Act → World → Prop
  | .normal, a, w => S w ∧ K a w
  | e, a, w => Q e a w

def flowW (P : Program) (ops : Array Oper) (Q : Exit → Act → World → Prop) (S : World → Prop) (n : Nat) : List (Bool × Nat) → Act → World → Prop
  | [], a, w => wpList P ops Q (ops.toList.drop n) a w
  | (true, i) :: rest, a, w => ∃ o, ops[i]? = some o ∧ wpQuiet P ops (InS S) (fun a' => flowW P ops Q S n rest a' w) [o] a
  | (false, i) :: rest, a, w => ∃ o, ops[i]? = some o ∧ wpList P ops (LoudPost S Q (flowW P ops Q S n rest)) [o] a w

def planB (md : Region.Mode) (ops : Array Oper) (n : Nat) : List (Bool × Nat) → Array Bool → Bool
  | [], listed => Region.seqB md ops (ops.size - n) n listed
  | (true, i) :: rest, listed => (Region.ready md ops listed).contains i && Region.free md ops listed i && decide (i < n) && ((ops[i]?).map (fun o => plainOp o.op)).getD false && planB md ops n rest (listed.setIfInBounds i true)
  | (false, i) :: rest, listed => decide (Region.ready md ops listed = [i]) && decide (i < n) && planB md ops n rest (listed.setIfInBounds i true)

def flowB (md : Region.Mode) (ops : Array Oper) (n : Nat) (plan : List (Bool × Nat)) : Bool :=
  Region.noSelect ops && decide (n < ops.size) && decide (plan.length = n) && Region.sinkB md ops n && Region.chainB md ops n && planB md ops n plan (Array.replicate ops.size false)

/-- A way out by panic is shut. -/
def Shut0 (Q : Exit → Act → World → Prop) : Exit → Act → World → Prop
  | .panic _, _, _ => False
  | e, a, w => Q e a w

theorem wpAnyK_of_seq : ∀ (l : List Oper) (k : Nat) (listed : Array Bool) (a : Act) (w : World), n ≤ k → (∀ j, l[j]? = ops[k + j]?) →
    Region.seqB md ops l.length k listed = true → wpList P ops Q l a w → wpAnyK P md ops Q S n l.length listed a w
  | [], _, _, _, _, _, _, hB, h => ⟨by simpa [Region.seqB] using hB, h⟩
  | o :: l, k, listed, a, w, hk, hl, hB, h => by
    have h0 : ops[k]? = some o := by simpa using (hl 0).symm
    simp only [List.length_cons, Region.seqB, Bool.and_eq_true, decide_eq_true_eq] at hB
    refine ⟨fun h1 => (by rw [hB.1] at h1; cases h1), fun i hi => ?_⟩
    rw [hB.1] at hi
    have hik : i = k := by simpa using hi
    subst hik
    have hw : wpOp P ops Q i (wpList P ops Q l) a w := by unfold wpOp; simp only [h0]; exact h
    exact wpOp_mono (fun a' w' h' => ⟨fun hlt => by omega, wpAnyK_of_seq l (i + 1) _ a' w' (by omega) (fun j => by have := hl (j + 1); simpa [Nat.add_assoc, Nat.add_comm 1 j] using this) hB.2 h'⟩) hw

theorem flow_sound (hsel : Region.noSelect ops = true) (hs : Region.sinkB md ops n = true) (hc : Region.chainB md ops n = true) (hn : n < ops.size) :
    ∀ (plan : List (Bool × Nat)) (listed : Array Bool) (a : Act) (w : World), HeadInv md ops n listed → planB md ops n plan listed = true → S w →
    flowW P ops (Shut0 Q) S n plan a w → wpAnyK P md ops (Shut0 Q) S n (plan.length + (ops.size - n)) listed a w
  | [], listed, a, w, inv, hB, hS, h => by
    have hl : (ops.toList.drop n).length = ops.size - n := by simp
    have := wpAnyK_of_seq (md := md) (S := S) (Q := Shut0 Q) (n := n) (ops.toList.drop n) n listed a w (Nat.le_refl _) (fun j => by simp [List.getElem?_drop]) (by rw [hl]; exact hB) h
    rw [hl] at this
    simpa using this
  | (true, i) :: rest, listed, a, w, inv, hB, hS, h => by
    simp only [planB, Bool.and_eq_true, decide_eq_true_eq] at hB
    obtain ⟨⟨⟨⟨hr, hf⟩, hin⟩, hp⟩, hB'⟩ := hB
    obtain ⟨o, ho, hq⟩ := h
    have hr' : i ∈ Region.ready md ops listed := by simpa using hr
    have hp' : plainOp o.op = true := by simpa [ho] using hp
    have e1 : ((true, i) :: rest).length + (ops.size - n) = (rest.length + (ops.size - n)) + 1 := by simp only [List.length_cons]; omega
    rw [e1]
    simp only [wpQuiet] at hq
    by_cases hw : Region.wanted o (yielded ops a.tmps) = true
    · simp only [hw, if_true] at hq
      obtain ⟨v, hv, hK⟩ := hq
      refine wpAnyK_first ho (Region.noSelect_spec hsel) (fun _ _ _ h => h) hs hc hn hin _ listed a w inv (Region.free_spec ho hf) hr' (.inl ⟨hw, fun w' hS' => ?_⟩) hS
        (flow_sound hsel hs hc hn rest _ _ w (inv.set hr' hin) hB' hS hK)
      have hv' := hv w' ⟨⟨w', hS'⟩, rfl⟩
      unfold Oper.quietAt at hv'
      revert hv'
      cases hrun : (execOp a.eval o).run P w' with
      | halt x w1 => intro hv'; exact hv'.elim
      | ok x w1 =>
        obtain ⟨u, rfl⟩ := plain_value hp' hrun
        intro hv'
        obtain ⟨e2, e3⟩ := hv'
        rw [e2, e3]
    · simp only [hw] at hq
      exact wpAnyK_first ho (Region.noSelect_spec hsel) (fun _ _ _ h => h) hs hc hn hin _ listed a w inv (Region.free_spec ho hf) hr' (.inr ⟨by simpa using hw, rfl⟩) hS
        (flow_sound hsel hs hc hn rest _ _ w (inv.set hr' hin) hB' hS hq)
  | (false, i) :: rest, listed, a, w, inv, hB, hS, h => by
    simp only [planB, Bool.and_eq_true, decide_eq_true_eq] at hB
    obtain ⟨⟨hr, hin⟩, hB'⟩ := hB
    obtain ⟨o, ho, hq⟩ := h
    have e1 : ((false, i) :: rest).length + (ops.size - n) = (rest.length + (ops.size - n)) + 1 := by simp only [List.length_cons]; omega
    rw [e1]
    have hmem : i ∈ Region.ready md ops listed := by rw [hr]; simp
    refine ⟨fun h1 => (by rw [h1] at hmem; cases hmem), fun j hj => ?_⟩
    rw [hr] at hj
    have hji : j = i := by simpa using hj
    subst hji
    have hw : wpOp P ops (Shut0 Q) j (fun a' w' => S w' ∧ flowW P ops (Shut0 Q) S n rest a' w') a w := by
      unfold wpOp
      simp only [ho]
      simp only [wpList] at hq
      split
      · rename_i hwant
        simp only [hwant, if_true] at hq
        refine hq.imp (fun hq => ?_) (fun ⟨h1, a0, w0, h2⟩ => ⟨h1, a0, w0, h2⟩)
        unfold Oper.wp at hq ⊢
        revert hq
        cases hrun : (execOp a.eval o).run P w with
        | ok x w1 =>
          cases x <;> simp only [Oper.upon] <;> intro hq
          case enter f args => exact Calls.mono hq (fun e w2 he => by cases e <;> exact he)
          all_goals exact hq
        | halt x w1 => cases x <;> simp only [Oper.upon] <;> intro hq <;> exact hq
      · rename_i hwant
        simp only [hwant] at hq
        exact hq
    exact wpOp_mono (fun a' w' ⟨h1, h2⟩ => ⟨fun _ => h1, flow_sound hsel hs hc hn rest _ a' w' (inv.set hmem hin) hB' h1 h2⟩) hw

/-- **One walk by a plan serves every order.** -/
theorem wp_region_flow {id : Nat} {a : Act} {w : World} {l : List Oper} (S : World → Prop) (n : Nat) (plan : List (Bool × Nat)) (hm : P.follows .mixedOrders = true)
    (hB : flowB .any l.toArray n plan = true) (hS : S w.drew) (h : S w.drew → Nonempty (Wd S) → flowW P l.toArray (Shut0 Q) S n plan a w.drew) : (Code.region id l.toArray true).wp P Q a w := by
  simp only [flowB, Bool.and_eq_true, decide_eq_true_eq] at hB
  obtain ⟨⟨⟨⟨⟨hsel, hn⟩, hl⟩, hs⟩, hc⟩, hp⟩ := hB
  have inv0 : HeadInv .any l.toArray n (Array.replicate l.toArray.size false) :=
    ⟨by simp, fun j oj _ hl => (by rw [getD_replicate_false] at hl; cases hl), fun t _ ht => getD_in (by simpa using ht) (getD_replicate_false _ _)⟩
  have H := flow_sound (S := S) hsel hs hc hn plan _ a w.drew inv0 hp hS (h hS ⟨⟨w.drew, hS⟩⟩)
  rw [hl, show n + (l.toArray.size - n) = l.toArray.size by omega] at H
  refine Code.wp_mono (Q := Shut0 Q) (fun e a w he => by cases e <;> first | exact he | exact (he : False).elim) (wp_region_any hm (wpAny_of_K _ _ _ _ H))

theorem shut0_normal {a : Act} {w : World} (h : Q .normal a w) : Shut0 Q .normal a w := h

/-! ### The moves -/
def flowX (P : Program) (ops : Array Oper) (Q : Exit → Act → World → Prop) (S : World → Prop) (n : Nat) (rest : List (Bool × Nat)) (w : World) (a : Act) : Prop := flowW P ops Q S n rest a w
theorem flow_n {ops : Array Oper} {rest : List (Bool × Nat)} {a : Act} {w : World} (h : flowW P ops Q S n rest a w) : wpQuiet P ops (InS S) (flowX P ops Q S n rest w) [] a := wpQuiet_nil h
theorem flow_q {i : Nat} {rest : List (Bool × Nat)} {a : Act} {w : World} {o : Oper} {l : List Oper} (ho : l[i]? = some o) (h : wpQuiet P l.toArray (InS S) (flowX P l.toArray Q S n rest w) [o] a) :
    flowW P l.toArray Q S n ((true, i) :: rest) a w := ⟨o, by simpa using ho, h⟩
theorem flow_l {i : Nat} {rest : List (Bool × Nat)} {a : Act} {w : World} {o : Oper} {l : List Oper} (ho : l[i]? = some o) (h : wpList P l.toArray (LoudPost S Q (flowW P l.toArray Q S n rest)) [o] a w) :
    flowW P l.toArray Q S n ((false, i) :: rest) a w := ⟨o, by simpa using ho, h⟩
theorem flow_t {a : Act} {w : World} {l : List Oper} (h : wpList P l.toArray Q (l.drop n) a w) : flowW P l.toArray Q S n [] a w := by
  unfold flowW
  exact h
theorem loud_forget {K : Act → World → Prop} {a : Act} {w : World} (h : S w) (k : ∀ w', S w' → K a w') : LoudPost S Q K .normal a w := ⟨h, k w h⟩
theorem wd_cell {w1 : World} {b : Nat} {cs : Array Value} {t : TypeId} {f : Nat × Nat} (hb : w1.heap[b]? = some (.cells cs t f)) (i : Nat) {v : Value} (hv : cs[i]? = some v) : ∀ x : Wd (Ch [] w1), x.v.cell? ⟨b, i, none⟩ = some v :=
  fun x => by rw [cell_of_heap (x.p.keep hb (by simp)) i, hv]
theorem wd_cellS {S0 : List Nat} {w1 : World} {b : Nat} {cs : Array Value} {t : TypeId} {f : Nat × Nat} (hb : w1.heap[b]? = some (.cells cs t f)) (hn : b ∉ S0) (i : Nat) {v : Value} (hv : cs[i]? = some v) : ∀ x : Wd (Ch S0 w1), x.v.cell? ⟨b, i, none⟩ = some v :=
  fun x => by rw [cell_of_heap (x.p.keep hb hn) i, hv]
theorem wd_look {κ : Type} [DecidableEq κ] {enc : κ → Value} {w1 : World} {b : Nat} {m : List (κ × Value)} {t k e : TypeId} (h : IsMap enc w1 b m) (K : KeyTy P k enc) (ht : P.underlying t = some (.map k e)) {z : Value} (hz : ∀ w, (zeroValue e).run P w = .ok z w)
    (x : κ) {v : Value} (hv : (alook m x).getD z = v) : ∀ y : Wd (Ch [] w1), (Instr.lookup t (.map (some b)) (enc x) false).run P y.v = .ok v y.v :=
  fun y => hv ▸ (h.keep y.p (by simp)).run_look K ht (hz _) x

/-! ### Two operations that change memory, in either order -/

theorem loud_step {i : Nat} {o : Oper} {a : Act} {w : World} {K : Act → World → Prop} (ho : ops[i]? = some o) (hq : wpList P ops (LoudPost S (Shut0 Q) K) [o] a w) : wpOp P ops (Shut0 Q) i (fun a' w' => S w' ∧ K a' w') a w := by
  unfold wpOp
  simp only [ho]
  simp only [wpList] at hq
  split
  · rename_i hwant
    simp only [hwant, if_true] at hq
    refine hq.imp (fun hq => ?_) (fun ⟨h1, a0, w0, h2⟩ => ⟨h1, a0, w0, h2⟩)
    unfold Oper.wp at hq ⊢
    revert hq
    cases hrun : (execOp a.eval o).run P w with
    | ok x w1 =>
      cases x <;> simp only [Oper.upon] <;> intro hq
      case enter f args => exact Calls.mono hq (fun e w2 he => by cases e <;> exact he)
      all_goals exact hq
    | halt x w1 => cases x <;> simp only [Oper.upon] <;> intro hq <;> exact hq
  · rename_i hwant
    simp only [hwant] at hq
    exact hq

def flowG (P : Program) (ops : Array Oper) (Q : Exit → Act → World → Prop) (S : World → Prop) (B : Act → World → Prop) : List (Bool × Nat) → Act → World → Prop
  | [], a, w => B a w
  | (true, i) :: rest, a, w => ∃ o, ops[i]? = some o ∧ wpQuiet P ops (InS S) (fun a' => flowG P ops Q S B rest a' w) [o] a
  | (false, i) :: rest, a, w => ∃ o, ops[i]? = some o ∧ wpList P ops (LoudPost S Q (flowG P ops Q S B rest)) [o] a w

def endOf : List (Bool × Nat) → Array Bool → Array Bool
  | [], l => l
  | (_, i) :: rest, l => endOf rest (l.setIfInBounds i true)

def okB (md : Region.Mode) (ops : Array Oper) (n : Nat) : List (Bool × Nat) → Array Bool → Bool
  | [], _ => true
  | (true, i) :: rest, listed => (Region.ready md ops listed).contains i && Region.free md ops listed i && decide (i < n) && ((ops[i]?).map (fun o => plainOp o.op)).getD false && okB md ops n rest (listed.setIfInBounds i true)
  | (false, i) :: rest, listed => decide (Region.ready md ops listed = [i]) && decide (i < n) && okB md ops n rest (listed.setIfInBounds i true)

theorem endOf_inv : ∀ (plan : List (Bool × Nat)) (listed : Array Bool), HeadInv md ops n listed → okB md ops n plan listed = true → HeadInv md ops n (endOf plan listed)
  | [], _, h, _ => h
  | (true, i) :: rest, listed, inv, hB => by
    simp only [okB, Bool.and_eq_true, decide_eq_true_eq] at hB
    exact endOf_inv rest _ (inv.set (by simpa using hB.1.1.1.1) hB.1.1.2) hB.2
  | (false, i) :: rest, listed, inv, hB => by
    simp only [okB, Bool.and_eq_true, decide_eq_true_eq] at hB
    exact endOf_inv rest _ (inv.set (by rw [hB.1.1]; simp) hB.1.2) hB.2

theorem flow_soundG {B : Act → World → Prop} {f0 : Nat} (hsel : Region.noSelect ops = true) (hs : Region.sinkB md ops n = true) (hc : Region.chainB md ops n = true) (hn : n < ops.size) :
    ∀ (plan : List (Bool × Nat)) (listed : Array Bool) (a : Act) (w : World), HeadInv md ops n listed → okB md ops n plan listed = true →
    (∀ a w, S w → B a w → wpAnyK P md ops (Shut0 Q) S n f0 (endOf plan listed) a w) → S w →
    flowG P ops (Shut0 Q) S B plan a w → wpAnyK P md ops (Shut0 Q) S n (plan.length + f0) listed a w
  | [], listed, a, w, inv, hB, hbase, hS, h => by simpa [endOf] using hbase a w hS h
  | (true, i) :: rest, listed, a, w, inv, hB, hbase, hS, h => by
    simp only [okB, Bool.and_eq_true, decide_eq_true_eq] at hB
    obtain ⟨⟨⟨⟨hr, hf⟩, hin⟩, hp⟩, hB'⟩ := hB
    obtain ⟨o, ho, hq⟩ := h
    have hr' : i ∈ Region.ready md ops listed := by simpa using hr
    have hp' : plainOp o.op = true := by simpa [ho] using hp
    have e1 : ((true, i) :: rest).length + f0 = (rest.length + f0) + 1 := by simp only [List.length_cons]; omega
    rw [e1]
    simp only [wpQuiet] at hq
    by_cases hw : Region.wanted o (yielded ops a.tmps) = true
    · simp only [hw, if_true] at hq
      obtain ⟨v, hv, hK⟩ := hq
      refine wpAnyK_first ho (Region.noSelect_spec hsel) (fun _ _ _ h => h) hs hc hn hin _ listed a w inv (Region.free_spec ho hf) hr' (.inl ⟨hw, fun w' hS' => ?_⟩) hS
        (flow_soundG hsel hs hc hn rest _ _ w (inv.set hr' hin) hB' hbase hS hK)
      have hv' := hv w' ⟨⟨w', hS'⟩, rfl⟩
      unfold Oper.quietAt at hv'
      revert hv'
      cases hrun : (execOp a.eval o).run P w' with
      | halt x w1 => intro hv'; exact hv'.elim
      | ok x w1 =>
        obtain ⟨u, rfl⟩ := plain_value hp' hrun
        intro hv'
        obtain ⟨e2, e3⟩ := hv'
        rw [e2, e3]
    · simp only [hw] at hq
      exact wpAnyK_first ho (Region.noSelect_spec hsel) (fun _ _ _ h => h) hs hc hn hin _ listed a w inv (Region.free_spec ho hf) hr' (.inr ⟨by simpa using hw, rfl⟩) hS
        (flow_soundG hsel hs hc hn rest _ _ w (inv.set hr' hin) hB' hbase hS hq)
  | (false, i) :: rest, listed, a, w, inv, hB, hbase, hS, h => by
    simp only [okB, Bool.and_eq_true, decide_eq_true_eq] at hB
    obtain ⟨⟨hr, hin⟩, hB'⟩ := hB
    obtain ⟨o, ho, hq⟩ := h
    have e1 : ((false, i) :: rest).length + f0 = (rest.length + f0) + 1 := by simp only [List.length_cons]; omega
    rw [e1]
    have hmem : i ∈ Region.ready md ops listed := by rw [hr]; simp
    refine ⟨fun h1 => (by rw [h1] at hmem; cases hmem), fun j hj => ?_⟩
    rw [hr] at hj
    have hji : j = i := by simpa using hj
    subst hji
    exact wpOp_mono (fun a' w' ⟨h1, h2⟩ => ⟨fun _ => h1, flow_soundG hsel hs hc hn rest _ a' w' (inv.set hmem hin) hB' hbase h1 h2⟩) (loud_step ho hq)

/-- Where i and j stand open together. -/
def flowTwo (P : Program) (ops : Array Oper) (Q : Exit → Act → World → Prop) (S : World → Prop) (n : Nat) (i : Nat) (p1 : List (Bool × Nat)) (j : Nat) (p2 : List (Bool × Nat)) (a : Act) (w : World) : Prop :=
  (∃ o, ops[i]? = some o ∧ wpList P ops (LoudPost S Q (flowW P ops Q S n p1)) [o] a w) ∧ (∃ o, ops[j]? = some o ∧ wpList P ops (LoudPost S Q (flowW P ops Q S n p2)) [o] a w)

def twoB (md : Region.Mode) (ops : Array Oper) (n : Nat) (plan : List (Bool × Nat)) (i : Nat) (p1 : List (Bool × Nat)) (j : Nat) (p2 : List (Bool × Nat)) : Bool :=
  Region.noSelect ops && decide (n < ops.size) && decide (plan.length + 1 + p1.length = n) && decide (p1.length = p2.length) && Region.sinkB md ops n && Region.chainB md ops n && okB md ops n plan (Array.replicate ops.size false) &&
  decide (Region.ready md ops (endOf plan (Array.replicate ops.size false)) = [i, j]) && decide (i < n) && decide (j < n) &&
  planB md ops n p1 ((endOf plan (Array.replicate ops.size false)).setIfInBounds i true) && planB md ops n p2 ((endOf plan (Array.replicate ops.size false)).setIfInBounds j true)

theorem wp_region_two {id : Nat} {a : Act} {w : World} {l : List Oper} (S : World → Prop) (n : Nat) (plan : List (Bool × Nat)) (i : Nat) (p1 : List (Bool × Nat)) (j : Nat) (p2 : List (Bool × Nat)) (hm : P.follows .mixedOrders = true)
    (hB : twoB .any l.toArray n plan i p1 j p2 = true) (hS : S w.drew) (h : S w.drew → Nonempty (Wd S) → flowG P l.toArray (Shut0 Q) S (flowTwo P l.toArray (Shut0 Q) S n i p1 j p2) plan a w.drew) : (Code.region id l.toArray true).wp P Q a w := by
  simp only [twoB, Bool.and_eq_true, decide_eq_true_eq] at hB
  obtain ⟨⟨⟨⟨⟨⟨⟨⟨⟨⟨⟨hsel, hn⟩, hl⟩, hl2⟩, hs⟩, hc⟩, hp⟩, hr⟩, hi⟩, hj⟩, hp1⟩, hp2⟩ := hB
  have inv0 : HeadInv .any l.toArray n (Array.replicate l.toArray.size false) :=
    ⟨by simp, fun j oj _ hl => (by rw [getD_replicate_false] at hl; cases hl), fun t _ ht => getD_in (by simpa using ht) (getD_replicate_false _ _)⟩
  have invE := endOf_inv plan _ inv0 hp
  have H := flow_soundG (P := P) (Q := Q) (S := S) (B := flowTwo P l.toArray (Shut0 Q) S n i p1 j p2) (f0 := (p1.length + (l.toArray.size - n)) + 1) hsel hs hc hn plan _ a w.drew inv0 hp (fun a' w' hS' hB' => by
    obtain ⟨⟨o1, ho1, h1⟩, o2, ho2, h2⟩ := hB'
    have m1 : i ∈ Region.ready .any l.toArray (endOf plan (Array.replicate l.toArray.size false)) := by rw [hr]; simp
    have m2 : j ∈ Region.ready .any l.toArray (endOf plan (Array.replicate l.toArray.size false)) := by rw [hr]; simp
    refine ⟨fun h => (by rw [hr] at h; cases h), fun k hk => ?_⟩
    rw [hr] at hk
    have hk' : k = i ∨ k = j := by simpa using hk
    rcases hk' with rfl | rfl
    · exact wpOp_mono (fun a' w' ⟨g1, g2⟩ => ⟨fun _ => g1, flow_sound hsel hs hc hn p1 _ a' w' (invE.set m1 hi) hp1 g1 g2⟩) (loud_step ho1 h1)
    · rw [hl2]
      exact wpOp_mono (fun a' w' ⟨g1, g2⟩ => ⟨fun _ => g1, flow_sound hsel hs hc hn p2 _ a' w' (invE.set m2 hj) hp2 g1 g2⟩) (loud_step ho2 h2)) hS (h hS ⟨⟨w.drew, hS⟩⟩)
  rw [show plan.length + ((p1.length + (l.toArray.size - n)) + 1) = l.toArray.size by omega] at H
  refine Code.wp_mono (Q := Shut0 Q) (fun e a w he => by cases e <;> first | exact he | exact (he : False).elim) (wp_region_any hm (wpAny_of_K _ _ _ _ H))

def flowH (P : Program) (ops : Array Oper) (Q : Exit → Act → World → Prop) (S : World → Prop) (B : Act → World → Prop) (rest : List (Bool × Nat)) (w : World) (a : Act) : Prop := flowG P ops Q S B rest a w
theorem flow_n2 {ops : Array Oper} {B : Act → World → Prop} {rest : List (Bool × Nat)} {a : Act} {w : World} (h : flowG P ops Q S B rest a w) : wpQuiet P ops (InS S) (flowH P ops Q S B rest w) [] a := wpQuiet_nil h
theorem flow_q2 {B : Act → World → Prop} {i : Nat} {rest : List (Bool × Nat)} {a : Act} {w : World} {o : Oper} {l : List Oper} (ho : l[i]? = some o) (h : wpQuiet P l.toArray (InS S) (flowH P l.toArray Q S B rest w) [o] a) :
    flowG P l.toArray Q S B ((true, i) :: rest) a w := ⟨o, by simpa using ho, h⟩
theorem flow_two {i j : Nat} {p1 p2 : List (Bool × Nat)} {a : Act} {w : World} {o1 o2 : Oper} {l : List Oper} (h1 : l[i]? = some o1) (h2 : l[j]? = some o2) (k1 : wpList P l.toArray (LoudPost S Q (flowW P l.toArray Q S n p1)) [o1] a w)
    (k2 : wpList P l.toArray (LoudPost S Q (flowW P l.toArray Q S n p2)) [o2] a w) : flowG P l.toArray Q S (flowTwo P l.toArray Q S n i p1 j p2) [] a w := ⟨⟨o1, by simpa using h1, k1⟩, o2, by simpa using h2, k2⟩
end

end Go.Proofs.YticfeikmdfijiaaDoor
