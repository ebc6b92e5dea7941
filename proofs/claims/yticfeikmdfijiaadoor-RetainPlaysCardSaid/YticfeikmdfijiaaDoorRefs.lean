/- The document's side of properties and messages: Told. -/
import Derived.Test.YticfeikmdfijiaaDoorFew
import Derived.Test.YticfeikmdfijiaaDoorBox
import Derived.Deep.Cut
namespace Go.Proofs.YticfeikmdfijiaaDoor
open Go Go.RowKit

theorem elR3 : ElemTy Tryd.prog 82 150 (.agg #[.int .i64 0, .int .u32 0, .string ⟨#[]⟩, .string ⟨#[]⟩]) 4 48 := ⟨Tryd.underlying82, by kernel_rfl, rfl, by decide⟩

/-- An element of a row of properties, read. -/
theorem ArgSl.elem {w : World} {v : Value} {l : List PropR} (h : ArgSl w v l) {i : Nat} {p : PropR} (hp : l[i]? = some p) :
    ∃ b o cap, v = .slice (some ⟨b, o, none⟩) l.length cap ∧ w.cell? ⟨b, o + i * 4, none⟩ = some (.int .i64 p.id) ∧ w.cell? ⟨b, o + i * 4 + 1, none⟩ = some (.int .u32 p.n) ∧ w.cell? ⟨b, o + i * 4 + 2, none⟩ = some (.string p.s) ∧ w.cell? ⟨b, o + i * 4 + 3, none⟩ = some (.string p.t) := by
  obtain ⟨ao, cap, hv, hor⟩ := h
  have hs := hor.resolve_left (by rintro rfl; simp at hp)
  obtain ⟨b, o, cap', hsv, hcell⟩ := hs.at (f := PropR.cells) (i := i) (fun _ => rfl) (by omega) hp
  exact ⟨b, o, cap', hsv, by simpa using hcell 0 _ rfl, by simpa [Nat.add_assoc] using hcell 1 _ rfl, by simpa [Nat.add_assoc] using hcell 2 _ rfl, by simpa [Nat.add_assoc] using hcell 3 _ rfl⟩
theorem Sl.arg {w : World} {v : Value} {l : List PropR} (h : Sl w v 4 l.length (l.flatMap PropR.cells)) : ArgSl w v l := by
  obtain ⟨ao, cap, hv⟩ := h.shape'
  exact ⟨ao, cap, hv, .inr h⟩

set_option maxHeartbeats 4000000 in
theorem told3_call (w : World) (v : Value) (l : List PropR) (h : ArgSl w v l) (hl : l.length ≤ 100000) :
    Gives Tryd.prog 67 #[v] w fun r w' => w'.ownsRow w.heap.size 150 4 r l.length (l.flatMap PropR.cells) ∧ Ch [] w w' := by
  obtain ⟨n, hn⟩ : ∃ n, n = l.length := ⟨_, rfl⟩
  obtain ⟨ao, cap, hv⟩ := h.shape'
  rw [← hn] at hv hl
  subst hv
  have HN : Hid (n = l.length) := hn
  clear hn
  go_enter Tryd.func67, Tryd.ntmps67
  go_wp2_with fail
  go_loopw [3, 9] (fun v3 v9 wr => ∃ (i : Nat) (o1 : Option Addr) (o2 : Nat), v9 = .int .i64 i ∧ v3 = .slice o1 i o2 ∧ i ≤ n ∧
      wr.ownsRow w.heap.size 150 4 (.slice o1 i o2) i ((l.take i).flatMap PropR.cells) ∧ Ch [] w wr)
    (fun _ v9 _ => match v9 with | .int _ x => n - x.toNat | _ => 0)
  case atStart =>
    exact ⟨0, some ⟨w.heap.size, 0, none⟩, 0, rfl, rfl, by omega, ⟨rfl, .inr ⟨w.heap.size, 0, #[], rfl, Nat.le_refl _, heap_new w _, by omega, by decide, rfl, rfl⟩⟩, (Ch.refl [] w).alloc _⟩
  case round =>
    obtain ⟨i, o1, o2, rfl, rfl, hin, hrow, hcr⟩ := hrel
    by_cases hi : i < n
    · have hlt : decide ((i : Int) < (n : Int)) = true := by simpa using hi
      have hil : i < l.length := by have := HN.out; omega
      have hp : l[i]? = some l[i] := List.getElem?_eq_getElem hil
      obtain ⟨b, o, cap', hsv, e0, e1, e2, e3⟩ := (h.keep hcr).elem hp
      cases hsv
      generalize hpp : l[i] = p at hp e0 e1 e2 e3
      obtain ⟨pid, pn, ps, pt⟩ := p
      simp only at e0 e1 e2 e3
      have HP : Hid (l[i]? = some ⟨pid, pn, ps, pt⟩) := hp
      clear hp hpp
      have hcB : Ch [] wr (wr.alloc (Obj.cells #[.int .i64 pid, .int .u32 pn, .string ps, .string pt] 62)) := (Ch.refl [] wr).alloc _
      have hbB := heap_new wr (Obj.cells #[.int .i64 pid, .int .u32 pn, .string ps, .string pt] 62)
      go_upto_region 5 with fail
      generalize wr.alloc (Obj.cells #[.int .i64 pid, .int .u32 pn, .string ps, .string pt] 62) = w1 at hcB hbB ⊢
      obtain ⟨k0, k1, k2, k3⟩ := cells4 hbB
      have hxs := sl_new w1 [.int .i64 pid, .int .u32 pn, .string ps, .string pt] 150 4 1 rfl (le_maxLen (by omega))
      have hcA := (Ch.refl [] w1).alloc (Obj.cells [.int .i64 pid, .int .u32 pn, .string ps, .string pt].toArray 150)
      have hrA := row_keep (row_keep hrow hcB (by simp)) hcA (by simp)
      have q1 : i + 1 ≤ maxLen := le_maxLen (by omega)
      have q2 : (i + 1) * 48 ≤ 140737488355328 := by omega
      have q3 : w.heap.size ≤ _ := Nat.le_trans (Nat.le_trans hcr.size hcB.size) hcA.size
      have q4 : ∀ u ∈ ([.int .i64 pid, .int .u32 pn, .string ps, .string pt] : List Value), u.oneCell' = true := by simp [Value.oneCell']
      go_wp2_with (at_builtin; refine wl_app rfl (.tmp 13) (.tmp 15) elR3 rfl hrA rfl hxs rfl q4 q1 q2 q3 ?_; intro v' w7 hr7 hg7 hnil7 hor7; obtain ⟨e1, e2, rfl⟩ := row_shape hr7)
      refine ⟨⟨i + 1, e1, e2, by simp, rfl, by omega, ?_, ((hcr.thenNil hcB).thenNil hcA).trans (Ch.ofGrown hg7) (fun b hb => .inr (ownBlock_lt hrA (by simpa using hb)).1)⟩, by simp; omega⟩
      rw [take_snoc HP.out]
      simpa [PropR.cells] using hr7
    · have hlt : decide ((i : Int) < (n : Int)) = false := by simpa using hi
      go_wp2
      go_ret
      refine ⟨_, rfl, ?_, hcr⟩
      have h8 : i = l.length := by have := HN.out; omega
      rw [List.take_of_length_le (by omega)] at hrow
      rw [← h8]
      exact hrow

end Go.Proofs.YticfeikmdfijiaaDoor
