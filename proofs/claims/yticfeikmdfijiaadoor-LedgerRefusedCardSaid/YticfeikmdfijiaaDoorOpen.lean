/- The ledger: Open. -/
import Derived.Test.YticfeikmdfijiaaDoorSort1
import Derived.OwnWalk
import Derived.LoopTactic
namespace Go.Proofs.YticfeikmdfijiaaDoor
open Go Go.RowKit

abbrev leI' : Int → Int → Bool := fun x y => decide (x ≤ y)
/-- The exchanges of these identifiers. -/
def exOf (m : List (Int × Exch)) (ks : List Int) : List Exch := ks.filterMap (alook m)
def openS (s : Side) : List Exch := exOf s.opens ((s.opens.map (·.1)).mergeSort leI')

theorem exOf_length {m : List (Int × Exch)} {ks : List Int} (h : ∀ k ∈ ks, k ∈ m.map (·.1)) : (exOf m ks).length = ks.length := by
  induction ks with
  | nil => rfl
  | cons k ks ih =>
    have hk := h k (by simp)
    have : alook m k ≠ none := fun e => by
      obtain ⟨p, hp, e2⟩ := List.mem_map.1 hk
      exact alook_none.1 e p hp e2
    obtain ⟨x, hx⟩ := Option.ne_none_iff_exists'.1 this
    have := ih (fun k hk => h k (by simp [hk]))
    simp only [exOf] at this ⊢
    simp [hx, this]

set_option maxHeartbeats 2000000 in
theorem open_call (M : Nat) (hM : M ≤ 100000) (hsort : SortsU M) (B : Nat) (w : World) (s : Lay) (h : SideAt B w s) (hlen : s.os.length ≤ M) (hw : ∀ p ∈ s.os, (Lit.int .u32 p.1).wf = true) :
    Gives Tryd.prog 15 #[ptrOf s.bs] w fun v w' => Sl w' v 6 (openS s.abs).length ((openS s.abs).flatMap Exch.cells) ∧ Ch [] w w' := by
  have c0 : w.cell? ⟨s.bs, 0, none⟩ = some (.map (some s.bo)) := cell_of_heap h.head 0
  unfold ptrOf
  have hkc := keys_call (some s.bo) w
  have hc1 : Ch [] w (w.alloc (.cells #[.map (some s.bo)] 105)) := (Ch.refl [] w).alloc _
  have M1 := Moved.other h hc1
  have hcell : (w.alloc (.cells #[.map (some s.bo)] 105)).cell? ⟨w.heap.size, 0, none⟩ = some (.map (some s.bo)) := cell_of_heap (heap_new w _) 0
  have hsk := sortedKeys_call M (by omega) hsort w.heap.size s.bo _ _ hcell M1.at_.opens (by
    intro p hp
    obtain ⟨q, hq, rfl⟩ := List.mem_map.1 hp
    exact hw q hq) (by simpa using hlen)
  go_enter Tryd.func15, Tryd.ntmps15
  go_wp2_with (first
    | (go_at_call 51; refine Calls.mono hkc ?_; rintro e w' ⟨r, rfl, rfl, rfl⟩)
    | (go_at_call 50; refine Calls.mono hsk ?_; rintro e w2 ⟨kv, rfl, hkr, hk2⟩; obtain ⟨d1, d2, rfl⟩ := row_shape hkr))
  obtain ⟨n, hn⟩ : ∃ n, n = s.os.length := ⟨_, rfl⟩
  obtain ⟨ks, hks⟩ : ∃ ks, ks = (s.os.map (·.1)).mergeSort leI' := ⟨_, rfl⟩
  have hkr' : w2.ownsRow (w.heap.size + 1) 22 1 (.slice d1 n d2) n (ks.map (Value.int .u32)) := by
    rw [hn, hks]
    simpa [List.map_map, Function.comp_def] using hkr
  have hkl : ks.length = n := by rw [hks, hn]; simp
  have hkm : ∀ k ∈ ks, ∃ b x, alook s.os k = some (b, x) := fun k hk => by
    rw [hks] at hk
    have hk := (List.mergeSort_perm _ leI').subset hk
    obtain ⟨p, hp, rfl⟩ := List.mem_map.1 hk
    exact ⟨p.2.1, p.2.2, alook_of_mem h.keys hp⟩
  have M2 := M1.trans (Moved.other M1.at_ hk2)
  rw [← hn]
  have HK : Hid (n = s.os.length ∧ ks = (s.os.map (·.1)).mergeSort leI' ∧ ks.length = n ∧ (∀ k ∈ ks, ∃ b x, alook s.os k = some (b, x)) ∧ s.os.length ≤ M) := ⟨hn, hks, hkl, hkm, hlen⟩
  clear hkr hsk hkc hcell c0 hkl hkm hw hsort hn hks hlen
  go_loopw [3, 13] (fun v3 v13 wr => ∃ (i : Nat) (o1 : Option Addr) (o2 : Nat), v13 = .int .i64 i ∧ v3 = .slice o1 i o2 ∧ i ≤ n ∧ wr.ownsRow w2.heap.size 114 6 (.slice o1 i o2) i ((exOf s.abs.opens (ks.take i)).flatMap Exch.cells) ∧ Ch [] w2 wr)
    (fun _ v13 _ => match v13 with | .int _ x => n - x.toNat | _ => 0)
  case atStart => exact ⟨0, none, 0, rfl, rfl, by omega, ⟨by simp [exOf], .inl ⟨rfl, rfl⟩⟩, Ch.refl _ _⟩
  case round =>
    obtain ⟨i, o1, o2, rfl, rfl, hin, hor, hcr⟩ := hrel
    have hnn : n ≤ 100000 := by have := HK.out; omega
    by_cases hi : i < n
    · have hlt : decide ((i : Int) < (n : Int)) = true := by simpa using hi
      have hki : i < ks.length := by have := HK.out; omega
      obtain ⟨b, x, hbx⟩ := HK.out.2.2.2.1 ks[i] (List.getElem_mem hki)
      have hkv : ks[i]? = some ks[i] := List.getElem?_eq_getElem hki
      generalize ks[i] = k at hbx hkv
      rcases hkr'.2 with ⟨_, h0⟩ | ⟨g, cap, cur, hd, _⟩
      · omega
      cases hd
      have hck : wr.cell? ⟨g, i, none⟩ = some (.int .u32 k) := by
        have h1 := hkr'.cells (g := g) rfl i (.int .u32 k) (by simp [hkv])
        have h2 : w2.cell? ⟨g, i, none⟩ = some (.int .u32 k) := by simpa [Addr.add_lit] using h1
        exact hcr.cell h2 (by simp)
      have M3 := M2.trans (Moved.other M2.at_ hcr)
      have c0 : wr.cell? ⟨s.bs, 0, none⟩ = some (.map (some s.bo)) := cell_of_heap M3.at_.head 0
      have hl := M3.at_.opens.run_look kU32 Tryd.underlying105 (Tryd.zeroValue112 _) k
      rw [alook_map (fun q : Nat × Exch => ptrOf q.1), hbx] at hl
      simp only [Option.map_some, Option.getD_some, ptrOf] at hl
      have hxb := M3.at_.each _ (alook_mem hbx)
      obtain ⟨xid, xt, xp, tm, came, over⟩ := x
      simp only [Exch.cells] at hxb
      have x0 : wr.cell? ⟨b, 0, none⟩ = some (.int .u32 xid) := cell_of_heap hxb 0
      have x1 : wr.cell? ⟨b, 1, none⟩ = some (.string xt) := cell_of_heap hxb 1
      have x2 : wr.cell? ⟨b, 2, none⟩ = some (.string xp) := cell_of_heap hxb 2
      have x3 : wr.cell? ⟨b, 3, none⟩ = some (.int .i64 tm) := cell_of_heap hxb 3
      have x4 : wr.cell? ⟨b, 4, none⟩ = some (.bool came) := cell_of_heap hxb 4
      have x5 : wr.cell? ⟨b, 5, none⟩ = some (.bool over) := cell_of_heap hxb 5
      have hxs := sl_new wr [.int .u32 xid, .string xt, .string xp, .int .i64 tm, .bool came, .bool over] 114 6 1 rfl (le_maxLen (by omega))
      have hcA : Ch [] wr (wr.alloc (Obj.cells [.int .u32 xid, .string xt, .string xp, .int .i64 tm, .bool came, .bool over].toArray 114)) := (Ch.refl [] wr).alloc _
      have hrA := row_keep hor hcA (by simp)
      have hkx : Hid (ks[i]? = some k) := hkv
      clear hkv
      go_wp2_with (at_builtin; refine wl_app rfl (.tmp 17) (.tmp 26) elExch rfl hrA rfl hxs rfl (by simp [Value.oneCell']) (le_maxLen (by omega)) (by omega) (Nat.le_trans hcr.size hcA.size) ?_; intro v' w4 hr4 hg4 hnil4 hor4; obtain ⟨e1, e2, rfl⟩ := row_shape hr4)
      refine ⟨⟨i + 1, e1, e2, by simp, rfl, by omega, ?_, (hcr.thenNil hcA).trans (Ch.ofGrown hg4) (fun b hb => .inr (ownBlock_lt hrA (by simpa using hb)).1)⟩, by simp; omega⟩
      have h1 : ks.take (i + 1) = ks.take i ++ [k] := by rw [List.take_add_one, hkx.out]; rfl
      have h2 : alook s.abs.opens k = some ⟨xid, xt, xp, tm, came, over⟩ := by rw [abs_alook, hbx]; rfl
      rw [h1]
      simpa [exOf, h2, Exch.cells] using hr4
    · have hlt : decide ((i : Int) < (n : Int)) = false := by simpa using hi
      go_wp2
      go_ret
      obtain ⟨hn, hks, hkl, hkm, hlen⟩ := HK.out
      have hi2 : i = n := by omega
      have hk3 : ks.take i = ks := by rw [hi2, ← hkl]; exact List.take_length
      have hkk : (s.abs.opens.map (·.1)).mergeSort leI' = ks := by rw [hks]; simp [Lay.abs, List.map_map, Function.comp_def]
      have hoo : openS s.abs = exOf s.abs.opens (ks.take i) := by rw [hk3]; simp only [openS, hkk]
      have hol : (exOf s.abs.opens (ks.take i)).length = i := by
        rw [hk3, exOf_length (fun k hk => by rw [← hkk] at hk; exact (List.mergeSort_perm _ leI').subset hk), hkl, hi2]
      refine ⟨_, rfl, ?_, (hc1.thenNil hk2).thenNil hcr⟩
      rw [hoo, hol]
      exact Sl.ofRow hor

end Go.Proofs.YticfeikmdfijiaaDoor
