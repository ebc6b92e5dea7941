/- slices.Sort of a row of at most one number. -/
import Derived.Test.YticfeikmdfijiaaDoorKeys
import Derived.Handy
namespace Go.Proofs.YticfeikmdfijiaaDoor
open Go Go.RowKit

set_option maxHeartbeats 1000000 in
theorem ins1_call (v : Value) (n : Int) (h0 : n ≤ 1) (h1 : 0 ≤ n) (w : World) :
    Gives Tryd.prog 100 #[v, .int .i64 0, .int .i64 n] w fun r w' => r = .tuple #[] ∧ Ch [] w w' := by
  have hd : decide (1 < n) = false := by simpa using h0
  go_enter Tryd.func100, Tryd.ntmps100
  go_wp2
  go_rounds 1
  all_goals first
    | (exfalso; omega)
    | (go_end0; exact ⟨_, rfl, rfl, Ch.refl _ _⟩)

set_option maxHeartbeats 1000000 in
theorem pdq1_call (v : Value) (n k : Int) (h0 : n ≤ 1) (h1 : 0 ≤ n) (w : World) :
    Gives Tryd.prog 92 #[v, .int .i64 0, .int .i64 n, .int .i64 k] w fun r w' => r = .tuple #[] ∧ Ch [] w w' := by
  have hd : decide (n ≤ 12) = true := by simp; omega
  have hw : IntKind.i64.wrap n = n := by rw [IntKind.wrap_i64]; omega
  go_enter Tryd.func92, Tryd.ntmps92
  go_wp2
  refine wp_loop_rounds 1 ?_
  rw [rounds_succ]
  go_wp2_with (go_at_call 100; refine Calls.mono (ins1_call v n h0 h1 _) ?_; rintro e w' ⟨r, rfl, rfl, hc⟩)
  refine bodyPost_ret (results_none rfl _ _ _) rfl ?_
  exact ⟨_, rfl, rfl, hc⟩

set_option maxHeartbeats 1000000 in
theorem sorts1 : SortsU 1 := by
  intro base v ss w hrow hl
  have hm : (ss.mergeSort fun x y => decide (x ≤ y)) = ss := by
    match ss, hl with
    | [], _ => simp
    | [x], _ => simp
  rw [hm]
  obtain ⟨ao, cap, hv, hl', hcap, hml, _⟩ := Sl.ofRow hrow
  subst hv
  have hb : (IntKind.u64.wrap (ss.length : Int)) = (ss.length : Int) := by rw [IntKind.wrap_u64]; omega
  go_enter Tryd.func76, Tryd.ntmps76
  go_wp2_with (first
    | (go_at_call 93; refine Calls.mono (Tryd.bits_Len (ss.length : Int) _ (by omega) (by omega)) ?_; rintro e w' ⟨rfl, rfl⟩)
    | (go_at_call 92; refine Calls.mono (pdq1_call _ (ss.length : Int) _ (by omega) (by omega) _) ?_; rintro e w' ⟨r, rfl, rfl, hc⟩))
  go_end0
  exact ⟨_, rfl, rfl, row_keep hrow hc (by simp), hc.ofNil⟩

end Go.Proofs.YticfeikmdfijiaaDoor
