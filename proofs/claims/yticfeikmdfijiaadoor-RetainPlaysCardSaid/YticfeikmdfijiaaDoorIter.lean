/- The shelf's contracts on slices.Sorted(maps.Keys(m)) at string keys, laid at this dump by the kit's tools, in plain words. -/
import Derived.Shelf.SlIter.Nil
import Derived.Shelf.SortM.Plain
import Derived.Shelf.SortM.SortNone
import Derived.Ground.GgzProg
import Derived.Ground.SlgmProg
import Derived.Test.YticfeikmdfijiaaDoorProg
namespace Go.Proofs
open Go.RowKit Go.Maps Go.Sort Go.Shelf
def Tryd.keys65_ren : Go.Shelf.Ren := ⟨fun | 7 => 65 | 10 => 84 | n => n, fun | 23 => 140 | 26 => 9 | 3 => 58 | 28 => 147 | 0 => 0 | 27 => 146 | 33 => 164 | 4 => 4 | n => n, fun | n => n⟩
theorem Tryd.keys65 : Go.Proofs.SlLaysZ.n7 Tryd.prog Tryd.keys65_ren := {
  mixed := by kernel_rfl
  f7 := ⟨Tryd.f65.name, by decide, Tryd.func65.trans (congrArg some (by kernel_rfl))⟩
  f10 := ⟨Tryd.f84.name, by decide, Tryd.func84.trans (congrArg some (by kernel_rfl))⟩
  t0 := Tryd.underlying0
  a0 := Tryd.isAgg0
  z0 := Tryd.sizeOf0
  v0 := Tryd.zeroValue0
  t4 := Tryd.underlying4
  a4 := Tryd.isAgg4
  z4 := Tryd.sizeOf4
  v4 := Tryd.zeroValue4
  t23 := Tryd.underlying140
  a23 := Tryd.isAgg140
  z23 := Tryd.sizeOf140
  v23 := Tryd.zeroValue140
  t26 := Tryd.underlying9
  a26 := Tryd.isAgg9
  z26 := Tryd.sizeOf9
  v26 := Tryd.zeroValue9
  t27 := Tryd.underlying146
  a27 := Tryd.isAgg146
  z27 := Tryd.sizeOf146
  v27 := Tryd.zeroValue146
  t28 := Tryd.underlying147
  a28 := Tryd.isAgg147
  z28 := Tryd.sizeOf147
  v28 := Tryd.zeroValue147
  t33 := Tryd.underlying164
  a33 := Tryd.isAgg164
  z33 := Tryd.sizeOf164
  v33 := Tryd.zeroValue164 }
def Tryd.sorted64_ren : Go.Shelf.Ren := ⟨fun | 6 => 64 | 8 => 82 | 9 => 83 | 11 => 95 | 13 => 93 | 12 => 96 | 23 => 109 | 24 => 110 | 14 => 111 | 15 => 112 | 16 => 113 | 17 => 114 | 18 => 115 | 19 => 116 | 20 => 117 | 21 => 118 | 22 => 119 | 25 => 132 | 26 => 127 | 27 => 128 | 28 => 133 | 29 => 134 | 30 => 135 | 31 => 144 | n => n, fun | 26 => 9 | 28 => 147 | 24 => 39 | 0 => 0 | 3 => 3 | 37 => 170 | 48 => 22 | 50 => 185 | 4 => 4 | 40 => 177 | 39 => 176 | 45 => 63 | 5 => 5 | 9 => 9 | 51 => 197 | 55 => 201 | 57 => 210 | 58 => 211 | 33 => 164 | n => n, fun | n => n⟩
theorem Tryd.sorted64 : Go.Proofs.SlLaysZ.n6 Tryd.prog Tryd.sorted64_ren := {
  mixed := by kernel_rfl
  f6 := ⟨Tryd.f64.name, by decide, Tryd.func64.trans (congrArg some (by kernel_rfl))⟩
  f8 := ⟨Tryd.f82.name, by decide, Tryd.func82.trans (congrArg some (by kernel_rfl))⟩
  f11 := ⟨Tryd.f95.name, by decide, Tryd.func95.trans (congrArg some (by kernel_rfl))⟩
  t0 := Tryd.underlying0
  a0 := Tryd.isAgg0
  z0 := Tryd.sizeOf0
  v0 := Tryd.zeroValue0
  t24 := Tryd.underlying39
  a24 := Tryd.isAgg39
  z24 := Tryd.sizeOf39
  v24 := Tryd.zeroValue39
  t26 := Tryd.underlying9
  a26 := Tryd.isAgg9
  z26 := Tryd.sizeOf9
  v26 := Tryd.zeroValue9
  t28 := Tryd.underlying147
  a28 := Tryd.isAgg147
  z28 := Tryd.sizeOf147
  v28 := Tryd.zeroValue147
  i26 := by kernel_rfl }
def Tryd.sort83_ren : Go.Shelf.Ren := ⟨fun | 6 => 83 | 8 => 93 | 9 => 96 | 19 => 109 | 20 => 110 | 21 => 111 | 22 => 112 | 23 => 113 | 24 => 114 | 25 => 115 | 26 => 116 | 27 => 117 | 28 => 118 | 29 => 119 | 36 => 132 | 31 => 127 | 32 => 128 | 37 => 133 | 38 => 134 | 39 => 135 | 41 => 144 | n => n, fun | 27 => 39 | 29 => 9 | 3 => 3 | 32 => 170 | 26 => 39 | 0 => 0 | 44 => 22 | 46 => 185 | 4 => 4 | 36 => 177 | 35 => 176 | 41 => 63 | 5 => 5 | 9 => 9 | 53 => 197 | 57 => 201 | 63 => 210 | 64 => 211 | n => n, fun | n => n⟩
theorem Tryd.sort83 : Go.Proofs.SlLaysM.n6 Tryd.prog Tryd.sort83_ren := {
  mixed := by kernel_rfl
  f6 := ⟨Tryd.f83.name, by decide, Tryd.func83.trans (congrArg some (by kernel_rfl))⟩
  f8 := Tryd.func93.trans (congrArg some (by kernel_rfl))
  f9 := ⟨Tryd.f96.name, by decide, Tryd.func96.trans (congrArg some (by kernel_rfl))⟩
  f19 := Tryd.func109.trans (congrArg some (by kernel_rfl))
  f20 := Tryd.func110.trans (congrArg some (by kernel_rfl))
  f21 := ⟨Tryd.f111.name, by decide, Tryd.func111.trans (congrArg some (by kernel_rfl))⟩
  f22 := ⟨Tryd.f112.name, by decide, Tryd.func112.trans (congrArg some (by kernel_rfl))⟩
  f23 := ⟨Tryd.f113.name, by decide, Tryd.func113.trans (congrArg some (by kernel_rfl))⟩
  f24 := ⟨Tryd.f114.name, by decide, Tryd.func114.trans (congrArg some (by kernel_rfl))⟩
  f25 := ⟨Tryd.f115.name, by decide, Tryd.func115.trans (congrArg some (by kernel_rfl))⟩
  f26 := ⟨Tryd.f116.name, by decide, Tryd.func116.trans (congrArg some (by kernel_rfl))⟩
  f27 := ⟨Tryd.f117.name, by decide, Tryd.func117.trans (congrArg some (by kernel_rfl))⟩
  f28 := ⟨Tryd.f118.name, by decide, Tryd.func118.trans (congrArg some (by kernel_rfl))⟩
  f29 := ⟨Tryd.f119.name, by decide, Tryd.func119.trans (congrArg some (by kernel_rfl))⟩
  f31 := Tryd.func127.trans (congrArg some (by kernel_rfl))
  f32 := Tryd.func128.trans (congrArg some (by kernel_rfl))
  f36 := ⟨Tryd.f132.name, by decide, Tryd.func132.trans (congrArg some (by kernel_rfl))⟩
  f37 := ⟨Tryd.f133.name, by decide, Tryd.func133.trans (congrArg some (by kernel_rfl))⟩
  f38 := ⟨Tryd.f134.name, by decide, Tryd.func134.trans (congrArg some (by kernel_rfl))⟩
  f39 := ⟨Tryd.f135.name, by decide, Tryd.func135.trans (congrArg some (by kernel_rfl))⟩
  f41 := ⟨Tryd.f144.name, by decide, Tryd.func144.trans (congrArg some (by kernel_rfl))⟩
  t0 := Tryd.underlying0
  a0 := Tryd.isAgg0
  z0 := Tryd.sizeOf0
  v0 := Tryd.zeroValue0
  t3 := Tryd.underlying3
  a3 := Tryd.isAgg3
  z3 := Tryd.sizeOf3
  v3 := Tryd.zeroValue3
  t4 := Tryd.underlying4
  a4 := Tryd.isAgg4
  z4 := Tryd.sizeOf4
  v4 := Tryd.zeroValue4
  t5 := Tryd.underlying5
  a5 := Tryd.isAgg5
  z5 := Tryd.sizeOf5
  v5 := Tryd.zeroValue5
  t9 := Tryd.underlying9
  a9 := Tryd.isAgg9
  z9 := Tryd.sizeOf9
  v9 := Tryd.zeroValue9
  t26 := Tryd.underlying39
  a26 := Tryd.isAgg39
  z26 := Tryd.sizeOf39
  v26 := Tryd.zeroValue39
  t27 := Tryd.underlying39
  a27 := Tryd.isAgg39
  z27 := Tryd.sizeOf39
  v27 := Tryd.zeroValue39
  t29 := Tryd.underlying9
  a29 := Tryd.isAgg9
  z29 := Tryd.sizeOf9
  v29 := Tryd.zeroValue9
  t32 := Tryd.underlying170
  a32 := Tryd.isAgg170
  z32 := Tryd.sizeOf170
  v32 := Tryd.zeroValue170
  t35 := Tryd.underlying176
  a35 := Tryd.isAgg176
  z35 := Tryd.sizeOf176
  v35 := Tryd.zeroValue176
  t36 := Tryd.underlying177
  a36 := Tryd.isAgg177
  z36 := Tryd.sizeOf177
  v36 := Tryd.zeroValue177
  t41 := Tryd.underlying63
  a41 := Tryd.isAgg63
  z41 := Tryd.sizeOf63
  v41 := Tryd.zeroValue63
  t44 := Tryd.underlying22
  a44 := Tryd.isAgg22
  z44 := Tryd.sizeOf22
  v44 := Tryd.zeroValue22
  t46 := Tryd.underlying185
  a46 := Tryd.isAgg185
  z46 := Tryd.sizeOf185
  v46 := Tryd.zeroValue185
  t53 := Tryd.underlying197
  a53 := Tryd.isAgg197
  z53 := Tryd.sizeOf197
  v53 := Tryd.zeroValue197
  t57 := Tryd.underlying201
  a57 := Tryd.isAgg201
  z57 := Tryd.sizeOf201
  v57 := Tryd.zeroValue201
  t63 := Tryd.underlying210
  a63 := Tryd.isAgg210
  z63 := Tryd.sizeOf210
  v63 := Tryd.zeroValue210
  t64 := Tryd.underlying211
  a64 := Tryd.isAgg211
  z64 := Tryd.sizeOf211
  v64 := Tryd.zeroValue211 }

/-- slices.Sort's two contracts at this dump, at the fence that asks nothing. -/
theorem Tryd.sorts64 (m : Nat) : AnyZ.SortsIn Tryd.prog Tryd.sorted64_ren Fence.wide m :=
  ⟨fun blk off cap ss W hH hblk hsz => callsIn_wide.2 (AnyM.slices_Sort_string Tryd.sort83 blk off cap ss W hH hblk hsz),
   fun p cap W => callsIn_wide.2 (AnyM.slices_Sort_string_none Tryd.sort83 p cap W)⟩

/-- **maps.Keys[map[string]switchboard/retain.Message,string,switchboard/retain.Message], at whatever map, the nil one too:** a function value over ONE NEW BLOCK, which holds the map. -/
theorem Tryd.maps_Keys_65 (mb : Option Nat) (W : World) : CallsIn Fence.wide 5 Tryd.prog 65 #[.map mb] W fun e w' => e = .returned (.func (.func 84) #[] #[.pointer (some ⟨W.heap.size, 0, none⟩)]) ∧ w' = W.alloc (.cells #[.map mb] 140) :=
  AnyZ.keys_in Tryd.keys65 Fence.wide 5 trivial rfl mb W

set_option maxHeartbeats 1000000 in
/-- **slices.Sorted[string] AT WHAT maps.Keys[map[string]switchboard/retain.Message,string,switchboard/retain.Message] HANDED BACK FOR A MAP THAT IS NOT nil** ('w': the world AHEAD of maps.Keys' call): A NEW SLICE THAT HOLDS THE MAP's KEYS, SORTED; nil just where it has none; nothing that lay before has turned. -/
theorem Tryd.slices_Sorted_keys_64_65 {H : Type} (b nn : Nat) (D0 : DataW H) (R : Value → Option (DataW H × List MemPlace)) (w : World) (hown : w.ownsMap Tryd.prog 9 R b nn D0) (hmax : Maps.size D0 ≤ maxLen) (hbytes : Maps.size D0 * 16 ≤ 140737488355328) :
    CallsIn Fence.wide 5 Tryd.prog 64 #[.func (.func 84) #[] #[.pointer (some ⟨w.heap.size, 0, none⟩)]] (w.alloc (.cells #[.map (some b)] 140)) fun e w' => ∃ (v : Value) (ss : List (List UInt8)), e = .returned v ∧ ss.Perm (strKeys D0) ∧
      w'.ownsRow (w.alloc (.cells #[.map (some b)] 140)).heap.size 9 1 v ss.length ((ss.mergeSort (fun x y => decide (x ≤ y))).map encStr) ∧ (v = .slice none 0 0 ↔ ss = []) ∧ Below (w.alloc (.cells #[.map (some b)] 140)).heap.size (w.alloc (.cells #[.map (some b)] 140)) w' := by
  have hbl := hown.lt
  have hseq : SeqGives Fence.wide 2 Tryd.prog 84 #[.pointer (some ⟨w.heap.size, 0, none⟩)] encStr (fun ss => ss.Perm (strKeys D0)) (Maps.size D0) (w.alloc (.cells #[.map (some b)] 140)) :=
    AnyZ.keys_gives (ρ := Tryd.keys65_ren) { Tryd.keys65 with } Fence.wide _ trivial rfl (by omega) w.heap.size b nn D0 _ (by simp) (by simp) (by
      obtain ⟨es, clock, hb, Ft, hs, hD⟩ := hown
      exact ⟨es, clock, (Below.heap_alloc _ _ b hbl).trans hb, Ft, hs, hD⟩)
  exact AnyZ.sorted_in Tryd.sorted64 Fence.wide 5 trivial trivial trivial trivial rfl (by omega) (Tryd.sorts64 _) (enters_of Tryd.func83 (by kernel_rfl) rfl) 84 #[.pointer (some ⟨w.heap.size, 0, none⟩)] trivial (enters_of Tryd.func84 (by kernel_rfl) rfl) _ _ hmax hbytes _ hseq

set_option maxHeartbeats 1000000 in
/-- **.. AND FOR THE nil MAP: nil.** -/
theorem Tryd.slices_Sorted_keys_nil_64_65 (w : World) :
    CallsIn Fence.wide 5 Tryd.prog 64 #[.func (.func 84) #[] #[.pointer (some ⟨w.heap.size, 0, none⟩)]] (w.alloc (.cells #[.map none] 140)) fun e w' => ∃ (v : Value) (ss : List (List UInt8)), e = .returned v ∧ ss = [] ∧
      w'.ownsRow (w.alloc (.cells #[.map none] 140)).heap.size 9 1 v ss.length ((ss.mergeSort (fun x y => decide (x ≤ y))).map encStr) ∧ (v = .slice none 0 0 ↔ ss = []) ∧ Below (w.alloc (.cells #[.map none] 140)).heap.size (w.alloc (.cells #[.map none] 140)) w' := by
  have hseq : SeqGives Fence.wide 2 Tryd.prog 84 #[.pointer (some ⟨w.heap.size, 0, none⟩)] encStr (fun ss : List (List UInt8) => ss = []) 0 (w.alloc (.cells #[.map none] 140)) :=
    AnyZ.keys_gives_nil (ρ := Tryd.keys65_ren) { Tryd.keys65 with } Fence.wide _ trivial rfl w.heap.size _ (by simp) (by simp)
  exact AnyZ.sorted_in Tryd.sorted64 Fence.wide 5 trivial trivial trivial trivial rfl (by omega) (Tryd.sorts64 _) (enters_of Tryd.func83 (by kernel_rfl) rfl) 84 #[.pointer (some ⟨w.heap.size, 0, none⟩)] trivial (enters_of Tryd.func84 (by kernel_rfl) rfl) _ 0 (Nat.zero_le _) (by omega) _ hseq

end Go.Proofs
