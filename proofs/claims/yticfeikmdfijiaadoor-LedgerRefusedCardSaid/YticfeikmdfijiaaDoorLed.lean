/- The ledger's side of a connection in memory, and its short functions. -/
import Derived.Test.YticfeikmdfijiaaDoorReg
import Derived.Test.YticfeikmdfijiaaDoorItoa
namespace Go.Proofs.YticfeikmdfijiaaDoor
open Go Go.RowKit

/-- An exchange. -/
structure Exch where
  id : Int
  topic : ByteArray
  payload : ByteArray
  times : Int
  came : Bool
  over : Bool

def Exch.cells (x : Exch) : List Value := [.int .u32 x.id, .string x.topic, .string x.payload, .int .i64 x.times, .bool x.came, .bool x.over]

/-- A side as it lies: its blocks, its rows, what they hold. -/
structure Lay where
  bs : Nat
  bo : Nat
  bk : Nat
  os : List (Int × Nat × Exch)
  took : List (Int × Int)
  dv : Value
  done : List Exch
  news : Int
  ev : Value
  errs : List ByteArray

/-- What it holds, said without memory. -/
structure Side where
  opens : List (Int × Exch)
  took : List (Int × Int)
  done : List Exch
  news : Int
  errs : List ByteArray

def Lay.abs (s : Lay) : Side := ⟨s.os.map fun p => (p.1, p.2.2), s.took, s.done, s.news, s.errs⟩
def Lay.foot (s : Lay) : List Nat := s.bs :: s.bo :: s.bk :: (s.os.map (·.2.1) ++ s.dv.ownBlock.toList ++ s.ev.ownBlock.toList)
def ptrOf (b : Nat) : Value := .pointer (some ⟨b, 0, none⟩)
def Lay.head (s : Lay) : Array Value := #[.map (some s.bo), s.dv, .map (some s.bk), .int .i64 s.news, s.ev]

structure SideAt (B : Nat) (w : World) (s : Lay) : Prop where
  base : B ≤ w.heap.size
  head : w.heap[s.bs]? = some (.cells s.head 108 (0, 0))
  opens : IsMap (Value.int .u32) w s.bo (s.os.map fun p => (p.1, ptrOf p.2.1))
  took : IsMap (Value.int .u32) w s.bk (s.took.map fun p => (p.1, .int .i64 p.2))
  each : ∀ p ∈ s.os, w.heap[p.2.1]? = some (.cells p.2.2.cells.toArray 114 (0, 0))
  apart : (s.os.map (·.2.1)).Nodup
  done : w.ownsRow B 114 6 s.dv s.done.length (s.done.flatMap Exch.cells)
  errs : w.ownsRow B 9 1 s.ev s.errs.length (s.errs.map Value.string)
  ne : s.bo ≠ s.bk
  dne : ∀ p ∈ s.os, s.dv.ownBlock ≠ some p.2.1
  low : ∀ b ∈ s.foot, B ≤ b

/-- What a call may leave of a side. -/
structure Moved (B : Nat) (w : World) (s : Lay) (w' : World) (s' : Lay) : Prop where
  at_ : SideAt B w' s'
  bs : s'.bs = s.bs
  ch : Ch s.foot w w'
  foot : ∀ b ∈ s'.foot, b ∈ s.foot ∨ w.heap.size ≤ b

/-- No two of its blocks are one. -/
structure Far (s : Lay) : Prop where
  o : s.bo ≠ s.bs
  k : s.bk ≠ s.bs
  ok : s.bo ≠ s.bk
  es : s.ev.ownBlock ≠ some s.bs
  eo : s.ev.ownBlock ≠ some s.bo
  ek : s.ev.ownBlock ≠ some s.bk
  ds : s.dv.ownBlock ≠ some s.bs
  do_ : s.dv.ownBlock ≠ some s.bo
  dk : s.dv.ownBlock ≠ some s.bk
  ps : ∀ p ∈ s.os, p.2.1 ≠ s.bs
  po : ∀ p ∈ s.os, p.2.1 ≠ s.bo
  pk : ∀ p ∈ s.os, p.2.1 ≠ s.bk
  pd : ∀ p ∈ s.os, s.dv.ownBlock ≠ some p.2.1
  pe : ∀ p ∈ s.os, s.ev.ownBlock ≠ some p.2.1
  de : ∀ b, s.dv.ownBlock = some b → s.ev.ownBlock ≠ some b

theorem SideAt.far {B : Nat} {w : World} {s : Lay} (h : SideAt B w s) : Far s := by
  have mapc : ∀ {b : Nat} {es : Array MapEntry} {c : Nat} {cs : Array Value} {t : TypeId} {f : Nat × Nat}, w.heap[b]? = some (.map es c) → w.heap[b]? = some (.cells cs t f) → False := fun h1 h2 => by rw [h1] at h2; cases h2
  obtain ⟨_, _, ho, _⟩ := h.opens
  obtain ⟨_, _, hk, _⟩ := h.took
  have ty : ∀ {b : Nat} {cs cs' : Array Value} {t t' : TypeId} {f f' : Nat × Nat}, w.heap[b]? = some (.cells cs t f) → w.heap[b]? = some (.cells cs' t' f') → t = t' := fun h1 h2 => by rw [h1] at h2; cases h2; rfl
  refine ⟨fun e => mapc ho (e ▸ h.head), fun e => mapc hk (e ▸ h.head), h.ne, ?_, ?_, ?_, ?_, ?_, ?_, ?_, ?_, ?_, h.dne, ?_, ?_⟩
  · intro e; obtain ⟨_, hb⟩ := row_block h.errs e; exact absurd (ty hb h.head) (by decide)
  · intro e; obtain ⟨_, hb⟩ := row_block h.errs e; exact mapc ho hb
  · intro e; obtain ⟨_, hb⟩ := row_block h.errs e; exact mapc hk hb
  · intro e; obtain ⟨_, hb⟩ := row_block h.done e; exact absurd (ty hb h.head) (by decide)
  · intro e; obtain ⟨_, hb⟩ := row_block h.done e; exact mapc ho hb
  · intro e; obtain ⟨_, hb⟩ := row_block h.done e; exact mapc hk hb
  · intro p hp e; exact absurd (ty (e ▸ h.each p hp) h.head) (by decide)
  · intro p hp e; exact mapc ho (e ▸ h.each p hp)
  · intro p hp e; exact mapc hk (e ▸ h.each p hp)
  · intro p hp e; obtain ⟨_, hb⟩ := row_block h.errs e; exact absurd (ty hb (h.each p hp)) (by decide)
  · intro b e1 e2
    obtain ⟨_, hb⟩ := row_block h.errs e2
    obtain ⟨_, hb'⟩ := row_block h.done e1
    exact absurd (ty hb hb') (by decide)

theorem Moved.trans {B : Nat} {w w1 w2 : World} {s s1 s2 : Lay} (h : Moved B w s w1 s1) (k : Moved B w1 s1 w2 s2) : Moved B w s w2 s2 := by
  refine ⟨k.at_, k.bs.trans h.bs, h.ch.trans k.ch h.foot, fun b hb => ?_⟩
  rcases k.foot b hb with h1 | h1
  · exact h.foot b h1
  · exact .inr (Nat.le_trans h.ch.size h1)

theorem Moved.refl {B : Nat} {w : World} {s : Lay} (h : SideAt B w s) : Moved B w s w s := ⟨h, rfl, Ch.refl _ _, fun _ hb => .inl hb⟩

/-- What touches none of its blocks. -/
theorem Moved.other {B : Nat} {w w' : World} {s : Lay} (h : SideAt B w s) (hc : Ch [] w w') : Moved B w s w' s :=
  ⟨⟨Nat.le_trans h.base hc.size, hc.keep h.head (by simp), h.opens.keep hc (by simp), h.took.keep hc (by simp), fun p hp => hc.keep (h.each p hp) (by simp), h.apart, row_keep h.done hc (by simp), row_keep h.errs hc (by simp), h.ne, h.dne, h.low⟩, rfl, hc.ofNil, fun _ hb => .inl hb⟩

theorem SideAt.setErrs {B : Nat} {w : World} {s : Lay} (h : SideAt B w s) {w3 : World} {ev' : Value} {errs' : List ByteArray} (hc : Ch s.ev.ownBlock.toList w w3)
    (hr : w3.ownsRow B 9 1 ev' errs'.length (errs'.map Value.string)) (ho : ev'.ownBlock = s.ev.ownBlock ∨ ∃ b, w.heap.size ≤ b ∧ ev'.ownBlock = some b) :
    Moved B w s (w3.setCell ⟨s.bs, 4, none⟩ ev') { s with ev := ev', errs := errs' } := by
  have F := h.far
  have hcS : Ch (s.bs :: s.ev.ownBlock.toList) w (w3.setCell ⟨s.bs, 4, none⟩ ev') := (hc.mono (fun _ hx => List.mem_cons_of_mem _ hx)).setCell _ _ (.inl (by simp))
  have hlt := lt_of_heap h.head
  refine ⟨⟨Nat.le_trans h.base hcS.size, ?_, h.opens.keep hcS (by simp [F.o, F.eo]), h.took.keep hcS (by simp [F.k, F.ek]), fun p hp => hcS.keep (h.each p hp) (by simp [F.ps p hp, F.pe p hp]), h.apart, row_keep h.done hcS ?_, ?_, h.ne, h.dne, ?_⟩, rfl, hcS.mono ?_, ?_⟩
  · exact heap_setCell_at (hc.keep h.head (by simp [F.es])) ev'
  · intro b hb
    simp only [List.mem_cons, Option.mem_toList, not_or]
    exact ⟨fun e => F.ds (e ▸ hb), F.de b hb⟩
  · refine row_keep hr ((Ch.refl [s.bs] w3).setCell _ _ (.inl (by simp))) fun b hb => ?_
    simp only [List.mem_singleton]
    rintro rfl
    rcases ho with h1 | ⟨b', h1, h2⟩
    · exact F.es (h1 ▸ hb)
    · rw [h2] at hb; cases hb; omega
  · intro b hb
    simp only [Lay.foot, List.mem_cons, List.mem_append, Option.mem_toList] at hb
    rcases hb with hb | hb | hb | (hb | hb) | hb
    · exact h.low b (by simp [Lay.foot, hb])
    · exact h.low b (by simp [Lay.foot, hb])
    · exact h.low b (by simp [Lay.foot, hb])
    · exact h.low b (by simp only [Lay.foot, List.mem_cons, List.mem_append]; exact .inr (.inr (.inr (.inl (.inl hb)))))
    · exact h.low b (by simp [Lay.foot, hb])
    · exact (ownBlock_lt hr hb).1
  · intro x hx
    simp only [List.mem_cons, Option.mem_toList] at hx
    rcases hx with rfl | hx <;> simp [Lay.foot, *]
  · intro b hb
    simp only [Lay.foot, List.mem_cons, List.mem_append, Option.mem_toList] at hb ⊢
    rcases hb with hb | hb | hb | (hb | hb) | hb
    · simp [hb]
    · simp [hb]
    · simp [hb]
    · exact .inl (.inr (.inr (.inr (.inl (.inl hb)))))
    · simp [hb]
    · rcases ho with h1 | ⟨b', h1, h2⟩
      · rw [h1] at hb; simp [hb]
      · rw [h2] at hb; cases hb; exact .inr h1

theorem SideAt.setNews {B : Nat} {w : World} {s : Lay} (h : SideAt B w s) (n : Int) : Moved B w s (w.setCell ⟨s.bs, 3, none⟩ (.int .i64 n)) { s with news := n } := by
  have F := h.far
  have hcS : Ch [s.bs] w (w.setCell ⟨s.bs, 3, none⟩ (.int .i64 n)) := (Ch.refl _ w).setCell _ _ (.inl (by simp))
  refine ⟨⟨Nat.le_trans h.base hcS.size, heap_setCell_at h.head _, h.opens.keep hcS (by simp [F.o]), h.took.keep hcS (by simp [F.k]), fun p hp => hcS.keep (h.each p hp) (by simp [F.ps p hp]), h.apart, row_keep h.done hcS ?_, row_keep h.errs hcS ?_, h.ne, h.dne, h.low⟩, rfl, hcS.mono (by simp [Lay.foot]), fun b hb => .inl hb⟩
  · intro b hb
    simp only [List.mem_singleton]
    rintro rfl
    exact F.ds hb
  · intro b hb
    simp only [List.mem_singleton]
    rintro rfl
    exact F.es hb

theorem SideAt.setTook {B : Nat} {w w' : World} {s : Lay} (h : SideAt B w s) {m : List (Int × Int)} (hm : IsMap (Value.int .u32) w' s.bk (m.map fun p => (p.1, .int .i64 p.2))) (hcS : Ch [s.bk] w w') : Moved B w s w' { s with took := m } := by
  have F := h.far
  refine ⟨⟨Nat.le_trans h.base hcS.size, hcS.keep h.head (by simp [F.k.symm]), h.opens.keep hcS (by simp [F.ok]), hm, fun p hp => hcS.keep (h.each p hp) (by simp [F.pk p hp]), h.apart, row_keep h.done hcS ?_, row_keep h.errs hcS ?_, h.ne, h.dne, h.low⟩, rfl, hcS.mono (by simp [Lay.foot]), fun b hb => .inl hb⟩
  · intro b hb
    simp only [List.mem_singleton]
    rintro rfl
    exact F.dk hb
  · intro b hb
    simp only [List.mem_singleton]
    rintro rfl
    exact F.ek hb

/-- Fewer exchanges. -/
theorem SideAt.subOpens {B : Nat} {w w' : World} {s : Lay} (h : SideAt B w s) {os' : List (Int × Nat × Exch)} (hs : os'.Sublist s.os) (hm : IsMap (Value.int .u32) w' s.bo (os'.map fun p => (p.1, ptrOf p.2.1))) (hcS : Ch [s.bo] w w') :
    Moved B w s w' { s with os := os' } := by
  have F := h.far
  have hf : ∀ b, b ∈ Lay.foot { s with os := os' } → b ∈ s.foot := by
    intro b hb
    simp only [Lay.foot, List.mem_cons, List.mem_append] at hb ⊢
    rcases hb with hb | hb | hb | (hb | hb) | hb
    · exact .inl hb
    · exact .inr (.inl hb)
    · exact .inr (.inr (.inl hb))
    · exact .inr (.inr (.inr (.inl (.inl ((hs.map _).subset hb)))))
    · exact .inr (.inr (.inr (.inl (.inr hb))))
    · exact .inr (.inr (.inr (.inr hb)))
  refine ⟨⟨Nat.le_trans h.base hcS.size, hcS.keep h.head (by simp [F.o.symm]), hm, h.took.keep hcS (by simp [F.ok.symm]), fun p hp => hcS.keep (h.each p (hs.subset hp)) (by simp [F.po p (hs.subset hp)]), (hs.map _).nodup h.apart, row_keep h.done hcS ?_, row_keep h.errs hcS ?_, h.ne, fun p hp => h.dne p (hs.subset hp), fun b hb => h.low b (hf b hb)⟩, rfl, hcS.mono (by simp [Lay.foot]), fun b hb => .inl (hf b hb)⟩
  · intro b hb
    simp only [List.mem_singleton]
    rintro rfl
    exact F.do_ hb
  · intro b hb
    simp only [List.mem_singleton]
    rintro rfl
    exact F.eo hb

theorem SideAt.keys {B : Nat} {w : World} {s : Lay} (h : SideAt B w s) : (s.os.map (·.1)).Nodup := by
  have := h.opens.nodup
  simpa [List.map_map, Function.comp_def] using this

/-- One exchange more. -/
theorem SideAt.newOpen {B : Nat} {w w' : World} {s : Lay} (h : SideAt B w s) {id : Int} {x : Exch} (hn : alook s.os id = none)
    (hm : IsMap (Value.int .u32) w' s.bo ((aset s.os id (w.heap.size, x)).map fun p => (p.1, ptrOf p.2.1))) (hc : Ch [s.bo] (w.alloc (.cells x.cells.toArray 114)) w') :
    Moved B w s w' { s with os := aset s.os id (w.heap.size, x) } := by
  have F := h.far
  have hcS : Ch [s.bo] w w' := ((Ch.refl [s.bo] w).alloc _).then hc
  have hlo : ∀ p ∈ s.os, p.2.1 < w.heap.size := fun p hp => lt_of_heap (h.each p hp)
  have hf : ∀ b, b ∈ Lay.foot { s with os := aset s.os id (w.heap.size, x) } → b ∈ s.foot ∨ b = w.heap.size := by
    intro b hb
    rw [aset_new hn] at hb
    simp only [Lay.foot, List.mem_cons, List.mem_append, List.map_append, List.map_cons, List.map_nil, List.not_mem_nil, or_false] at hb ⊢
    rcases hb with hb | hb | hb | ((hb | hb) | hb) | hb
    · exact .inl (.inl hb)
    · exact .inl (.inr (.inl hb))
    · exact .inl (.inr (.inr (.inl hb)))
    · exact .inl (.inr (.inr (.inr (.inl (.inl hb)))))
    · exact .inr hb
    · exact .inl (.inr (.inr (.inr (.inl (.inr hb)))))
    · exact .inl (.inr (.inr (.inr (.inr hb))))
  have hin : ∀ p, p ∈ aset s.os id (w.heap.size, x) → p ∈ s.os ∨ p = (id, w.heap.size, x) := by
    intro p hp
    rw [aset_new hn] at hp
    simpa using hp
  refine ⟨⟨Nat.le_trans h.base hcS.size, hcS.keep h.head (by simp [F.o.symm]), hm, h.took.keep hcS (by simp [F.ok.symm]), ?_, ?_, row_keep h.done hcS ?_, row_keep h.errs hcS ?_, h.ne, ?_, ?_⟩, rfl, hcS.mono (by simp [Lay.foot]), ?_⟩
  · intro p hp
    rcases hin p hp with h1 | rfl
    · exact hcS.keep (h.each p h1) (by simp [F.po p h1])
    · refine hc.keep (heap_new w _) ?_
      have := h.opens.lt
      simp only [List.mem_singleton]
      omega
  · show ((aset s.os id (w.heap.size, x)).map (·.2.1)).Nodup
    rw [aset_new hn]
    simp only [List.map_append, List.map_cons, List.map_nil]
    refine List.nodup_append.2 ⟨h.apart, by simp, ?_⟩
    intro a ha b hb e
    simp only [List.mem_singleton] at hb
    obtain ⟨p, hp, rfl⟩ := List.mem_map.1 ha
    have := hlo p hp
    omega
  · intro b hb
    simp only [List.mem_singleton]
    rintro rfl
    exact F.do_ hb
  · intro b hb
    simp only [List.mem_singleton]
    rintro rfl
    exact F.eo hb
  · intro p hp
    rcases hin p hp with h1 | rfl
    · exact h.dne p h1
    · intro e
      have := (ownBlock_lt h.done e).2
      simp at this
  · intro b hb
    rcases hf b hb with h1 | rfl
    · exact h.low b h1
    · exact h.base
  · intro b hb
    rcases hf b hb with h1 | rfl
    · exact .inl h1
    · exact .inr (Nat.le_refl _)

/-- An exchange's cell. -/
theorem SideAt.setExch {B : Nat} {w : World} {s : Lay} (h : SideAt B w s) {id : Int} {b : Nat} {x x' : Exch} (hx : alook s.os id = some (b, x)) {i : Nat} {v : Value} (hv : x'.cells.toArray = x.cells.toArray.setIfInBounds i v) :
    Moved B w s (w.setCell ⟨b, i, none⟩ v) { s with os := aset s.os id (b, x') } := by
  have F := h.far
  have hmem := alook_mem hx
  have hcS : Ch [b] w (w.setCell ⟨b, i, none⟩ v) := (Ch.refl _ w).setCell _ _ (.inl (by simp))
  have hbl : (aset s.os id (b, x')).map (fun p => (p.1, p.2.1)) = s.os.map (fun p => (p.1, p.2.1)) := by
    rw [aset_map (fun q : Nat × Exch => q.1)]
    exact aset_same (by rw [alook_map (fun q : Nat × Exch => q.1), hx]; rfl)
  have hptr : (aset s.os id (b, x')).map (fun p => (p.1, ptrOf p.2.1)) = s.os.map (fun p => (p.1, ptrOf p.2.1)) := by
    have := congrArg (List.map fun q : Int × Nat => (q.1, ptrOf q.2)) hbl
    simpa [List.map_map, Function.comp_def] using this
  have hb2 : (aset s.os id (b, x')).map (·.2.1) = s.os.map (·.2.1) := by
    have := congrArg (List.map fun q : Int × Nat => q.2) hbl
    simpa [List.map_map, Function.comp_def] using this
  have hf : Lay.foot { s with os := aset s.os id (b, x') } = s.foot := by simp only [Lay.foot, hb2]
  have hb3 : ∀ p ∈ aset s.os id (b, x'), ∃ q ∈ s.os, q.2.1 = p.2.1 := by
    intro p hp
    have : p.2.1 ∈ s.os.map (·.2.1) := hb2 ▸ List.mem_map.2 ⟨p, hp, rfl⟩
    obtain ⟨q, hq, e⟩ := List.mem_map.1 this
    exact ⟨q, hq, e⟩
  refine ⟨⟨Nat.le_trans h.base hcS.size, hcS.keep h.head (by simp [(F.ps _ hmem).symm]), ?_, h.took.keep hcS (by simp [(F.pk _ hmem).symm]), ?_, by show ((aset s.os id (b, x')).map (·.2.1)).Nodup; rw [hb2]; exact h.apart, row_keep h.done hcS ?_, row_keep h.errs hcS ?_, h.ne, ?_, by rw [hf]; exact h.low⟩, rfl, hcS.mono ?_, fun b hb => .inl (by rw [← hf]; exact hb)⟩
  · show IsMap _ _ _ ((aset s.os id (b, x')).map (fun p => (p.1, ptrOf p.2.1)))
    rw [hptr]
    exact h.opens.keep hcS (by simp [(F.po _ hmem).symm])
  · intro p hp
    rcases mem_aset hp with rfl | ⟨h1, h2⟩
    · show (w.setCell ⟨b, i, none⟩ v).heap[b]? = some (.cells x'.cells.toArray _ _)
      rw [hv]
      exact heap_setCell_at (h.each _ hmem) v
    · refine hcS.keep (h.each p h1) ?_
      simp only [List.mem_singleton]
      intro e
      have hp2 : p = (id, b, x) := (map_nodup_inj h.apart h1 hmem e)
      subst hp2
      rcases h2 with h2 | h2
      · exact h2 rfl
      · exact h2 h.keys
  · intro b' hb'
    simp only [List.mem_singleton]
    rintro rfl
    exact F.pd _ hmem hb'
  · intro b' hb'
    simp only [List.mem_singleton]
    rintro rfl
    exact F.pe _ hmem hb'
  · intro p hp
    obtain ⟨q, hq, e⟩ := hb3 p hp
    rw [← e]
    exact h.dne q hq
  · intro y hy
    simp only [List.mem_singleton] at hy
    subst hy
    simp only [Lay.foot, List.mem_cons, List.mem_append, List.mem_map]
    exact .inr (.inr (.inr (.inl (.inl ⟨_, hmem, rfl⟩))))

theorem SideAt.setDone {B : Nat} {w : World} {s : Lay} (h : SideAt B w s) {w3 : World} {dv' : Value} {done' : List Exch} (hc : Ch s.dv.ownBlock.toList w w3)
    (hr : w3.ownsRow B 114 6 dv' done'.length (done'.flatMap Exch.cells)) (ho : dv'.ownBlock = s.dv.ownBlock ∨ ∃ b, w.heap.size ≤ b ∧ dv'.ownBlock = some b) :
    Moved B w s (w3.setCell ⟨s.bs, 1, none⟩ dv') { s with dv := dv', done := done' } := by
  have F := h.far
  have hcS : Ch (s.bs :: s.dv.ownBlock.toList) w (w3.setCell ⟨s.bs, 1, none⟩ dv') := (hc.mono (fun _ hx => List.mem_cons_of_mem _ hx)).setCell _ _ (.inl (by simp))
  have hlt := lt_of_heap h.head
  refine ⟨⟨Nat.le_trans h.base hcS.size, ?_, h.opens.keep hcS (by simp [F.o, F.do_]), h.took.keep hcS (by simp [F.k, F.dk]), fun p hp => hcS.keep (h.each p hp) (by simp [F.ps p hp, F.pd p hp]), h.apart, ?_, row_keep h.errs hcS ?_, h.ne, ?_, ?_⟩, rfl, hcS.mono ?_, ?_⟩
  · exact heap_setCell_at (hc.keep h.head (by simp [F.ds])) dv'
  · refine row_keep hr ((Ch.refl [s.bs] w3).setCell _ _ (.inl (by simp))) fun b hb => ?_
    simp only [List.mem_singleton]
    rintro rfl
    rcases ho with h1 | ⟨b', h1, h2⟩
    · exact F.ds (h1 ▸ hb)
    · rw [h2] at hb; cases hb; omega
  · intro b hb
    simp only [List.mem_cons, Option.mem_toList, not_or]
    exact ⟨fun e => F.es (e ▸ hb), fun e => F.de b e hb⟩
  · intro p hp e
    rcases ho with h1 | ⟨b', h1, h2⟩
    · exact F.pd p hp (h1 ▸ e)
    · have := lt_of_heap (h.each p hp)
      rw [h2] at e; cases e; omega
  · intro b hb
    simp only [Lay.foot, List.mem_cons, List.mem_append, Option.mem_toList] at hb
    rcases hb with hb | hb | hb | (hb | hb) | hb
    · exact h.low b (by simp [Lay.foot, hb])
    · exact h.low b (by simp [Lay.foot, hb])
    · exact h.low b (by simp [Lay.foot, hb])
    · exact h.low b (by simp only [Lay.foot, List.mem_cons, List.mem_append]; exact .inr (.inr (.inr (.inl (.inl hb)))))
    · exact (ownBlock_lt hr hb).1
    · exact h.low b (by simp [Lay.foot, hb])
  · intro x hx
    simp only [List.mem_cons, Option.mem_toList] at hx
    rcases hx with rfl | hx <;> simp [Lay.foot, *]
  · intro b hb
    simp only [Lay.foot, List.mem_cons, List.mem_append, Option.mem_toList] at hb ⊢
    rcases hb with hb | hb | hb | (hb | hb) | hb
    · simp [hb]
    · simp [hb]
    · simp [hb]
    · exact .inl (.inr (.inr (.inr (.inl (.inl hb)))))
    · rcases ho with h1 | ⟨b', h1, h2⟩
      · rw [h1] at hb; simp [hb]
      · rw [h2] at hb; cases hb; exact .inr h1
    · simp [hb]

theorem elErr : ElemTy Tryd.prog 39 9 (.string ⟨#[]⟩) 1 16 := ⟨Tryd.underlying39, by kernel_rfl, rfl, by decide⟩
theorem elExch : ElemTy Tryd.prog 37 114 (.agg #[.int .u32 0, .string ⟨#[]⟩, .string ⟨#[]⟩, .int .i64 0, .bool false, .bool false]) 6 56 := ⟨Tryd.underlying37, by kernel_rfl, rfl, by decide⟩
theorem kU32 : KeyTy Tryd.prog 22 (Value.int .u32) := keyTy_int Tryd.underlying22

def wrongE (s : Side) (what : ByteArray) (id : Int) : Side := { s with errs := s.errs ++ [what ++ ⟨#[32]⟩ ++ itoaB id] }

set_option maxHeartbeats 1000000 in
theorem wrong_call (B : Nat) (w : World) (s : Lay) (what : ByteArray) (id : Int) (h : SideAt B w s) (ht : Tab w) (h0 : 0 ≤ id) (h1 : id ≤ 4294967295) (hw : what.size ≤ 1000) (hn : s.errs.length < 1000000) :
    Gives Tryd.prog 48 #[ptrOf s.bs, .string what, .int .u32 id] w fun v w' => v = .tuple #[] ∧ ∃ s', Moved B w s w' s' ∧ s'.abs = wrongE s.abs what id := by
  unfold ptrOf
  have cE : w.cell? ⟨s.bs, 4, none⟩ = some s.ev := cell_of_heap h.head 4
  go_enter Tryd.func48, Tryd.ntmps48
  refine wp_region_flow (fun v => v.cell? ⟨s.bs, 4, none⟩ = some s.ev) 13 [(true, 0), (true, 1), (true, 2), (true, 3), (true, 4), (true, 5), (true, 6), (true, 7), (true, 8), (false, 9), (true, 10), (false, 11), (false, 12)] (by kernel_rfl) (by kernel_rfl) cE ?_
  intro hS hne
  have fE : ∀ x : Wd (fun v => v.cell? ⟨s.bs, 4, none⟩ = some s.ev), x.v.cell? ⟨s.bs, 4, none⟩ = some s.ev := fun x => x.p
  repeat (refine flow_q (by rfl) ?_; go_big_quiet_step (fail); refine flow_n ?_)
  refine flow_l (by rfl) ?_
  refine wl_call rfl rfl (by kernel_rfl) rfl (itoa_call id h0 h1 w.drew ht.drew) ?_
  rintro v w1 ⟨rfl, hc1⟩
  replace hc1 : Ch [] w w1 := hc1.fromDrew
  refine wpList_nil ⟨hc1.cell cE (by simp), ?_⟩
  simp only [Act.put, List.setIfInBounds_toArray, List.set_cons_succ, List.set_cons_zero]
  have hz := itoaB_size id h0 h1
  have hz1 : ¬ (9223372036854775807 < what.size + 1 + (itoaB id).size) := by omega
  repeat (refine flow_q (by rfl) ?_; go_big_quiet_step (fail); refine flow_n ?_)
  refine flow_l (by rfl) ?_
  go_wp2
  have hc2 : Ch [] w (w1.alloc (Obj.cells #[Value.string (what ++ ⟨#[32]⟩ ++ itoaB id)] 9)) := hc1.alloc _
  refine ⟨hc2.cell cE (by simp), ?_⟩
  refine flow_l (by rfl) ?_
  have hr2 := row_keep h.errs hc2 (by simp)
  have hx := sl_new w1 [Value.string (what ++ ⟨#[32]⟩ ++ itoaB id)] 9 1 1 rfl (le_maxLen (by omega))
  refine wl_app rfl (.tmp 10) (.tmp 17) elErr rfl hr2 rfl hx rfl (by simp [Value.oneCell']) (le_maxLen (by omega)) (by omega) (Nat.le_trans h.base hc2.size) ?_
  intro ev' w3 hr3 hg3 _ hor
  obtain ⟨eo, ec, rfl⟩ := row_shape hr3
  have hc3 : Ch s.ev.ownBlock.toList w w3 := hc2.ofNil.grown hg3 (fun k hk => .inl (by simp [hk]))
  have hsE : s.ev.ownBlock ≠ some s.bs := fun e => by
    obtain ⟨cur, hcur⟩ := row_block h.errs e
    rw [h.head] at hcur
    cases hcur
  refine wpList_nil ⟨hc3.cell cE (by simpa using hsE), ?_⟩
  simp only [Act.put, List.setIfInBounds_toArray, List.set_cons_succ, List.set_cons_zero]
  refine flow_t ?_
  simp only [List.drop_succ_cons, List.drop_zero]
  have hh3 := hc3.keep h.head (by simpa using hsE)
  have c3 : w3.cell? ⟨s.bs, 4, none⟩ = some s.ev := cell_of_heap hh3 4
  have f3 := free_of_heap hh3 4
  go_wp2
  refine shut0_normal ?_
  go_end0
  refine ⟨_, rfl, rfl, _, h.setErrs (errs' := s.errs ++ [what ++ ⟨#[32]⟩ ++ itoaB id]) hc3 (by simpa using hr3) ?_, rfl⟩
  rcases hor with h1 | h1
  · exact .inl h1
  · exact .inr ⟨_, hc2.size, h1⟩

end Go.Proofs.YticfeikmdfijiaaDoor
