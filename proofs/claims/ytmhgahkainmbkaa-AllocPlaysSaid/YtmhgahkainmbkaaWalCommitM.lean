/- What Commit does, as plain data; what its loops keep. -/
import Derived.Test.YtmhgahkainmbkaaWalHome
import Derived.Test.YtmhgahkainmbkaaWalOpen
import Derived.Test.YtmhgahkainmbkaaWalCopy
import Derived.Test.YtmhgahkainmbkaaWalChunk
import Derived.RangeFuncWrites
namespace Go.Proofs.Ytmhgahkainmbkaa
open Go.RowKit
set_option linter.unusedVariables false
set_option linter.unusedSimpArgs false

def rowOf (l : SecMap) : List (List UInt8) := listB (l.map (·.1)) :: l.map (·.2)
def chunkAt (m : SecMap) (k : Nat) : SecMap := (m.drop (60 * k)).take 60
def rowsTo (m : SecMap) (j : Nat) : List (List UInt8) := (List.range j).flatMap fun k => rowOf (chunkAt m k)
/-- What Commit writes. -/
def rowsAll (m : SecMap) : List (List UInt8) := rowsTo m (pieces m.length)
theorem rowsTo_succ (m : SecMap) (j : Nat) : rowsTo m (j + 1) = rowsTo m j ++ rowOf (chunkAt m j) := by simp [rowsTo, List.range_succ, List.flatMap_append]
theorem chunkAt_length (m : SecMap) (k : Nat) : (chunkAt m k).length = min 60 (m.length - 60 * k) := by simp [chunkAt]
theorem rowsTo_length (m : SecMap) : ∀ j, j ≤ pieces m.length → (rowsTo m j).length = j + min (60 * j) m.length
  | 0, _ => by simp [rowsTo]
  | j + 1, h => by
    rw [rowsTo_succ, List.length_append, rowsTo_length m j (by omega)]
    simp only [rowOf, List.length_cons, List.length_map, chunkAt_length]
    unfold pieces at h
    omega
theorem rowsAll_length (m : SecMap) : (rowsAll m).length = costN m.length := by
  unfold rowsAll
  rw [rowsTo_length m _ (Nat.le_refl _)]
  unfold costN pieces
  omega
theorem chunkAt_mem {m : SecMap} {k : Nat} {x : Nat × List UInt8} (h : x ∈ chunkAt m k) : x ∈ m := List.mem_of_mem_drop (List.mem_of_mem_take h)
theorem rowOf_sectors {l : SecMap} (h : ∀ x ∈ l, x.2.length = 128) (h60 : l.length ≤ 60) : Sectors (rowOf l) := by
  intro s hs
  rcases List.mem_cons.1 hs with rfl | hs
  · exact listB_length (by simpa using h60)
  · obtain ⟨x, hx, rfl⟩ := List.mem_map.1 hs
    exact h x hx
theorem rowsTo_sectors {m : SecMap} (h : ∀ x ∈ m, x.2.length = 128) (j : Nat) : Sectors (rowsTo m j) := by
  intro s hs
  obtain ⟨k, _, hk⟩ := List.mem_flatMap.1 hs
  exact rowOf_sectors (fun x hx => h x (chunkAt_mem hx)) (by rw [chunkAt_length]; omega) s hk

/-- Writes sectors one behind the other, up to the first that fails. -/
def putsR (N : Nat) : Nat → List (List UInt8) → DiskM → Int × DiskM
  | _, [], D => (0, D)
  | i, x :: l, D => if D.writeE N (i : Int) x ≠ 0 then (D.writeE N (i : Int) x, D.write N (i : Int) x) else putsR N (i + 1) l (D.write N (i : Int) x)
def commitEnd (r : Int × LogM × DiskM) : Int × LogM × DiskM := if r.1 ≠ 0 then r else (0, { r.2.1 with over := mcopy r.2.1.over r.2.1.staged, staged := [] }, r.2.2)
/-- Commit where there is room. -/
def commitM (N : Nat) (L : LogM) (D : DiskM) : Int × LogM × DiskM :=
  if (putsR N (L.base + 1 + L.used) (rowsAll L.staged) D).1 ≠ 0 then ((putsR N (L.base + 1 + L.used) (rowsAll L.staged) D).1, L.ends (putsR N (L.base + 1 + L.used) (rowsAll L.staged) D).1, (putsR N (L.base + 1 + L.used) (rowsAll L.staged) D).2)
  else commitEnd (markR N L (putsR N (L.base + 1 + L.used) (rowsAll L.staged) D).2 L.epoch (L.used + (rowsAll L.staged).length) (updAll (UInt64.ofNat L.sum) (rowsAll L.staged).flatten).toNat)
/-- Commit: what it answers, and what log and disk are behind it. -/
def commitR (N : Nat) (L : LogM) (D : DiskM) : Int × LogM × DiskM :=
  if L.dead = true then (40, L, D) else if L.staged.length = 0 then (0, L, D)
  else if L.n - 1 < L.used + costN L.staged.length then
    if (homeR N L D).1 ≠ 0 then homeR N L D else commitM N (homeR N L D).2.1 (homeR N L D).2.2
  else commitM N L D

theorem markR_ok {N : Nat} {L : LogM} {D : DiskM} {e u t : Nat} (h : (markR N L D e u t).1 = 0) : (markR N L D e u t).2.1 = { L with epoch := e, used := u, sum := t } := by
  unfold markR at h ⊢
  split
  · rename_i h1; rw [if_pos h1] at h; exact absurd h h1
  · rename_i h1
    rw [if_neg h1] at h
    split
    · rename_i h2; rw [if_pos h2] at h; exact absurd h h2
    · rename_i h2
      rw [if_neg h2] at h
      split
      · rename_i h3; rw [if_pos h3] at h; exact absurd h h3
      · rfl
theorem markR_loose {N : Nat} {L : LogM} {D : DiskM} {e u t : Nat} (h : (markR N L D e u t).1 = 0) : (markR N L D e u t).2.2.loose = [] := by
  unfold markR at h ⊢
  split
  · rename_i h1; rw [if_pos h1] at h; exact absurd h h1
  · rename_i h1
    rw [if_neg h1] at h
    split
    · rename_i h2; rw [if_pos h2] at h; exact absurd h h2
    · rename_i h2
      rw [if_neg h2] at h
      split
      · rename_i h3; rw [if_pos h3] at h; exact absurd h h3
      · rename_i h3
        exact flush_loose (by simpa using h3)
/-- Where Home says OK. -/
theorem homeR_ok {N : Nat} {L : LogM} {D : DiskM} (hd : L.dead = false) (h : (homeR N L D).1 = 0) :
    (homeR N L D).2.1.dead = false ∧ (homeR N L D).2.1.staged = L.staged ∧ (homeR N L D).2.1.n = L.n ∧ (homeR N L D).2.1.base = L.base ∧ (homeR N L D).2.1.used = 0 ∧ (homeR N L D).2.2.loose.length ≤ D.loose.length := by
  unfold homeR at h ⊢
  rw [if_neg (by simp [hd])] at h ⊢
  by_cases hu : L.used = 0
  · rw [if_pos hu]
    exact ⟨hd, rfl, rfl, rfl, hu, Nat.le_refl _⟩
  · rw [if_neg hu] at h ⊢
    by_cases hw : (writesR N L.over D).1 = 0
    · rw [if_neg (by simp [hw])] at h ⊢
      generalize writesR N L.over D = K at *
      have hm : (markR N L K.2 ((L.epoch + 1) % 18446744073709551616) 0 begin64.toNat).1 = 0 := by
        unfold clearR at h
        by_cases hz : (markR N L K.2 ((L.epoch + 1) % 18446744073709551616) 0 begin64.toNat).1 = 0
        · exact hz
        · rw [if_pos hz] at h; exact h
      have hk := markR_ok hm
      have hl := markR_loose hm
      unfold clearR
      rw [if_neg (by simp [hm])]
      simp only [hk, hl]
      exact ⟨hd, trivial, trivial, trivial, trivial, by simp⟩
    · rw [if_pos hw] at h
      exact absurd h hw

/-- Block g and what lies from n on. -/
def PB (n g : Nat) : Nat → Prop := fun k => k = g ∨ n ≤ k
/-- What the range over the pieces keeps: all but the row's own block. -/
def KB (n g : Nat) (A B : World) : Prop := Step A B (PB n g) (PB n g)
theorem KB.refl (n g : Nat) (A : World) : KB n g A A := Step.refl _ _
theorem KB.trans {n g : Nat} {A B C : World} (h : KB n g A B) (k : KB n g B C) : KB n g A C := Step.trans h k
theorem KB.cell {n g : Nat} {A B : World} (h : KB n g A B) {b o : Nat} (hb : b < n) (hA : b < A.heap.size) (hg : b ≠ g) : B.cell? ⟨b, o, none⟩ = A.cell? ⟨b, o, none⟩ := by
  have := h.block b hA (fun hp => by rcases hp with h1 | h1 <;> omega)
  unfold World.cell?
  simp only [this]
/-- The state of the range: the row so far. -/
structure CSt (wR W : World) (g : Nat) (rows : List (List UInt8)) : Prop where
  kb : KB wR.heap.size g wR W
  row : ∃ v, Blk W g 86 #[v] ∧ Row W (fun k => wR.heap.size ≤ k) 80 128 v rows.length (flat rows)
theorem CSt.own {wR : World} {g : Nat} (hg : g < wR.heap.size) (f : List Nat → List (List UInt8)) : OwnFrom wR.heap.size (fun (pre : List Nat) W => CSt wR W g (f pre)) := by
  intro s W W' row hs hgr hr
  obtain ⟨v, hB, hR⟩ := hs.row
  have hne : ∀ r, row = some r → r ≠ g := fun r e => by have := (hr r e).1; omega
  refine ⟨hs.kb.grown hgr (fun k e => .inl (.inr (hr k e).1)), v, ?_, ?_⟩
  · exact (hgr.block g hB.lt (fun e => hne g e.symm rfl)).trans hB
  · refine hR.kept (fun x hx => hgr.block x (hR.lt x hx) (fun e => ?_)) hR.foot
    obtain ⟨o, ho, hoc⟩ := (hr x e.symm).2
    rcases hR.own.2 with ⟨h1, _⟩ | ⟨g2, cap, cur, h1, _, h2, _⟩
    · rw [h1] at hx; cases hx
    · rw [h1] at hx; injection hx with hx
      simp only at hx
      rw [← hx, h2] at ho
      injection ho with ho
      rw [← ho] at hoc; cases hoc
theorem Slc.part {w : World} {B b off n c : Nat} {l : List Nat} (h : Slc w B 1 (some ⟨b, off, none⟩) n c (l.map nv)) {lo q : Nat} (hq : q = 0 ∨ lo + q ≤ n) : Slc w B 1 (some ⟨b, off + lo, none⟩) q q (((l.drop lo).take q).map nv) := by
  have hl : l.length = n := by have := h.len; simpa using this
  refine ⟨by simp; omega, Nat.le_refl _, by have := h.cmax; have := h.le; omega, fun h0 => ?_⟩
  obtain ⟨b', off', e, hb, hc⟩ := h.at_ (by omega)
  injection e with e
  injection e with e1 e2
  subst e1 e2
  refine ⟨b, off + lo, rfl, hb, fun j u hu => ?_⟩
  rw [Nat.add_assoc]
  refine hc (lo + j) u ?_
  rw [List.getElem?_map] at hu ⊢
  rw [← hu]
  have hj : j < q := by
    rcases Nat.lt_or_ge j q with h1 | h1
    · exact h1
    · rw [List.getElem?_eq_none (by simp; omega)] at hu; simp at hu
  rw [List.getElem?_take_of_lt hj, List.getElem?_drop]
theorem keys_part (m : SecMap) (k : Nat) : ((m.map fun x => x.1).drop (60 * k)).take (min 60 (m.length - 60 * k)) = (chunkAt m k).map (·.1) := by
  unfold chunkAt
  rw [← List.map_drop, ← List.map_take]
  congr 1
  rcases Nat.le_total 60 (m.length - 60 * k) with h | h
  · rw [Nat.min_eq_left h]
  · rw [Nat.min_eq_right h, List.take_of_length_le (by simp), List.take_of_length_le (by simp; omega)]

/-- The rows of the pieces in pre. -/
def rowsL (m : SecMap) (pre : List Nat) : List (List UInt8) := pre.flatMap fun k => rowOf (chunkAt m k)
theorem rowsL_snoc (m : SecMap) (pre : List Nat) (x : Nat) : rowsL m (pre ++ [x]) = rowsL m pre ++ rowOf (chunkAt m x) := by simp [rowsL]
theorem rowsL_length (m : SecMap) : ∀ pre, (rowsL m pre).length ≤ 61 * pre.length
  | [] => by simp [rowsL]
  | x :: pre => by
    have := rowsL_length m pre
    have h1 : (rowsL m (x :: pre)) = rowOf (chunkAt m x) ++ rowsL m pre := by simp [rowsL]
    rw [h1, List.length_append, List.length_cons]
    simp only [rowOf, List.length_cons, List.length_map, chunkAt_length]
    omega
/-- What the iterator wants kept. -/
def KpB (Bs Bk : Nat) (A B : World) : Prop := B.cell? ⟨Bs, 0, none⟩ = A.cell? ⟨Bs, 0, none⟩ ∧ B.cell? ⟨Bk, 0, none⟩ = A.cell? ⟨Bk, 0, none⟩
theorem KpB.trans {Bs Bk : Nat} {A B C : World} (h : KpB Bs Bk A B) (k : KpB Bs Bk B C) : KpB Bs Bk A C := ⟨k.1.trans h.1, k.2.trans h.2⟩
theorem KpB.put {Bs Bk : Nat} (W : World) (l : Nat) (o' : Obj) (h1 : Bs < l) (h2 : Bk < l) : KpB Bs Bk W (W.putObj l o') := by
  have e1 : (W.putObj l o').heap[Bs]? = W.heap[Bs]? := World.putObj_heap_other (by omega)
  have e2 : (W.putObj l o').heap[Bk]? = W.heap[Bk]? := World.putObj_heap_other (by omega)
  constructor
  · unfold World.cell?; simp only [e1]
  · unfold World.cell?; simp only [e2]
/-- The state within a round. -/
structure BSt (wR W0 W : World) (g : Nat) (rows : List (List UInt8)) : Prop where
  st : CSt wR W g rows
  keep : KeepsFrom wR.heap.size W0 W
theorem CSt.cell {wR W : World} {g : Nat} {rows : List (List UInt8)} (h : CSt wR W g rows) : ∃ A c, W.cell? ⟨g, 0, none⟩ = some (.slice A rows.length c) ∧ W.frozen? ⟨g, 0, none⟩ = false := by
  obtain ⟨v, hB, hR⟩ := h.row
  obtain ⟨A, c, rfl, _⟩ := hR.slc
  exact ⟨A, c, hB.cell 0, hB.frozen 0⟩
theorem CSt.begin {wR W : World} {g : Nat} {rows : List (List UInt8)} (h : CSt wR W g rows) : BSt wR W W g rows := ⟨h, KeepsFrom.refl _ _⟩
theorem CSt.free {wR W W' : World} {g : Nat} {rows : List (List UInt8)} (h : CSt wR W g rows) (hb : Below W.heap.size W W') : CSt wR W' g rows := by
  obtain ⟨v, hB, hR⟩ := h.row
  exact ⟨h.kb.trans (Step.of_below hb _), v, hB.below hb hB.lt, hR.kept (fun x hx => hb.block x (hR.lt x hx)) hR.foot⟩
theorem BSt.free {wR W0 W W' : World} {g : Nat} {rows : List (List UInt8)} (h : BSt wR W0 W g rows) (hb : Below W.heap.size W W') : BSt wR W0 W' g rows :=
  ⟨h.st.free hb, h.keep.trans ⟨hb.size, fun k o _ hk _ => (hb.block k (Array.getElem?_eq_some_iff.1 hk).1).trans hk⟩⟩
theorem BSt.kp {wR W0 W : World} {g : Nat} {rows r0 : List (List UInt8)} (h : BSt wR W0 W g rows) (h0 : CSt wR W0 g r0) {Bs Bk : Nat} (h1 : Bs < wR.heap.size) (h2 : Bk < wR.heap.size) (h3 : Bs ≠ g) (h4 : Bk ≠ g) : KpB Bs Bk W0 W :=
  ⟨(h.st.kb.cell h1 h1 h3).trans (h0.kb.cell h1 h1 h3).symm, (h.st.kb.cell h2 h2 h4).trans (h0.kb.cell h2 h2 h4).symm⟩
set_option maxRecDepth 100000 in
/-- One sector more. -/
theorem BSt.push {wR W0 W : World} {g : Nat} {rows : List (List UInt8)} (h : BSt wR W0 W g rows) (hg : g < wR.heap.size) {v : Value} (hv0 : W.cell? ⟨g, 0, none⟩ = some v) (s : List UInt8) (hs : s.length = 128) (hn : rows.length ≤ 1000000) :
      ∃ A' c' w9, (AppendS #[86, 86] 86 #[v, .slice (some ⟨W.heap.size, 0, none⟩) 1 1]).run Try.prog (W.alloc (.cells (s.map bv).toArray 80)) = .ok (.slice A' (rows.length + 1) c') w9 ∧
        (∃ u, w9.cell? ⟨g, 0, none⟩ = some u ∧ w9.frozen? ⟨g, 0, none⟩ = false) ∧ BSt wR W0 (w9.setCell ⟨g, 0, none⟩ (.slice A' (rows.length + 1) c')) g (rows ++ [s]) := by
  obtain ⟨v', hB, hR⟩ := h.st.row
  obtain rfl : v = v' := by have := hB.cell 0; rw [hv0] at this; injection this with this
  have hsz := h.st.kb.size
  obtain ⟨w8, hw8⟩ : ∃ w8, w8 = W.alloc (.cells (s.map bv).toArray 80) := ⟨_, rfl⟩
  have hb8 : Below W.heap.size W w8 := by rw [hw8]; exact (Below.refl _ W).alloc (Nat.le_refl _) _
  have h8 := h.free hb8
  have hR8 : Row w8 (fun k => wR.heap.size ≤ k) 80 128 v rows.length (flat rows) := hR.kept (fun x hx => hb8.block x (hR.lt x hx)) hR.foot
  have hB8 := hB.below hb8 hB.lt
  have hS8 : Slc w8 (W.heap.size + 1) 128 (some ⟨W.heap.size, 0, none⟩) 1 1 (s.map bv) := by
    rw [hw8]; have := slc_new W 80 (0, 0) (s.map bv).toArray (sz := 128) (n := 1) (c := 1) (by simp [hs]) (Nat.le_refl _) (by decide); simpa using this
  obtain ⟨A', c', w9, happ, hown, hgr, hat⟩ := append_wsector w8 v rows.length rows hR8.own s hS8 hn
  have hvg : ∀ k, v.ownBlock = some k → k ≠ g := fun k hk => by have := hR.foot k hk; omega
  have hB9 : Blk w9 g 86 #[v] := (hgr.block g hB8.lt (fun e => hvg g e.symm rfl)).trans hB8
  have hz8 : W.heap.size ≤ w8.heap.size := hb8.size
  refine ⟨A', c', w9, by rw [← hw8]; exact happ, ⟨v, hB9.cell 0, hB9.frozen 0⟩, ⟨?_, _, hB9.set_ 0 _, ?_⟩, ?_⟩
  · exact ((h8.st.kb.grown hgr (fun k e => .inl (.inr (hR.foot k e)))).setCell (p := ⟨g, 0, none⟩) (.inl (.inl rfl)) _)
  · rw [List.length_append, List.length_singleton]
    have hR9 : Row w9 (fun k => wR.heap.size ≤ k) 80 128 (.slice A' (rows.length + 1) c') (rows.length + 1) (flat (rows ++ [s])) := ⟨hown, fun k hk => by
      rcases hat with h9 | h9
      · exact hR.foot k (by rw [← h9]; exact hk)
      · rw [h9] at hk; injection hk with hk; omega⟩
    refine hR9.kept (fun k hk => heap_set_far _ _ _ _ _ ?_) hR9.foot
    have := hR9.foot k hk
    omega
  · refine (h8.keep.trans ((KeepsOthers.of_grownBy hgr (fun j o e hj => ?_)).from _)).trans ((KeepsOthers.setCell _ _ _).from _)
    rcases hR8.own.2 with ⟨h1, _⟩ | ⟨g2, cap, cur, h1, _, h2, _⟩
    · rw [h1] at e; cases e
    · rw [h1] at e; injection e with e
      simp only at e
      rw [← e, h2] at hj
      injection hj with hj
      rw [← hj]; rfl

section
variable {w w' wi wj : World} {p go gs pd N : Nat} {L L' : LogM} {F Fi Fj G H : Nat → Prop} {D D' : DiskM}
theorem WS.past (h : WS w F wi Fi p go gs pd N L D) (s : Step wi wj G H) (hG : ∀ k, G k → w.heap.size ≤ k ∧ ¬ Both Fi p go gs k) : WS w F wj Fi p go gs pd N L D :=
  ⟨⟨s.os.trans h.step.os, s.tape.trans h.step.tape, s.output.trans h.step.output, Nat.le_trans h.step.size s.size,
    fun k hk hn => (s.block k (Nat.lt_of_lt_of_le hk h.step.size) (fun hg => by have := (hG k hg).1; omega)).trans (h.step.block k hk hn), h.step.next⟩,
   h.wal.log.step s (fun k hk hg => (hG k hg).2 (.inr hk)), h.wal.disk.step s (fun k hk hg => (hG k hg).2 (.inl hk)), h.wal.sep⟩
theorem mcopy_mem {a b : SecMap} (ha : Rising a) (hb : Rising b) {x : Nat × List UInt8} (h : x ∈ mcopy a b) : x ∈ a ∨ x ∈ b := by
  have h1 : mget (mcopy a b) x.1 = some x.2 := (mget_some (mcopy_rising ha b)).2 h
  rw [mget_copy ha hb] at h1
  cases hq : mget b x.1 with
  | some v =>
    rw [hq] at h1
    simp only [Option.some_or, Option.some.injEq] at h1
    rw [h1] at hq
    exact .inr ((mget_some hb).1 hq)
  | none =>
    rw [hq] at h1
    simp only [Option.none_or] at h1
    exact .inl ((mget_some ha).1 h1)
theorem LogAt.overStep (h : LogAt w p go gs pd N L) {m : SecMap} (s : Step w w' (fun k => k = go) (fun k => k = go)) (hm : MapAt w' go m) (hk : HomeMap N L m) : LogAt w' p go gs pd N { L with over := m } :=
  ⟨⟨h.ok.most, h.ok.n4, h.ok.n255, h.ok.fits, h.ok.epoch, h.ok.used, h.ok.sum⟩, h.head.step s (Ne.symm h.p_go), hm, h.staged.step s (Ne.symm h.apart), h.apart, hk, h.stagedOk⟩
theorem Step.widen (s : Step w w' G G) (hG : ∀ k, G k → H k) : Step w w' H H :=
  ⟨s.os, s.tape, s.output, s.size, fun k hk hn => s.block k hk (fun hg => hn (hG k hg)), fun _ h => .inl h⟩
/-- maps.Copy at a log. -/
theorem WS.copy (h : WS w F wi Fi p go gs pd N L D) :
    Calls Try.prog 50 #[.map (some go), .map (some gs)] wi fun e w' => e = .returned (.tuple #[]) ∧ WS w F w' Fi p go gs pd N { L with over := mcopy L.over L.staged } D :=
  (mapcopy_any h.wal.log.over h.wal.log.staged h.wal.log.apart (fun x hx => (h.wal.log.stagedOk x hx).2)).mono fun _ _ ⟨he, hm, hs⟩ =>
    ⟨he, h.logStep (hs.widen (fun k hk => .inr (.inl hk))) (h.wal.log.overStep hs hm (fun x hx => by
      rcases mcopy_mem h.wal.log.over.rising h.wal.log.staged.rising hx with h1 | h1
      · exact h.wal.log.overOk x h1
      · exact h.wal.log.stagedOk x h1))⟩
theorem WS.dropped (h : WS w F wi Fi p go gs pd N L D) :
    Calls Try.prog 16 #[.pointer (some ⟨p, 0, none⟩)] wi fun e w' => e = .returned (.tuple #[]) ∧ WS w F w' Fi p go gs pd N { L with staged := [] } D :=
  (drop_any h.wal.log).mono fun _ _ ⟨he, hl, hs⟩ => ⟨he, h.logStep hs hl⟩
end
end Go.Proofs.Ytmhgahkainmbkaa
