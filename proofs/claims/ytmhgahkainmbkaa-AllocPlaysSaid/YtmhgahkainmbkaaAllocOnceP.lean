/- Plain: what Block and Free do to the map of the blocks, where there is room in the log. -/
import Derived.Test.YtmhgahkainmbkaaAllocE
namespace Go.Proofs.Ytmhgahkainmbkaa
open Go.RowKit
set_option linter.unusedVariables false
set_option linter.unusedSimpArgs false
variable {n : Nat} {L L' : LogM} {D D' : DiskM}
/-- What is told behind a sector that was staged. -/
theorem LInv.val_stage (h : LInv n L D) {k : Nat} (hk : homeB n L (k : Int) = true) {l : List UInt8} (he : L.stageE n (k : Int) 128 = 0) (j : Nat) : (L.stage n (k : Int) 128 l).val D j = if j = k then l else L.val D j := by
  unfold LogM.stage
  rw [if_pos he]
  unfold LogM.val
  simp only [Int.toNat_natCast]
  rw [mget_put h.staged]
  split <;> rfl
theorem val_stage_no {k : Nat} {l : List UInt8} (he : L.stageE n (k : Int) 128 ≠ 0) : L.stage n (k : Int) 128 l = L := by
  unfold LogM.stage
  rw [if_neg he]
/-- Nothing is staged but, at the most, the map of the blocks. -/
def Slim (n : Nat) (L : LogM) : Prop := L.staged = [] ∨ ∃ l, L.staged = [(lMap n, l)]
theorem Slim.len (h : Slim n L) : L.staged.length ≤ 1 := by
  rcases h with h | ⟨l, h⟩ <;> simp [h]
theorem Slim.put (h : Slim n L) (x : List UInt8) : mput L.staged (lMap n) x = [(lMap n, x)] := by
  rcases h with h | ⟨l, h⟩ <;> simp [h, mput]
/-- The facts of a log of a layout. -/
structure Laid (n : Nat) (L : LogM) (D : DiskM) : Prop where
  inv : LInv n L D
  base : L.base = 1
  size : L.n = logLen n
  n64 : 64 ≤ n
  most : n ≤ 1024
theorem Laid.home (h : Laid n L D) {k : Nat} (hk : k = 0 ∨ lMap n ≤ k) (hn : k < n) : homeB n L (k : Int) = true := home_at h.base h.size hk hn
theorem Laid.stage (h : Laid n L D) {k : Nat} (hk : k = 0 ∨ lMap n ≤ k) (hn : k < n) {l : List UInt8} (hl : l.length = 128) : Laid n (L.stage n (k : Int) 128 l) D := by
  have hi := h.inv.stageI (h.home hk hn) hl
  exact ⟨hi.2.1, hi.2.2.1.trans h.base, hi.2.2.2.1.trans h.size, h.n64, h.most⟩
theorem Laid.val_length (h : Laid n L D) {k : Nat} (hk : k = 0 ∨ lMap n ≤ k) (hn : k < n) : (L.val D k).length = 128 := by
  have hh := h.home hk hn
  unfold LogM.val
  cases hs : mget L.staged k with
  | some v => exact (h.inv.stagedOk _ ((mget_some h.inv.staged).1 hs)).2
  | none =>
    cases ho : mget L.over k with
    | some v => exact (h.inv.overOk _ ((mget_some h.inv.over).1 ho)).2
    | none => exact sector_len h.inv.rest.ok hn
theorem Laid.room (h : Laid n L D) {k : Nat} (hk : k = 0 ∨ lMap n ≤ k) (hn : k < n) (hr : L.staged.length ≤ 12) : L.stageE n (k : Int) 128 = 0 := by
  obtain ⟨f1, f2, f3, f4, f5, f6, f7, f8, f9⟩ := lay_facts h.n64 h.most
  have hmost := h.most
  exact (stage_room h.inv (h.home hk hn) (by have := costN_small (k := L.staged.length + 1) (by omega); rw [h.size]; omega) []).1
theorem LRun.laid {w : Ground} {wi : World} {F : Nat → Prop} {p go gs pd : Nat} (h : LRun w wi F p go gs pd n L D) : Laid n L D := ⟨h.inv, h.base, h.size, h.n64, h.most⟩
/-- The row that a law keeps says which blocks are in use. -/
structure Given (n : Nat) (L : LogM) (D : DiskM) (gl : List Bool) : Prop where
  slim : Slim n L
  len : gl.length = n
  bits : ∀ k, k < n - lData n → bitAt (L.val D (lMap n)) k = gl.getD (lData n + k) false
theorem Laid.map_len (h : Laid n L D) : (L.val D (lMap n)).length = 128 := h.val_length (.inr (Nat.le_refl _)) (by obtain ⟨f1, f2, f3, f4, f5, f6, f7, f8, f9⟩ := lay_facts h.n64 h.most; omega)
theorem getD_set_bool {gl : List Bool} {i : Nat} (hi : i < gl.length) (b : Bool) (j : Nat) : (gl.set i b).getD j false = if j = i then b else gl.getD j false := by
  by_cases h : j = i
  · subst h; rw [if_pos rfl, List.getD_eq_getElem?_getD, List.getElem?_set_self hi]; rfl
  · rw [if_neg h, List.getD_eq_getElem?_getD, List.getD_eq_getElem?_getD, List.getElem?_set_ne (Ne.symm h)]
/-- The map is turned at a block. -/
theorem Given.turn {gl : List Bool} (g : Given n L D gl) (h : Laid n L D) {i : Nat} (hi : i < n - lData n) :
    L.stageE n (lMap n : Int) 128 = 0 ∧ Laid n (L.stage n (lMap n : Int) 128 (flipAt (L.val D (lMap n)) i)) D ∧ Given n (L.stage n (lMap n : Int) 128 (flipAt (L.val D (lMap n)) i)) D (gl.set (lData n + i) (!gl.getD (lData n + i) false)) := by
  obtain ⟨f1, f2, f3, f4, f5, f6, f7, f8, f9⟩ := lay_facts h.n64 h.most
  have hmost := h.most
  have he : L.stageE n (lMap n : Int) 128 = 0 := h.room (.inr (Nat.le_refl _)) (by omega) (by have := g.slim.len; omega)
  have hl : (flipAt (L.val D (lMap n)) i).length = 128 := by rw [flipAt_length, h.map_len]
  refine ⟨he, h.stage (.inr (Nat.le_refl _)) (by omega) hl, .inr ⟨flipAt (L.val D (lMap n)) i, ?_⟩, by rw [List.length_set, g.len], fun k hk => ?_⟩
  · unfold LogM.stage
    rw [if_pos he]
    exact g.slim.put _
  · rw [h.inv.val_stage (h.home (.inr (Nat.le_refl _)) (by omega)) he, if_pos rfl, bit_flip (by rw [h.map_len]; omega), getD_set_bool (by rw [g.len]; omega), g.bits k hk, g.bits i hi]
    by_cases hki : k = i
    · subst hki; simp
    · rw [if_neg hki, if_neg (by omega)]
/-- A block is given: the least that is not in use; it has no byte of what was there. -/
theorem Given.block {gl : List Bool} (g : Given n L D gl) (h : Laid n L D) {i : Nat} (hl : leastN (L.val D (lMap n)) (n - lData n) = some i) :
    i < n - lData n ∧ gl.getD (lData n + i) false = false ∧ (blockR n L D).1 = ((lData n + i : Nat) : Int) ∧ (blockR n L D).2.1 = 0 ∧ (blockR n L D).2.2.staged.length ≤ 2 ∧ (blockR n L D).2.2.val D (lData n + i) = zsec ∧
    (∀ k, k < n - lData n → bitAt ((blockR n L D).2.2.val D (lMap n)) k = (gl.set (lData n + i) true).getD (lData n + k) false) := by
  obtain ⟨f1, f2, f3, f4, f5, f6, f7, f8, f9⟩ := lay_facts h.n64 h.most
  have hmost := h.most
  obtain ⟨_, h2, h3, _⟩ := leastFrom_some hl
  have hi : i < n - lData n := by omega
  have hg : gl.getD (lData n + i) false = false := by rw [← g.bits i hi]; exact h3
  obtain ⟨he, hL1, g1⟩ := g.turn h hi
  obtain ⟨L1, hL1e⟩ : ∃ L1, L1 = L.stage n (lMap n : Int) 128 (flipAt (L.val D (lMap n)) i) := ⟨_, rfl⟩
  rw [← hL1e] at hL1 g1
  have hk2 : (lData n : Int) + (i : Int) = ((lData n + i : Nat) : Int) := by omega
  have he2 : L1.stageE n ((lData n + i : Nat) : Int) 128 = 0 := hL1.room (.inr (by omega)) (by omega) (by have := g1.slim.len; omega)
  have hb : blockR n L D = (((lData n + i : Nat) : Int), 0, L1.stage n ((lData n + i : Nat) : Int) 128 zsec) := by
    unfold blockR leastR
    rw [hl]
    unfold blockEnd turnR
    simp only
    rw [if_neg (by rw [he]; simp), ← hL1e, hk2, if_neg (by rw [he2]; simp)]
  have hv := hL1.inv.val_stage (hL1.home (k := lData n + i) (.inr (by omega)) (by omega)) (l := zsec) he2
  rw [hb]
  refine ⟨hi, hg, rfl, rfl, ?_, by rw [hv, if_pos rfl], fun k hk => ?_⟩
  · unfold LogM.stage
    rw [if_pos he2]
    have h1 := g1.slim.len
    have := put_len hL1.inv.staged ((lData n + i : Nat) : Int).toNat zsec
    show (mput L1.staged ((lData n + i : Nat) : Int).toNat zsec).length ≤ 2
    omega
  · rw [hv, if_neg (by omega), g1.bits k hk, hg, Bool.not_false]
theorem Given.noBlock (hl : leastN (L.val D (lMap n)) (n - lData n) = none) : blockR n L D = (0, 47, L) := by
  unfold blockR leastR
  rw [hl]
  unfold blockEnd
  rw [if_pos (by simp)]
theorem freeN_all {b : List UInt8} : ∀ {k : Nat}, (∀ i, i < k → bitAt b i = true) → freeN b k = 0
  | 0, _ => rfl
  | k + 1, h => by unfold freeN; rw [freeN_all (fun i hi => h i (by omega)), h k (by omega)]; rfl
theorem freeN_none {b : List UInt8} : ∀ {k : Nat}, (∀ i, i < k → bitAt b i = false) → freeN b k = k
  | 0, _ => rfl
  | k + 1, h => by unfold freeN; rw [freeN_none (fun i hi => h i (by omega)), h k (by omega)]; rfl
theorem leastN_none {b : List UInt8} {c : Nat} (h : leastN b c = none) : freeN b c = 0 := freeN_all (fun i hi => leastFrom_none h i (Nat.zero_le _) (by omega))
/-- How many of a row are false from a place on. -/
def falses (gl : List Bool) : Nat := (gl.filter (fun b => !b)).length
theorem falses_set : ∀ (gl : List Bool) (i : Nat), gl.getD i true = false → falses (gl.set i true) + 1 = falses gl
  | [], i, h => by simp at h
  | a :: l, 0, h => by
    have : a = false := by simpa using h
    subst this
    simp [falses]
  | a :: l, i + 1, h => by
    have ih := falses_set l i (by simpa using h)
    unfold falses at ih ⊢
    cases a <;> simp [List.filter_cons] at ih ⊢ <;> omega
/-- Behind a commit. -/
theorem Laid.commit (h : Laid n L D) (ha : D.armed = false) : (commitR n L D).2.1.staged = [] ∧ ∀ k, (k = 0 ∨ lMap n ≤ k) → k < n → (commitR n L D).2.1.val (commitR n L D).2.2 k = L.val D k := by
  have hc := h.inv.commitI ha
  refine ⟨hc.2.2.2.2.1, fun k hk hkn => ?_⟩
  rw [val_told, show (commitR n L D).2.1.staged = [] from hc.2.2.2.2.1]
  exact hc.2.2.2.2.2.1 k (h.home hk hkn)
/-- One round: given, written over, committed. -/
theorem Given.round {gl : List Bool} (g : Given n L D gl) (h : Laid n L D) (ha : D.armed = false) {i : Nat} (hl : leastN (L.val D (lMap n)) (n - lData n) = some i) {L2 : LogM} (hL2 : L2 = (blockR n L D).2.2) (h2 : Laid n L2 D) (x : List UInt8) (hx : x.length = 128) :
    L2.stageE n ((lData n + i : Nat) : Int) 128 = 0 ∧ Given n (commitR n (L2.stage n ((lData n + i : Nat) : Int) 128 x) D).2.1 (commitR n (L2.stage n ((lData n + i : Nat) : Int) 128 x) D).2.2 (gl.set (lData n + i) true) := by
  obtain ⟨f1, f2, f3, f4, f5, f6, f7, f8, f9⟩ := lay_facts h.n64 h.most
  have hmost := h.most
  obtain ⟨b1, b2, b3, b4, b5, b6, b7⟩ := g.block h hl
  rw [← hL2] at b5 b6 b7
  have he : L2.stageE n ((lData n + i : Nat) : Int) 128 = 0 := h2.room (.inr (by omega)) (by omega) (by omega)
  have h3 := h2.stage (k := lData n + i) (.inr (by omega)) (by omega) hx
  have hc := h3.commit ha
  refine ⟨he, .inl hc.1, by rw [List.length_set, g.len], fun k hk => ?_⟩
  rw [hc.2 (lMap n) (.inr (Nat.le_refl _)) (by omega), h2.inv.val_stage (h2.home (.inr (by omega)) (by omega)) he, if_neg (by omega)]
  exact b7 k hk
/-- Has, and Free, where there is room. -/
theorem Given.has {gl : List Bool} (g : Given n L D gl) (h : Laid n L D) {k : Nat} (h1 : lData n ≤ k) (h2 : k < n) : hasBlock n L D (k : Int) = gl.getD k false := by
  unfold hasBlock hasB
  rw [if_neg (by omega), show ((k : Int) - (lData n : Int)).toNat = k - lData n by omega, g.bits _ (by omega), show lData n + (k - lData n) = k by omega, decide_eq_true (by omega), Bool.true_and]
theorem Given.free {gl : List Bool} (g : Given n L D gl) (h : Laid n L D) {k : Nat} (h1 : lData n ≤ k) (h2 : k < n) :
    (freeR n L D (k : Int)).1 = (if gl.getD k false then 0 else 48) ∧ Given n (freeR n L D (k : Int)).2 D (gl.set k false) := by
  unfold freeR
  rw [g.has h h1 h2]
  cases hb : gl.getD k false with
  | false =>
    rw [if_pos rfl]
    refine ⟨by simp, g.slim, by rw [List.length_set, g.len], fun j hj => ?_⟩
    rw [g.bits j hj, getD_set_bool (by rw [g.len]; omega)]
    split
    · rename_i e; rw [e, hb]
    · rfl
  | true =>
    rw [if_neg (by simp)]
    have hkn : ((k : Int) - (lData n : Int)).toNat = k - lData n := by omega
    obtain ⟨he, _, hg⟩ := g.turn h (i := k - lData n) (by omega)
    unfold turnR
    rw [hkn]
    rw [show lData n + (k - lData n) = k by omega, hb] at hg
    exact ⟨by rw [he]; rfl, hg⟩
end Go.Proofs.Ytmhgahkainmbkaa
