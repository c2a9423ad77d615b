/- Plain: blocks and inodes by definition, and that the space answers as they do. -/
import Derived.Test.YtmhgahkainmbkaaAllocOnceP
import Derived.Test.YtmhgahkainmbkaaAllocAct
namespace Go.Proofs.Ytmhgahkainmbkaa
open Go.RowKit
set_option linter.unusedVariables false
set_option linter.unusedSimpArgs false
/-- Which blocks and inodes are in use, and which sectors are staged. -/
structure RefM where
  blk : List Bool
  ino : List Bool
  stg : List Nat
/-- A sector is staged: by definition. -/
def RefM.stage (n : Nat) (R : RefM) (k : Nat) : Option RefM :=
  if k ∈ R.stg then some R else if logLen n - 1 < costN (R.stg.length + 1) then none else some { R with stg := R.stg ++ [k] }
/-- The first that is not in use, from j on. -/
def firstF : List Bool → Nat → Option Nat
  | [], _ => none
  | b :: l, j => if b then firstF l (j + 1) else some j
def RefM.take2 (n : Nat) (i : Nat) (R : RefM) : Int × Int × RefM :=
  match R.stage n (lData n + i) with
  | none => (0, 45, R)
  | some R3 => (((lData n + i : Nat) : Int), 0, R3)
def RefM.take1 (n : Nat) (i : Nat) (R : RefM) : Int × Int × RefM :=
  match R.stage n (lMap n) with
  | none => (0, 45, R)
  | some R1 => RefM.take2 n i { R1 with blk := R1.blk.set i true }
def RefM.take (n : Nat) (R : RefM) : Int × Int × RefM :=
  match firstF R.blk 0 with
  | none => (0, 47, R)
  | some i => R.take1 n i
def RefM.takeI2 (n : Nat) (i : Nat) (R : RefM) : Int × Int × RefM :=
  match R.stage n (lTable n + i / 4) with
  | none => (0, 45, R)
  | some R3 => ((i : Int), 0, R3)
def RefM.takeI1 (n : Nat) (i : Nat) (R : RefM) : Int × Int × RefM :=
  match R.stage n (lNodes n) with
  | none => (0, 45, R)
  | some R1 => RefM.takeI2 n i { R1 with ino := R1.ino.set i true }
def RefM.takeI (n : Nat) (R : RefM) : Int × Int × RefM :=
  match firstF R.ino 0 with
  | none => (0, 47, R)
  | some i => R.takeI1 n i
def RefM.freeAt (n : Nat) (i : Nat) (R : RefM) : Int × RefM :=
  match R.stage n (lMap n) with
  | none => (45, R)
  | some R1 => (0, { R1 with blk := R1.blk.set i false })
/-- Is a block in use: by definition. -/
def RefM.hasB (n : Nat) (R : RefM) (b : Int) : Bool := decide ((lData n : Int) ≤ b ∧ b - (lData n : Int) < R.blk.length) && R.blk.getD (b - (lData n : Int)).toNat false
def RefM.hasI (R : RefM) (i : Int) : Bool := decide (1 ≤ i ∧ i < R.ino.length) && R.ino.getD i.toNat false
def RefM.free (n : Nat) (R : RefM) (b : Int) : Int × RefM := if R.hasB n b = false then (48, R) else R.freeAt n (b - (lData n : Int)).toNat
def RefM.freeIAt (n : Nat) (i : Nat) (R : RefM) : Int × RefM :=
  match R.stage n (lNodes n) with
  | none => (45, R)
  | some R1 => (0, { R1 with ino := R1.ino.set i false })
def RefM.freeI (n : Nat) (R : RefM) (i : Int) : Int × RefM := if R.hasI i = false then (49, R) else R.freeIAt n i.toNat
/-- How many are not in use: by definition. -/
def countF : List Bool → Nat → Nat
  | _, 0 => 0
  | l, k + 1 => countF l k + if l.getD k false then 0 else 1
/-- What is told is what the definition says. -/
structure SimV (n : Nat) (f : Nat → List UInt8) (R : RefM) : Prop where
  blen : R.blk.length = n - lData n
  ilen : R.ino.length = lInodes n
  bbit : ∀ k, k < n - lData n → bitAt (f (lMap n)) k = R.blk.getD k false
  ibit : ∀ k, k < lInodes n → bitAt (f (lNodes n)) k = R.ino.getD k false
  head : f 0 = headB n
structure SimS (L : LogM) (R : RefM) : Prop where
  mem : ∀ k : Nat, k ∈ R.stg ↔ (mget L.staged k).isSome = true
  len : R.stg.length = L.staged.length
structure Sim (n : Nat) (L : LogM) (D : DiskM) (R : RefM) : Prop where
  v : SimV n (L.val D) R
  s : SimS L R
section
variable {n : Nat} {L L' : LogM} {D D' : DiskM} {R : RefM}
theorem firstF_is {b : List UInt8} : ∀ (l : List Bool) (j c : Nat), l.length = c → (∀ k, k < c → bitAt b (j + k) = l.getD k false) → firstF l j = leastFrom b j c
  | [], j, c, hc, h => by subst hc; rfl
  | a :: l, j, c, hc, h => by
    subst hc
    have h0 := h 0 (by simp)
    simp only [Nat.add_zero, List.getD_cons_zero] at h0
    show (if a then firstF l (j + 1) else some j) = if bitAt b j then leastFrom b (j + 1) l.length else some j
    rw [h0]
    rw [firstF_is l (j + 1) l.length rfl (fun k hk => by have := h (k + 1) (by simpa using hk); rw [show j + 1 + k = j + (k + 1) by omega, this]; rfl)]
theorem countF_is {b : List UInt8} (l : List Bool) : ∀ c, (∀ k, k < c → bitAt b k = l.getD k false) → countF l c = freeN b c
  | 0, _ => rfl
  | c + 1, h => by unfold countF freeN; rw [countF_is l c (fun k hk => h k (by omega)), h c (by omega)]
/-- Staged in both, or in neither. -/
theorem Laid.simStage (h : Laid n L D) (s : SimS L R) {k : Nat} (hk : k = 0 ∨ lMap n ≤ k) (hn : k < n) (l : List UInt8) :
    (L.stageE n (k : Int) 128 = 0 ∧ ∃ R', R.stage n k = some R' ∧ R'.blk = R.blk ∧ R'.ino = R.ino ∧ SimS (L.stage n (k : Int) 128 l) R') ∨ (L.stageE n (k : Int) 128 = 45 ∧ R.stage n k = none) := by
  have he := stageE_is h.inv (h.home hk hn)
  unfold RefM.stage
  by_cases hm : k ∈ R.stg
  · have h1 := (s.mem k).1 hm
    have e0 : L.stageE n (k : Int) 128 = 0 := by rw [he, if_neg]; rintro ⟨h2, _⟩; rw [h2] at h1; cases h1
    rw [if_pos hm]
    refine .inl ⟨e0, R, rfl, rfl, rfl, ?_⟩
    unfold LogM.stage
    rw [if_pos e0]
    refine ⟨fun j => ?_, ?_⟩
    · show j ∈ R.stg ↔ (mget (mput L.staged (k : Int).toNat l) j).isSome = true
      rw [Int.toNat_natCast, mget_put h.inv.staged]
      by_cases hj : j = k
      · subst hj; rw [if_pos rfl]; exact ⟨fun _ => rfl, fun _ => hm⟩
      · rw [if_neg hj]; exact s.mem j
    · show R.stg.length = (mput L.staged (k : Int).toNat l).length
      rw [Int.toNat_natCast, mput_length h.inv.staged, if_pos h1, s.len]
  · have h1 : mget L.staged k = none := by
      cases hq : mget L.staged k with
      | none => rfl
      | some x => exact absurd ((s.mem k).2 (by rw [hq]; rfl)) hm
    rw [if_neg hm, s.len, ← h.size]
    by_cases hc : L.n - 1 < costN (L.staged.length + 1)
    · rw [if_pos hc]
      exact .inr ⟨by rw [he, if_pos ⟨h1, hc⟩], rfl⟩
    · rw [if_neg hc]
      have e0 : L.stageE n (k : Int) 128 = 0 := by rw [he, if_neg (fun h2 => hc h2.2)]
      refine .inl ⟨e0, _, rfl, rfl, rfl, ?_⟩
      unfold LogM.stage
      rw [if_pos e0]
      refine ⟨fun j => ?_, ?_⟩
      · show j ∈ R.stg ++ [k] ↔ (mget (mput L.staged (k : Int).toNat l) j).isSome = true
        rw [Int.toNat_natCast, mget_put h.inv.staged, List.mem_append]
        by_cases hj : j = k
        · subst hj; rw [if_pos rfl]; simp
        · rw [if_neg hj, ← s.mem j]; simp [hj]
      · show (R.stg ++ [k]).length = (mput L.staged (k : Int).toNat l).length
        rw [Int.toNat_natCast, mput_length h.inv.staged, h1]
        simp [s.len]
/-- A bit of the blocks' map is turned. -/
theorem SimV.turnB {f g : Nat → List UInt8} (v : SimV n f R) (h64 : 64 ≤ n) (h1024 : n ≤ 1024) (hl : (f (lMap n)).length = 128) {i : Nat} (hi : i < n - lData n) (hg : ∀ j, g j = if j = lMap n then flipAt (f (lMap n)) i else f j) {b : Bool} (hb : b = !R.blk.getD i false) (R' : RefM) (hR : R'.blk = R.blk.set i b) (hI : R'.ino = R.ino) : SimV n g R' := by
  obtain ⟨f1, f2, f3, f4, f5, f6, f7, f8, f9⟩ := lay_facts h64 h1024
  refine ⟨by rw [hR, List.length_set, v.blen], by rw [hI, v.ilen], fun k hk => ?_, fun k hk => ?_, ?_⟩
  · rw [hg, if_pos rfl, bit_flip (by rw [hl]; omega), hR, getD_set_bool (by rw [v.blen]; exact hi), v.bbit k hk, v.bbit i hi, hb]
  · rw [hg, if_neg (by omega), hI]; exact v.ibit k hk
  · rw [hg, if_neg (by omega)]; exact v.head
theorem SimV.turnI {f g : Nat → List UInt8} (v : SimV n f R) (h64 : 64 ≤ n) (h1024 : n ≤ 1024) (hl : (f (lNodes n)).length = 128) {i : Nat} (hi : i < lInodes n) (hg : ∀ j, g j = if j = lNodes n then flipAt (f (lNodes n)) i else f j) {b : Bool} (hb : b = !R.ino.getD i false) (R' : RefM) (hR : R'.ino = R.ino.set i b) (hI : R'.blk = R.blk) : SimV n g R' := by
  obtain ⟨f1, f2, f3, f4, f5, f6, f7, f8, f9⟩ := lay_facts h64 h1024
  refine ⟨by rw [hI, v.blen], by rw [hR, List.length_set, v.ilen], fun k hk => ?_, fun k hk => ?_, ?_⟩
  · rw [hg, if_neg (by omega), hI]; exact v.bbit k hk
  · rw [hg, if_pos rfl, bit_flip (by rw [hl]; omega), hR, getD_set_bool (by rw [v.ilen]; exact hi), v.ibit k hk, v.ibit i hi, hb]
  · rw [hg, if_neg (by omega)]; exact v.head
theorem SimV.same {f g : Nat → List UInt8} (v : SimV n f R) (hm : g (lMap n) = f (lMap n)) (hi : g (lNodes n) = f (lNodes n)) (h0 : g 0 = f 0) (R' : RefM) (hR : R'.blk = R.blk) (hI : R'.ino = R.ino) : SimV n g R' :=
  ⟨by rw [hR, v.blen], by rw [hI, v.ilen], fun k hk => by rw [hm, hR]; exact v.bbit k hk, fun k hk => by rw [hi, hI]; exact v.ibit k hk, by rw [h0]; exact v.head⟩
theorem Laid.nodes_len (h : Laid n L D) : (L.val D (lNodes n)).length = 128 := h.val_length (.inr (by obtain ⟨f1, f2, f3, f4, f5, f6, f7, f8, f9⟩ := lay_facts h.n64 h.most; omega)) (by obtain ⟨f1, f2, f3, f4, f5, f6, f7, f8, f9⟩ := lay_facts h.n64 h.most; omega)
/-- Block. -/
theorem Laid.simBlock (h : Laid n L D) (s : Sim n L D R) : (blockR n L D).1 = (R.take n).1 ∧ (blockR n L D).2.1 = (R.take n).2.1 ∧ ((R.take n).2.1 ≠ 45 → Sim n (blockR n L D).2.2 D (R.take n).2.2) := by
  obtain ⟨f1, f2, f3, f4, f5, f6, f7, f8, f9⟩ := lay_facts h.n64 h.most
  have hmost := h.most
  have hf : firstF R.blk 0 = leastN (L.val D (lMap n)) (n - lData n) := firstF_is R.blk 0 _ s.v.blen (fun k hk => by rw [Nat.zero_add]; exact s.v.bbit k hk)
  unfold RefM.take
  rw [hf]
  cases hl : leastN (L.val D (lMap n)) (n - lData n) with
  | none => rw [Given.noBlock hl]; exact ⟨rfl, rfl, fun _ => s⟩
  | some i =>
    obtain ⟨_, h2, h3, _⟩ := leastFrom_some hl
    have hi : i < n - lData n := by omega
    have hg : R.blk.getD i false = false := by rw [← s.v.bbit i hi]; exact h3
    have hlen : (flipAt (L.val D (lMap n)) i).length = 128 := by rw [flipAt_length, h.map_len]
    have hbe : blockR n L D = blockEnd n (lData n) ((i : Int), turnR n L D (lMap n) i) := by unfold blockR leastR; rw [hl]
    rw [hbe]
    show _ = (R.take1 n i).1 ∧ _ = (R.take1 n i).2.1 ∧ ((R.take1 n i).2.1 ≠ 45 → Sim n _ D (R.take1 n i).2.2)
    unfold RefM.take1 turnR
    rcases h.simStage s.s (k := lMap n) (.inr (Nat.le_refl _)) (by omega) (flipAt (L.val D (lMap n)) i) with ⟨e0, R1, hR1, hb1, hi1, s1⟩ | ⟨e0, hR1⟩
    · rw [hR1]
      unfold blockEnd
      simp only
      rw [if_neg (by rw [e0]; simp)]
      have hv := h.inv.val_stage (h.home (k := lMap n) (.inr (Nat.le_refl _)) (by omega)) (l := flipAt (L.val D (lMap n)) i) e0
      have hL1 := h.stage (k := lMap n) (.inr (Nat.le_refl _)) (by omega) hlen
      obtain ⟨L1, hL1e⟩ : ∃ L1, L1 = L.stage n (lMap n : Int) 128 (flipAt (L.val D (lMap n)) i) := ⟨_, rfl⟩
      rw [← hL1e] at s1 hv hL1 ⊢
      have v1 : SimV n (L1.val D) { R1 with blk := R1.blk.set i true } := s.v.turnB h.n64 h.most h.map_len hi hv (b := true) (by rw [hg]; rfl) _ (by rw [← hb1]) hi1
      have s1' : SimS L1 { R1 with blk := R1.blk.set i true } := ⟨s1.mem, s1.len⟩
      unfold RefM.take2
      rcases hL1.simStage s1' (k := lData n + i) (.inr (by omega)) (by omega) zsec with ⟨e2, R3, hR3, hb3, hi3, s3⟩ | ⟨e2, hR3⟩
      · rw [hR3, show (lData n : Int) + (i : Int) = ((lData n + i : Nat) : Int) by omega, if_neg (by rw [e2]; simp)]
        refine ⟨rfl, rfl, fun _ => ⟨?_, s3⟩⟩
        have hv3 := hL1.inv.val_stage (hL1.home (k := lData n + i) (.inr (by omega)) (by omega)) (l := zsec) e2
        exact v1.same (by rw [hv3, if_neg (by omega)]) (by rw [hv3, if_neg (by omega)]) (by rw [hv3, if_neg (by omega)]) R3 hb3 hi3
      · rw [hR3, show (lData n : Int) + (i : Int) = ((lData n + i : Nat) : Int) by omega, if_pos (by rw [e2]; simp), e2]
        exact ⟨rfl, rfl, fun h => absurd rfl h⟩
    · rw [hR1]
      unfold blockEnd
      simp only
      rw [if_pos (by rw [e0]; simp), e0]
      exact ⟨rfl, rfl, fun h => absurd rfl h⟩
/-- Inode. -/
theorem Laid.simInode (h : Laid n L D) (s : Sim n L D R) : (inodeR n L D).1 = (R.takeI n).1 ∧ (inodeR n L D).2.1 = (R.takeI n).2.1 ∧ ((R.takeI n).2.1 ≠ 45 → Sim n (inodeR n L D).2.2 D (R.takeI n).2.2) := by
  obtain ⟨f1, f2, f3, f4, f5, f6, f7, f8, f9⟩ := lay_facts h.n64 h.most
  have hmost := h.most
  have hf : firstF R.ino 0 = leastN (L.val D (lNodes n)) (lInodes n) := firstF_is R.ino 0 _ s.v.ilen (fun k hk => by rw [Nat.zero_add]; exact s.v.ibit k hk)
  unfold RefM.takeI
  rw [hf]
  cases hl : leastN (L.val D (lNodes n)) (lInodes n) with
  | none =>
    have : inodeR n L D = (0, 47, L) := by unfold inodeR leastR; rw [hl]; unfold inodeEnd; rw [if_pos (by simp)]
    rw [this]; exact ⟨rfl, rfl, fun _ => s⟩
  | some i =>
    obtain ⟨_, h2, h3, _⟩ := leastFrom_some hl
    have hi : i < lInodes n := by omega
    have hg : R.ino.getD i false = false := by rw [← s.v.ibit i hi]; exact h3
    have hlen : (flipAt (L.val D (lNodes n)) i).length = 128 := by rw [flipAt_length, h.nodes_len]
    have hbe : inodeR n L D = inodeEnd n (lTable n) D ((i : Int), turnR n L D (lNodes n) i) := by unfold inodeR leastR; rw [hl]
    rw [hbe]
    show _ = (R.takeI1 n i).1 ∧ _ = (R.takeI1 n i).2.1 ∧ ((R.takeI1 n i).2.1 ≠ 45 → Sim n _ D (R.takeI1 n i).2.2)
    unfold RefM.takeI1 turnR
    rcases h.simStage s.s (k := lNodes n) (.inr (by omega)) (by omega) (flipAt (L.val D (lNodes n)) i) with ⟨e0, R1, hR1, hb1, hi1, s1⟩ | ⟨e0, hR1⟩
    · rw [hR1]
      unfold inodeEnd
      simp only
      rw [if_neg (by rw [e0]; simp)]
      have hv := h.inv.val_stage (h.home (k := lNodes n) (.inr (by omega)) (by omega)) (l := flipAt (L.val D (lNodes n)) i) e0
      have hL1 := h.stage (k := lNodes n) (.inr (by omega)) (by omega) hlen
      obtain ⟨L1, hL1e⟩ : ∃ L1, L1 = L.stage n (lNodes n : Int) 128 (flipAt (L.val D (lNodes n)) i) := ⟨_, rfl⟩
      rw [← hL1e] at s1 hv hL1 ⊢
      have v1 : SimV n (L1.val D) { R1 with ino := R1.ino.set i true } := s.v.turnI h.n64 h.most h.nodes_len hi hv (b := true) (by rw [hg]; rfl) _ (by rw [← hi1]) hb1
      have s1' : SimS L1 { R1 with ino := R1.ino.set i true } := ⟨s1.mem, s1.len⟩
      unfold RefM.takeI2
      have hq : ((lTable n : Int) + (i : Int) / 4) = ((lTable n + i / 4 : Nat) : Int) := by omega
      rw [hq]
      rcases hL1.simStage s1' (k := lTable n + i / 4) (.inr (by omega)) (by omega) (wipe (L1.val D (lTable n + ((i : Int)).toNat / 4)) ((i : Int).toNat % 4)) with ⟨e2, R3, hR3, hb3, hi3, s3⟩ | ⟨e2, hR3⟩
      · rw [hR3, if_neg (by rw [e2]; simp)]
        refine ⟨rfl, rfl, fun _ => ⟨?_, s3⟩⟩
        have hv3 := hL1.inv.val_stage (hL1.home (k := lTable n + i / 4) (.inr (by omega)) (by omega)) (l := wipe (L1.val D (lTable n + ((i : Int)).toNat / 4)) ((i : Int).toNat % 4)) e2
        exact v1.same (by rw [hv3, if_neg (by omega)]) (by rw [hv3, if_neg (by omega)]) (by rw [hv3, if_neg (by omega)]) R3 hb3 hi3
      · rw [hR3, if_pos (by rw [e2]; simp), e2]
        exact ⟨rfl, rfl, fun h => absurd rfl h⟩
    · rw [hR1]
      unfold inodeEnd
      simp only
      rw [if_pos (by rw [e0]; simp), e0]
      exact ⟨rfl, rfl, fun h => absurd rfl h⟩
theorem Sim.hasB (h : Laid n L D) (s : Sim n L D R) (b : Int) : hasBlock n L D b = R.hasB n b := by
  unfold hasBlock RefM.hasB Go.Proofs.Ytmhgahkainmbkaa.hasB
  rw [s.v.blen]
  by_cases hb : b < (lData n : Int)
  · rw [if_pos hb, decide_eq_false (by omega), decide_eq_false (by omega)]; rfl
  · rw [if_neg hb]
    by_cases h2 : b - (lData n : Int) < ((n - lData n : Nat) : Int)
    · rw [decide_eq_true (by omega), decide_eq_true (by omega), s.v.bbit _ (by omega)]
    · rw [decide_eq_false (by omega), decide_eq_false (by omega)]; rfl
theorem Sim.hasI (h : Laid n L D) (s : Sim n L D R) (i : Int) : hasInode n L D i = R.hasI i := by
  unfold hasInode RefM.hasI Go.Proofs.Ytmhgahkainmbkaa.hasB
  rw [s.v.ilen]
  by_cases hb : i = 0
  · rw [if_pos hb, decide_eq_false (by omega), decide_eq_false (by omega)]; rfl
  · rw [if_neg hb]
    by_cases h2 : 0 ≤ i ∧ i < ((lInodes n : Nat) : Int)
    · rw [decide_eq_true (by omega), decide_eq_true (by omega), s.v.ibit _ (by omega)]
    · rw [decide_eq_false (by omega), decide_eq_false (by omega)]; rfl
theorem Laid.simFree (h : Laid n L D) (s : Sim n L D R) (b : Int) : (freeR n L D b).1 = (R.free n b).1 ∧ ((R.free n b).1 ≠ 45 → Sim n (freeR n L D b).2 D (R.free n b).2) := by
  obtain ⟨f1, f2, f3, f4, f5, f6, f7, f8, f9⟩ := lay_facts h.n64 h.most
  have hmost := h.most
  unfold freeR RefM.free
  rw [s.hasB h b]
  by_cases hb : R.hasB n b = false
  · rw [if_pos hb, if_pos hb]; exact ⟨rfl, fun _ => s⟩
  · rw [if_neg hb, if_neg hb]
    have hb' : R.hasB n b = true := by simpa using hb
    unfold RefM.hasB at hb'
    rw [Bool.and_eq_true, decide_eq_true_eq, s.v.blen] at hb'
    obtain ⟨i, hi⟩ : ∃ i, i = (b - (lData n : Int)).toNat := ⟨_, rfl⟩
    rw [← hi] at hb' ⊢
    have hin : i < n - lData n := by omega
    have hlen : (flipAt (L.val D (lMap n)) i).length = 128 := by rw [flipAt_length, h.map_len]
    unfold RefM.freeAt turnR
    rcases h.simStage s.s (k := lMap n) (.inr (Nat.le_refl _)) (by omega) (flipAt (L.val D (lMap n)) i) with ⟨e0, R1, hR1, hb1, hi1, s1⟩ | ⟨e0, hR1⟩
    · rw [hR1]
      have hv := h.inv.val_stage (h.home (k := lMap n) (.inr (Nat.le_refl _)) (by omega)) (l := flipAt (L.val D (lMap n)) i) e0
      exact ⟨e0, fun _ => ⟨s.v.turnB h.n64 h.most h.map_len hin hv (b := false) (by rw [hb'.2]; rfl) _ (by rw [← hb1]) hi1, ⟨s1.mem, s1.len⟩⟩⟩
    · rw [hR1]
      exact ⟨e0, fun h => absurd rfl h⟩
theorem Laid.simFreeI (h : Laid n L D) (s : Sim n L D R) (b : Int) : (freeInodeR n L D b).1 = (R.freeI n b).1 ∧ ((R.freeI n b).1 ≠ 45 → Sim n (freeInodeR n L D b).2 D (R.freeI n b).2) := by
  obtain ⟨f1, f2, f3, f4, f5, f6, f7, f8, f9⟩ := lay_facts h.n64 h.most
  have hmost := h.most
  unfold freeInodeR RefM.freeI
  rw [s.hasI h b]
  by_cases hb : R.hasI b = false
  · rw [if_pos hb, if_pos hb]; exact ⟨rfl, fun _ => s⟩
  · rw [if_neg hb, if_neg hb]
    have hb' : R.hasI b = true := by simpa using hb
    unfold RefM.hasI at hb'
    rw [Bool.and_eq_true, decide_eq_true_eq, s.v.ilen] at hb'
    obtain ⟨i, hi⟩ : ∃ i, i = b.toNat := ⟨_, rfl⟩
    rw [← hi] at hb' ⊢
    have hin : i < lInodes n := by omega
    have hlen : (flipAt (L.val D (lNodes n)) i).length = 128 := by rw [flipAt_length, h.nodes_len]
    unfold RefM.freeIAt turnR
    rcases h.simStage s.s (k := lNodes n) (.inr (by omega)) (by omega) (flipAt (L.val D (lNodes n)) i) with ⟨e0, R1, hR1, hb1, hi1, s1⟩ | ⟨e0, hR1⟩
    · rw [hR1]
      have hv := h.inv.val_stage (h.home (k := lNodes n) (.inr (by omega)) (by omega)) (l := flipAt (L.val D (lNodes n)) i) e0
      exact ⟨e0, fun _ => ⟨s.v.turnI h.n64 h.most h.nodes_len hin hv (b := false) (by rw [hb'.2]; rfl) _ (by rw [← hi1]) hb1, ⟨s1.mem, s1.len⟩⟩⟩
    · rw [hR1]
      exact ⟨e0, fun h => absurd rfl h⟩
theorem Sim.countB (s : Sim n L D R) : freeN (L.val D (lMap n)) (n - lData n) = countF R.blk R.blk.length := by rw [s.v.blen, countF_is R.blk _ s.v.bbit]
theorem Sim.countI (s : Sim n L D R) : freeN (L.val D (lNodes n)) (lInodes n) = countF R.ino R.ino.length := by rw [s.v.ilen, countF_is R.ino _ s.v.ibit]
/-- What is safe: what is told but for what is staged. -/
def Safe (n : Nat) (L : LogM) (D : DiskM) (S : RefM) : Prop := SimV n (told L D.now) S ∧ S.stg = []
theorem Safe.over {S : RefM} (h : Safe n L D S) (ho : L'.over = L.over) : Safe n L' D S := by
  refine ⟨?_, h.2⟩
  rw [show told L' D.now = told L D.now by funext k; unfold told; rw [ho]]
  exact h.1
theorem Safe.drop {S : RefM} (h : Safe n L D S) : Sim n { L with staged := [] } D S :=
  ⟨h.1, ⟨fun k => by rw [h.2]; simp [mget], by rw [h.2]; rfl⟩⟩
theorem Sim.commit (h : Laid n L D) (ha : D.armed = false) (s : Sim n L D R) : Sim n (commitR n L D).2.1 (commitR n L D).2.2 { R with stg := [] } ∧ Safe n (commitR n L D).2.1 (commitR n L D).2.2 { R with stg := [] } := by
  obtain ⟨f1, f2, f3, f4, f5, f6, f7, f8, f9⟩ := lay_facts h.n64 h.most
  have hmost := h.most
  obtain ⟨h1, h2⟩ := h.commit ha
  have hv : SimV n ((commitR n L D).2.1.val (commitR n L D).2.2) { R with stg := [] } := s.v.same (h2 _ (.inr (Nat.le_refl _)) (by omega)) (h2 _ (.inr (by omega)) (by omega)) (h2 _ (.inl rfl) (by omega)) _ rfl rfl
  refine ⟨⟨hv, ⟨fun k => by rw [h1]; simp [mget], by rw [h1]; rfl⟩⟩, ?_, rfl⟩
  have e : told (commitR n L D).2.1 (commitR n L D).2.2.now = (commitR n L D).2.1.val (commitR n L D).2.2 := by
    funext k; rw [val_told, h1]; rfl
  rw [e]
  exact hv
end
end Go.Proofs.Ytmhgahkainmbkaa
