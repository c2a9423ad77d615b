/- Plain: what a log's room says, row by row; what the control says; the sectors that a log leans on. -/
import Derived.Test.YtmhgahkainmbkaaWalCommitM
import Derived.Test.YtmhgahkainmbkaaDskPlain
namespace Go.Proofs.Ytmhgahkainmbkaa
open Go.RowKit
set_option linter.unusedVariables false
set_option linter.unusedSimpArgs false

theorem homeB_congr {N : Nat} {L L' : LogM} (hb : L'.base = L.base) (hn : L'.n = L.n) (i : Int) : homeB N L' i = homeB N L i := by unfold homeB; rw [hb, hn]
theorem HomeMap.congr {N : Nat} {L L' : LogM} {m : SecMap} (hb : L'.base = L.base) (hn : L'.n = L.n) (h : HomeMap N L m) : HomeMap N L' m := fun x hx => by rw [homeB_congr hb hn]; exact h x hx
theorem rowsM_congr {N : Nat} {L L' : LogM} (hb : L'.base = L.base) (hn : L'.n = L.n) : ∀ (f : Nat) (r : List (List UInt8)) (o : SecMap), rowsM N L' f r o = rowsM N L f r o
  | 0, [], o => by simp [rowsM]
  | 0, _ :: _, o => by simp [rowsM]
  | f + 1, [], o => by simp [rowsM]
  | f + 1, list :: rest, o => by
    have hk : ∀ i, okUp N L' list i = okUp N L list i := fun i => by
      unfold okUp
      congr 1
      funext j
      unfold okAt
      rw [homeB_congr hb hn]
    simp only [rowsM, hk, rowsM_congr hb hn f]
theorem overUp_append (o : SecMap) (list : List UInt8) (r1 r2 : List (List UInt8)) (k : Nat) (h : k ≤ r1.length) : overUp o list (r1 ++ r2) k = overUp o list r1 k := by
  induction k with
  | zero => rfl
  | succ k ih =>
    rw [overUp_succ, overUp_succ, ih (by omega)]
    congr 1
    rw [List.getD_eq_getElem?_getD, List.getD_eq_getElem?_getD, List.getElem?_append_left (by omega)]
theorem rowsM_fuel {N : Nat} {L : LogM} : ∀ (F f : Nat) (r : List (List UInt8)) (o o1 : SecMap), rowsM N L f r o = some o1 → f ≤ F → rowsM N L F r o = some o1
  | F, f, [], o, o1, h, _ => by
    cases F <;> cases f <;> (simp only [rowsM] at h ⊢; exact h)
  | F, 0, list :: rest, o, o1, h, _ => by simp [rowsM] at h
  | F, f + 1, list :: rest, o, o1, h, hF => by
    obtain ⟨G, rfl⟩ : ∃ G, F = G + 1 := ⟨F - 1, by omega⟩
    simp only [rowsM] at h ⊢
    split at h
    · rename_i hc
      rw [if_pos hc]
      exact rowsM_fuel G f _ _ _ h (by omega)
    · cases h
theorem rowsM_append {N : Nat} {L : LogM} : ∀ (f : Nat) (r1 : List (List UInt8)) (o o1 : SecMap), rowsM N L f r1 o = some o1 → ∀ (f2 : Nat) (r2 : List (List UInt8)) (o2 : SecMap), rowsM N L f2 r2 o1 = some o2 → ∀ F, f + f2 ≤ F → rowsM N L F (r1 ++ r2) o = some o2
  | f, [], o, o1, h, f2, r2, o2, h2, F, hF => by
    have h0 : o = o1 := by
      cases f <;> (simp only [rowsM] at h; injection h)
    subst h0
    rw [List.nil_append]
    exact rowsM_fuel F f2 r2 _ _ h2 (by omega)
  | 0, list :: rest, o, o1, h, f2, r2, o2, h2, F, hF => by simp [rowsM] at h
  | f + 1, list :: rest, o, o1, h, f2, r2, o2, h2, F, hF => by
    obtain ⟨G, rfl⟩ : ∃ G, F = G + 1 := ⟨F - 1, by omega⟩
    simp only [rowsM] at h
    split at h
    · rename_i hc
      have := rowsM_append f _ _ _ h f2 r2 o2 h2 G (by omega)
      rw [List.cons_append]
      simp only [rowsM]
      rw [if_pos ⟨hc.1, hc.2.1, by rw [List.length_append]; omega, hc.2.2.2⟩, overUp_append _ _ _ _ _ hc.2.2.1, List.drop_append_of_le_length hc.2.2.1]
      exact this
    · cases h

theorem list_take2 {hs : List Nat} (h : hs.length ≤ 60) : ofLe ((listB hs).take 2) = hs.length := by
  unfold listB pad listHead
  rw [List.append_assoc, List.take_left' (le_length 2 _), ofLe_le]
  omega
theorem flatMap_drop (hs : List Nat) : ∀ (i : Nat) (t : List UInt8), i < hs.length → (((hs.flatMap (le 2)) ++ t).drop (2 * i)).take 2 = le 2 (hs.getD i 0) := by
  induction hs with
  | nil => intro i t h; simp at h
  | cons x hs ih =>
    intro i t h
    cases i with
    | zero => 
      rw [List.flatMap_cons, List.append_assoc, Nat.mul_zero, List.drop_zero, List.take_left' (le_length 2 _)]
      rfl
    | succ i =>
      rw [List.flatMap_cons, List.append_assoc, show 2 * (i + 1) = (le 2 x).length + 2 * i by rw [le_length]; omega, List.drop_append, List.drop_of_length_le (by omega), List.nil_append, show (le 2 x).length + 2 * i - (le 2 x).length = 2 * i by omega]
      exact ih i t (by simpa using h)
theorem hAt_list {hs : List Nat} (h : hs.length ≤ 60) (hb : ∀ x ∈ hs, x < 65536) {i : Nat} (hi : i < hs.length) : hAt (listB hs) i = hs.getD i 0 := by
  have hx : hs.getD i 0 < 65536 := by
    rw [List.getD_eq_getElem?_getD, List.getElem?_eq_getElem hi]
    exact hb _ (List.getElem_mem hi)
  unfold hAt listB pad listHead
  rw [List.append_assoc, show 2 + 2 * i = (le 2 hs.length).length + 2 * i by rw [le_length], List.drop_append, List.drop_of_length_le (by omega), List.nil_append, show (le 2 hs.length).length + 2 * i - (le 2 hs.length).length = 2 * i by omega, flatMap_drop hs i _ hi, ofLe_le]
  exact Nat.mod_eq_of_lt hx
theorem homesUp_list {hs : List Nat} (h : hs.length ≤ 60) (hb : ∀ x ∈ hs, x < 65536) : ∀ k, k ≤ hs.length → homesUp (listB hs) k = hs.take k := by
  intro k
  induction k with
  | zero => intro _; rfl
  | succ k ih =>
    intro hk
    rw [homesUp_succ, ih (by omega), hAt_list h hb (by omega), List.take_succ_eq_append_getElem (by omega), List.getD_eq_getElem?_getD, List.getElem?_eq_getElem (by omega)]
    rfl
theorem overUp_list {l : SecMap} (h : l.length ≤ 60) (hb : ∀ x ∈ l, x.1 < 65536) (o : SecMap) : ∀ k, k ≤ l.length → overUp o (listB (l.map (·.1))) (l.map (·.2)) k = mcopy o (l.take k) := by
  intro k
  induction k with
  | zero => intro _; rfl
  | succ k ih =>
    intro hk
    rw [overUp_succ, ih (by omega), hAt_list (by simpa using h) (fun x hx => by obtain ⟨y, hy, rfl⟩ := List.mem_map.1 hx; exact hb y hy) (by simp; omega), List.take_succ_eq_append_getElem (by omega)]
    unfold mcopy
    rw [List.foldl_append]
    simp [List.getD_eq_getElem?_getD, List.getElem?_eq_getElem (show k < l.length by omega)]
theorem homeB_small {N : Nat} {L : LogM} (hN : N ≤ 1024) {k : Nat} (h : homeB N L (k : Int) = true) : k < 65536 := by
  unfold homeB at h
  rw [decide_eq_true_eq] at h
  omega
/-- One row is read as what it was made of. -/
theorem rowsM_row {N : Nat} {L : LogM} (hN : N ≤ 1024) {l : SecMap} (h1 : 1 ≤ l.length) (h60 : l.length ≤ 60) (hr : Rising l) (hh : ∀ x ∈ l, homeB N L (x.1 : Int) = true) (o : SecMap) : rowsM N L 1 (rowOf l) o = some (mcopy o l) := by
  have hb : ∀ x ∈ l, x.1 < 65536 := fun x hx => homeB_small hN (hh x hx)
  have hb2 : ∀ x ∈ l.map (·.1), x < 65536 := fun x hx => by obtain ⟨y, hy, rfl⟩ := List.mem_map.1 hx; exact hb y hy
  have hl : (l.map (·.1)).length = l.length := by simp
  have e1 : ofLe ((listB (l.map (·.1))).take 2) = l.length := by rw [list_take2 (by rw [hl]; exact h60), hl]
  unfold rowOf
  simp only [rowsM, e1]
  rw [if_pos]
  · rw [List.drop_of_length_le (by simp), overUp_list h60 hb o _ (Nat.le_refl _), List.take_of_length_le (Nat.le_refl _)]
    simp [rowsM]
  · refine ⟨h1, h60, by simp, ?_, ?_⟩
    · unfold okUp
      rw [List.all_eq_true]
      intro j hj
      have hj := List.mem_range.1 hj
      unfold okAt
      rw [hAt_list (by rw [hl]; exact h60) hb2 (by omega), Bool.and_eq_true]
      have hg : ∀ i, (hi : i < l.length) → (l.map (·.1)).getD i 0 = l[i].1 := fun i hi => by simp [List.getD_eq_getElem?_getD, List.getElem?_eq_getElem hi]
      refine ⟨by rw [hg j hj]; exact hh _ (List.getElem_mem hj), ?_⟩
      rw [Bool.or_eq_true]
      rcases Nat.eq_zero_or_pos j with h0 | h0
      · left; simp [h0]
      · right
        rw [decide_eq_true_eq, hAt_list (by rw [hl]; exact h60) hb2 (by omega), hg j hj, hg (j - 1) (by omega)]
        exact List.pairwise_iff_getElem.1 hr (j - 1) j (by omega) hj (by omega)
    · rw [homesUp_list (by rw [hl]; exact h60) hb2 _ (by rw [hl]; exact Nat.le_refl _), List.take_of_length_le (by rw [hl]; exact Nat.le_refl _)]
theorem mcopy_append (o a b : SecMap) : mcopy o (a ++ b) = mcopy (mcopy o a) b := by unfold mcopy; rw [List.foldl_append]
theorem Rising.sub {m l : SecMap} (h : Rising m) (hs : l.Sublist m) : Rising l := List.Pairwise.sublist hs h
theorem chunkAt_rising {m : SecMap} (h : Rising m) (k : Nat) : Rising (chunkAt m k) := h.sub ((List.take_sublist _ _).trans (List.drop_sublist _ _))
/-- All rows of a commit are read as what was staged. -/
theorem rowsM_rows {N : Nat} {L : LogM} (hN : N ≤ 1024) {m : SecMap} (hr : Rising m) (hh : ∀ x ∈ m, homeB N L (x.1 : Int) = true) (o : SecMap) : ∀ j, j ≤ pieces m.length → rowsM N L j (rowsTo m j) o = some (mcopy o (m.take (60 * j))) := by
  intro j
  induction j with
  | zero => intro _; simp [rowsTo, rowsM, mcopy]
  | succ j ih =>
    intro hj
    have h1 := ih (by omega)
    have hp : 60 * j < m.length := by unfold pieces at hj; omega
    have hc : (chunkAt m j).length = min 60 (m.length - 60 * j) := chunkAt_length m j
    have h2 := rowsM_row (N := N) (L := L) hN (l := chunkAt m j) (by omega) (by omega) (chunkAt_rising hr j) (fun x hx => hh x (chunkAt_mem hx)) (mcopy o (m.take (60 * j)))
    rw [rowsTo_succ]
    have h3 := rowsM_append j _ _ _ h1 1 _ _ h2 (j + 1) (Nat.le_refl _)
    rw [h3, ← mcopy_append]
    congr 2
    unfold chunkAt
    rw [show 60 * (j + 1) = 60 * j + 60 by omega, List.take_add]
theorem rowsM_all {N : Nat} {L : LogM} (hN : N ≤ 1024) {m : SecMap} (hr : Rising m) (hh : ∀ x ∈ m, homeB N L (x.1 : Int) = true) (o : SecMap) : rowsM N L (pieces m.length) (rowsAll m) o = some (mcopy o m) := by
  unfold rowsAll
  rw [rowsM_rows hN hr hh o _ (Nat.le_refl _), List.take_of_length_le (by unfold pieces; omega)]

/-- The control's fields. -/
theorem field_ctl {a n k : Nat} {e u t : Nat} {l r : List UInt8} {v : Nat} (h : ctl e u t = l ++ le n v ++ r) (ha : l.length = a) : field (ctl e u t) a n = v % 256 ^ n := by
  unfold field
  rw [h, List.append_assoc, List.drop_left' ha, List.take_left' (le_length n v), ofLe_le]
theorem ctl_epoch {e u t : Nat} (he : e < 18446744073709551616) : field (ctl e u t) 8 8 = e := by
  rw [field_ctl (k := 0) (a := 8) (l := magicB) (n := 8) (v := e) (r := le 2 u ++ le 8 t ++ le 8 (updAll begin64 (ctlHead e u t)).toNat ++ List.replicate (128 - (ctlHead e u t ++ le 8 (updAll begin64 (ctlHead e u t)).toNat).length) 0) (by unfold ctl pad; simp [ctlHead]) rfl]
  exact Nat.mod_eq_of_lt (by have : (256 : Nat) ^ 8 = 18446744073709551616 := by decide
                             omega)
theorem ctl_used {e u t : Nat} (hu : u < 65536) : field (ctl e u t) 16 2 = u := by
  rw [field_ctl (k := 0) (l := magicB ++ le 8 e) (n := 2) (v := u) (r := le 8 t ++ le 8 (updAll begin64 (ctlHead e u t)).toNat ++ List.replicate (128 - (ctlHead e u t ++ le 8 (updAll begin64 (ctlHead e u t)).toNat).length) 0) (by unfold ctl pad; simp [ctlHead]) (by simp [le_length, magicB])]
  exact Nat.mod_eq_of_lt (by have : (256 : Nat) ^ 2 = 65536 := by decide
                             omega)
theorem ctl_sum {e u t : Nat} (ht : t < 18446744073709551616) : field (ctl e u t) 18 8 = t := by
  rw [field_ctl (k := 0) (l := magicB ++ le 8 e ++ le 2 u) (n := 8) (v := t) (r := le 8 (updAll begin64 (ctlHead e u t)).toNat ++ List.replicate (128 - (ctlHead e u t ++ le 8 (updAll begin64 (ctlHead e u t)).toNat).length) 0) (by unfold ctl pad; simp [ctlHead]) (by simp [le_length, magicB])]
  exact Nat.mod_eq_of_lt (by have : (256 : Nat) ^ 8 = 18446744073709551616 := by decide
                             omega)

/-- The room's sectors. -/
def roomS (S : List (List UInt8)) (base u : Nat) : List (List UInt8) := (List.range u).map fun i => S.getD (base + 1 + i) []
theorem roomS_length (S : List (List UInt8)) (base u : Nat) : (roomS S base u).length = u := by simp [roomS]
theorem roomS_congr {S T : List (List UInt8)} {base u : Nat} (h : ∀ i, i < u → T.getD (base + 1 + i) [] = S.getD (base + 1 + i) []) : roomS T base u = roomS S base u := by
  unfold roomS
  refine List.map_congr_left fun i hi => h i (List.mem_range.1 hi)
theorem roomS_add (S : List (List UInt8)) (base u v : Nat) : roomS S base (u + v) = roomS S base u ++ (List.range v).map fun i => S.getD (base + 1 + u + i) [] := by
  unfold roomS
  rw [List.range_add, List.map_append, List.map_map]
  congr 1
  refine List.map_congr_left fun i _ => ?_
  simp only [Function.comp]
  rw [Nat.add_assoc (base + 1)]
/-- The sectors say what the log has. -/
structure Coded (N : Nat) (L : LogM) (S : List (List UInt8)) : Prop where
  len : S.length = N
  ctl : S.getD L.base [] = ctl L.epoch L.used L.sum
  sum : (updAll begin64 (roomS S L.base L.used).flatten).toNat = L.sum
  rows : rowsM N L L.used (roomS S L.base L.used) [] = some L.over
theorem getD_set_ne {S : List (List UInt8)} {i j : Nat} (h : i ≠ j) (x : List UInt8) : (S.set i x).getD j [] = S.getD j [] := by
  rw [List.getD_eq_getElem?_getD, List.getD_eq_getElem?_getD, List.getElem?_set_ne h]
theorem getD_set_eq {S : List (List UInt8)} {i : Nat} (h : i < S.length) (x : List UInt8) : (S.set i x).getD i [] = x := by
  rw [List.getD_eq_getElem?_getD, List.getElem?_set_self h]; rfl
theorem Coded.set {N : Nat} {L : LogM} {S : List (List UInt8)} (h : Coded N L S) {i : Nat} (hi : i < L.base ∨ L.base + L.used < i) (x : List UInt8) : Coded N L (S.set i x) := by
  have hr : roomS (S.set i x) L.base L.used = roomS S L.base L.used := roomS_congr fun j hj => getD_set_ne (by omega) x
  exact ⟨by simpa using h.len, by rw [getD_set_ne (by omega)]; exact h.ctl, by rw [hr]; exact h.sum, by rw [hr]; exact h.rows⟩
/-- What a home is by log and disk. -/
def told (L : LogM) (S : List (List UInt8)) (k : Nat) : List UInt8 := (mget L.over k).getD (S.getD k [])
theorem val_told (L : LogM) (D : DiskM) (k : Nat) : L.val D k = (mget L.staged k).getD (told L D.now k) := rfl
/-- A log that the sectors say is opened. -/
theorem open_coded {N : Nat} {L : LogM} {D : DiskM} (h : Coded N L D.now) (ho : L.Ok N) (hu : D.up = true) : openR N D L.base L.n = (0, some { L with staged := [], dead := false }) := by
  have hus : L.used < 65536 := by have := ho.used; have := ho.n255; omega
  have e1 := ctl_epoch (e := L.epoch) (u := L.used) (t := L.sum) ho.epoch
  have e2 := ctl_used (e := L.epoch) (t := L.sum) hus
  have e3 := ctl_sum (e := L.epoch) (u := L.used) ho.sum
  have hroom : roomOf D L.base L.used = roomS D.now L.base L.used := rfl
  unfold openR logOf
  rw [if_neg (by simp [hu])]
  simp only [h.ctl, e1, e2, e3]
  rw [if_neg (by have := ho.used; simp; omega), hroom, h.sum, if_neg (by simp)]
  rw [rowsM_congr (L := L) (L' := { base := L.base, n := L.n, epoch := L.epoch, used := L.used, sum := L.sum, over := [], staged := [], dead := false }) rfl rfl, h.rows]
end Go.Proofs.Ytmhgahkainmbkaa
