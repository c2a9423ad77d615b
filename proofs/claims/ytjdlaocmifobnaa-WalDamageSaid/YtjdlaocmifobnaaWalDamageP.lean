/- Plain: one byte changed of what a log leans on is seen; of any other place of the log it changes nothing. -/
import Derived.Test.YtjdlaocmifobnaaWalKeepsW
namespace Go.Proofs.Ytjdlaocmifobnaa
open Go.RowKit
set_option linter.unusedVariables false
set_option linter.unusedSimpArgs false

/-- A control, of its first bytes. -/
def ctlOf (h : List UInt8) : List UInt8 := pad (h ++ le 8 (updAll begin64 h).toNat)
theorem ctl_of (e u t : Nat) : ctl e u t = ctlOf (ctlHead e u t) := rfl
theorem ctlOf_take {h : List UInt8} (hl : h.length = 26) : (ctlOf h).take 26 = h := by
  unfold ctlOf pad
  rw [List.append_assoc, List.take_left' hl]
theorem ctlOf_sum {h : List UInt8} (hl : h.length = 26) : ((ctlOf h).drop 26).take 8 = le 8 (updAll begin64 h).toNat := by
  unfold ctlOf pad
  rw [List.append_assoc, List.drop_left' hl, List.take_left' (le_length 8 _)]
/-- A control with one byte changed is none. -/
theorem ctl_seen {e u t e2 u2 t2 j : Nat} {v : UInt8} (hj : j < 128) (hv : v ≠ (ctl e u t).getD j 0) : (ctl e u t).set j v ≠ ctl e2 u2 t2 := by
  intro h
  have hl1 := ctlHead_length e u t
  have hl2 := ctlHead_length e2 u2 t2
  have hlen := ctl_length e u t
  rw [ctl_of e2 u2 t2] at h
  have h1 := congrArg (List.take 26) h
  have h2 := congrArg (fun l => (List.drop 26 l).take 8) h
  rw [ctlOf_take hl2] at h1
  rw [ctlOf_sum hl2] at h2
  rcases Nat.lt_or_ge j 26 with h26 | h26
  · rw [List.drop_set_of_lt h26, ctl_of, ctlOf_sum hl1] at h2
    rw [List.take_set, ctl_of, ctlOf_take hl1] at h1
    have h3 := le_inj (by have := u64_lt (updAll begin64 (ctlHead e u t)); have h8 : (256 : Nat) ^ 8 = 18446744073709551616 := by decide
                          omega) (by have := u64_lt (updAll begin64 (ctlHead e2 u2 t2)); have h8 : (256 : Nat) ^ 8 = 18446744073709551616 := by decide
                                     omega) h2
    have h4 : updAll begin64 (ctlHead e u t) = updAll begin64 (ctlHead e2 u2 t2) := UInt64.toNat_inj.1 h3
    rw [← h1] at h4
    have hg : (ctl e u t).getD j 0 = (ctlHead e u t)[j]'(by omega) := by
      have h5 : (ctl e u t).getD j 0 = ((ctl e u t).take 26).getD j 0 := by
        rw [List.getD_eq_getElem?_getD, List.getD_eq_getElem?_getD, List.getElem?_take_of_lt h26]
      rw [h5, ctl_of, ctlOf_take hl1, List.getD_eq_getElem?_getD, List.getElem?_eq_getElem (by omega)]
      rfl
    rw [hg] at hv
    exact updAll_seen begin64 _ j v (by omega) hv h4.symm
  · rw [List.take_set_of_le h26, ctl_of, ctlOf_take hl1] at h1
    rw [← h1, ← ctl_of] at h
    have h5 := congrArg (fun l => l.getD j 0) h
    rw [List.getD_eq_getElem?_getD, List.getElem?_set_self (by omega)] at h5
    exact hv h5
theorem flatten_set {l : List (List UInt8)} (h : Sectors l) : ∀ {i j : Nat} {v : UInt8}, i < l.length → j < 128 → (l.set i ((l.getD i []).set j v)).flatten = l.flatten.set (i * 128 + j) v := by
  induction l with
  | nil => intro i j v hi; simp at hi
  | cons s l ih =>
    intro i j v hi hj
    have hs := h s List.mem_cons_self
    cases i with
    | zero =>
      simp only [List.set_cons_zero, List.flatten_cons, Nat.zero_mul, Nat.zero_add]
      rw [List.set_append_left _ _ (by omega)]
      rfl
    | succ i =>
      simp only [List.set_cons_succ, List.flatten_cons]
      rw [show (s :: l).getD (i + 1) [] = l.getD i [] from rfl, ih (fun x hx => h x (List.mem_cons_of_mem _ hx)) (by simpa using hi) hj, List.set_append_right _ _ (by omega), hs, show (i + 1) * 128 + j - 128 = i * 128 + j by omega]
theorem roomS_sectors {S : List (List UInt8)} (h : Sectors S) {base u : Nat} (hu : base + u < S.length) : Sectors (roomS S base u) := by
  intro s hs
  obtain ⟨i, hi, rfl⟩ := List.mem_map.1 hs
  have hi := List.mem_range.1 hi
  rw [List.getD_eq_getElem?_getD, List.getElem?_eq_getElem (by omega)]
  exact h _ (List.getElem_mem _)
theorem roomS_set {S : List (List UInt8)} {base u i : Nat} (hi : i < u) (hu : base + u < S.length) (x : List UInt8) : roomS (S.set (base + 1 + i) x) base u = (roomS S base u).set i x := by
  apply List.ext_getElem?
  intro j
  rcases Nat.lt_or_ge j u with hj | hj
  · by_cases hij : i = j
    · subst hij
      rw [List.getElem?_set_self (by rw [roomS_length]; exact hi)]
      unfold roomS
      rw [List.getElem?_map, List.getElem?_range hi, Option.map_some, getD_set_eq (by omega)]
    · rw [List.getElem?_set_ne hij]
      unfold roomS
      rw [List.getElem?_map, List.getElem?_map, List.getElem?_range hj, Option.map_some, Option.map_some, getD_set_ne (by omega)]
  · rw [List.getElem?_eq_none (by rw [roomS_length]; exact hj), List.getElem?_eq_none (by rw [List.length_set, roomS_length]; exact hj)]
/-- One byte of the control, or of a used place, changed. -/
theorem open_seen {N : Nat} {L : LogM} {D : DiskM} {S : List (List UInt8)} (h : Coded N L S) (ho : L.Ok N) (hb : L.base = 0) (hS : Sectors S) {i j : Nat} (hi : i ≤ L.used) (hj : j < 128) {v : UInt8} (hv : v ≠ (S.getD i []).getD j 0)
    (hu : D.up = true) (hn : D.now = S.set i ((S.getD i []).set j v)) : openR N D L.base L.n = (46, none) := by
  have hlen := h.len
  have hus := ho.used
  have hfits := ho.fits
  have hus2 : L.used < 65536 := by have := ho.n255; omega
  unfold openR
  rw [if_neg (by simp [hu])]
  rcases Nat.eq_zero_or_pos i with h0 | h0
  · subst h0
    rw [if_pos]
    left
    rw [hn, hb, getD_set_eq (by omega)]
    have hc := h.ctl
    rw [hb] at hc
    rw [hc] at hv ⊢
    exact ctl_seen hj hv
  · obtain ⟨q, rfl⟩ : ∃ q, i = L.base + 1 + q := ⟨i - 1, by omega⟩
    have hc : D.now.getD L.base [] = ctl L.epoch L.used L.sum := by rw [hn, getD_set_ne (by omega)]; exact h.ctl
    have e1 := ctl_epoch (e := L.epoch) (u := L.used) (t := L.sum) ho.epoch
    have e2 := ctl_used (e := L.epoch) (t := L.sum) hus2
    have e3 := ctl_sum (e := L.epoch) (u := L.used) ho.sum
    simp only [hc, e1, e2, e3]
    rw [if_neg (by simp; omega), if_pos]
    unfold logOf
    show ¬ (updAll begin64 (roomS D.now L.base L.used).flatten).toNat = L.sum
    have hq : q < L.used := by omega
    have hg : (S.getD (L.base + 1 + q) []) = (roomS S L.base L.used).getD q [] := by
      unfold roomS
      rw [List.getD_eq_getElem?_getD (l := List.map _ _), List.getElem?_map, List.getElem?_range hq]
      rfl
    have hsec := roomS_sectors hS (base := L.base) (u := L.used) (by omega)
    rw [hn, roomS_set hq (by omega), hg, flatten_set hsec (by rw [roomS_length]; exact hq) hj, ← h.sum]
    intro he
    have hfl : (roomS S L.base L.used).flatten.length = L.used * 128 := by
      have : ∀ l : List (List UInt8), Sectors l → l.flatten.length = l.length * 128 := fun l hl => img_length hl
      rw [this _ hsec, roomS_length]
    have hin : q * 128 + j < (roomS S L.base L.used).flatten.length := by rw [hfl]; omega
    refine updAll_seen begin64 _ (q * 128 + j) v hin ?_ (UInt64.toNat_inj.1 he)
    intro hve
    apply hv
    rw [hg, hve]
    have hl128 : ((roomS S L.base L.used).getD q []).length = 128 := by
      rw [List.getD_eq_getElem?_getD, List.getElem?_eq_getElem (by rw [roomS_length]; exact hq)]
      exact hsec _ (List.getElem_mem _)
    have hset := flatten_set hsec (i := q) (j := j) (v := ((roomS S L.base L.used).getD q []).getD j 0) (by rw [roomS_length]; exact hq) hj
    have hself : ((roomS S L.base L.used).getD q []).set j (((roomS S L.base L.used).getD q []).getD j 0) = (roomS S L.base L.used).getD q [] := by
      generalize (roomS S L.base L.used).getD q [] = r at hl128
      rw [List.getD_eq_getElem?_getD, List.getElem?_eq_getElem (by omega)]
      exact List.set_getElem_self _
    rw [hself] at hset
    have hself2 : (roomS S L.base L.used).set q ((roomS S L.base L.used).getD q []) = roomS S L.base L.used := by
      rw [List.getD_eq_getElem?_getD, List.getElem?_eq_getElem (by rw [roomS_length]; exact hq)]
      exact List.set_getElem_self _
    rw [hself2] at hset
    have h9 := congrArg (fun l => l[q * 128 + j]?) hset
    rw [List.getElem?_set_self hin, List.getElem?_eq_getElem hin] at h9
    injection h9
end Go.Proofs.Ytjdlaocmifobnaa
