/- Plain: a disk on which whatever is loose does no harm, through writes, flushes and losses of power; Home and Commit of a log on it. -/
import Derived.Test.YtmhgahkainmbkaaWalLawA
namespace Go.Proofs.Ytmhgahkainmbkaa
open Go.RowKit
set_option linter.unusedVariables false
set_option linter.unusedSimpArgs false

/-- Whatever of the loose writes is kept, P holds. -/
structure DG (N : Nat) (P : List (List UInt8) → Prop) (D : DiskM) : Prop where
  ok : D.Ok N
  true_ : D.True
  up : D.up = true
  safe : P D.safe
  loose : ∀ x ∈ D.loose, ∀ S, P S → P (S.set x.1 x.2)
/-- Without power. -/
structure DOff (N : Nat) (P : List (List UInt8) → Prop) (D : DiskM) : Prop where
  ok : D.Ok N
  up : D.up = false
  loose : D.loose = []
  same : D.now = D.safe
  safe : P D.safe
  armed : D.armed = false
/-- With power, nothing loose. -/
structure Rest (N : Nat) (D : DiskM) : Prop where
  ok : D.Ok N
  up : D.up = true
  loose : D.loose = []
  same : D.safe = D.now
section
variable {N : Nat} {P Q : List (List UInt8) → Prop} {D : DiskM}
theorem allDone_P (l : List (Nat × List UInt8)) : ∀ S, P S → (∀ x ∈ l, ∀ S, P S → P (S.set x.1 x.2)) → P (allDone l S) := by
  induction l with
  | nil => intro S h _; exact h
  | cons x l ih => intro S h hl; exact ih _ (hl x List.mem_cons_self S h) (fun y hy => hl y (List.mem_cons_of_mem _ hy))
theorem crashed_P (k : UInt64) (l : List (Nat × List UInt8)) (S : List (List UInt8)) (h : P S) (hl : ∀ x ∈ l, ∀ S, P S → P (S.set x.1 x.2)) : P (crashed k l S) := by
  have key : ∀ (l : List (Nat × List UInt8)) (j : Nat) (S : List (List UInt8)), P S → (∀ x ∈ l, ∀ S, P S → P (S.set x.1 x.2)) → P ((l.zipIdx j).foldl (fun S x => if keeps k x.2 then S.set x.1.1 x.1.2 else S) S) := by
    intro l
    induction l with
    | nil => intro j S h _; exact h
    | cons x l ih =>
      intro j S h hl
      rw [List.zipIdx_cons, List.foldl_cons]
      refine ih _ _ ?_ (fun y hy => hl y (List.mem_cons_of_mem _ hy))
      split
      · exact hl x List.mem_cons_self S h
      · exact h
  exact key l 0 S h hl
theorem DG.crash (h : DG N P D) (k : UInt64) : DOff N P (D.crash k) := by
  have ho := h.ok.crash k
  unfold DiskM.crash at ho ⊢
  rw [if_neg (by simp [h.up])] at ho ⊢
  exact ⟨ho, rfl, rfl, rfl, crashed_P k _ _ h.safe h.loose, rfl⟩
theorem DG.now (h : DG N P D) : P D.now := by
  have := h.true_
  unfold DiskM.True at this
  rw [this]
  exact allDone_P _ _ h.safe h.loose
theorem DOff.mono (h : DOff N P D) (hq : ∀ S, S.length = N → P S → Q S) : DOff N Q D := ⟨h.ok, h.up, h.loose, h.same, hq _ h.ok.safeLen h.safe, h.armed⟩
theorem DG.write (h : DG N P D) {i : Nat} (hi : i < N) {x : List UInt8} (hx : x.length = 128) (hh : ∀ S, P S → P (S.set i x)) :
    (D.writeE N (i : Int) x = 0 ∧ DG N P (D.write N (i : Int) x) ∧ (D.write N (i : Int) x).now = D.now.set i x ∧ (D.write N (i : Int) x).armed = D.armed) ∨
    (D.writeE N (i : Int) x = 41 ∧ D.armed = true ∧ DOff N P (D.write N (i : Int) x)) := by
  have ht := write_true h.true_ N (i : Int) x
  have ho := write_ok h.ok (i : Int) x
  have hm : D.mayE N (i : Int) = 0 := by unfold DiskM.mayE; rw [if_neg (by simp [h.up]), if_pos (by omega)]
  have hE : D.writeE N (i : Int) x = if D.fails then 41 else 0 := by unfold DiskM.writeE; rw [if_neg (by rw [hm]; simp), if_neg (by simp [hx])]
  have hW : D.write N (i : Int) x = if D.fails then D.crash D.keep else { D.deed with now := D.now.set (i : Int).toNat x, loose := D.loose ++ [((i : Int).toNat, x)] } := by unfold DiskM.write; rw [if_neg (by rw [hm]; simp), if_neg (by simp [hx])]
  rw [hW] at ht ho
  rw [hE, hW]
  cases hf : D.fails with
  | true =>
    right
    rw [if_pos rfl, if_pos rfl]
    refine ⟨rfl, ?_, h.crash _⟩
    unfold DiskM.fails at hf
    rw [Bool.and_eq_true] at hf
    exact hf.1
  | false =>
    left
    rw [hf, if_neg (by simp)] at ht ho
    rw [if_neg (by simp), if_neg (by simp)]
    refine ⟨rfl, ⟨ho, ht, h.up, h.safe, fun y hy => ?_⟩, rfl, rfl⟩
    rcases List.mem_append.1 hy with hy | hy
    · exact h.loose y hy
    · rw [List.mem_singleton] at hy
      subst hy
      exact hh
theorem DG.flush (h : DG N P D) :
    (D.flushE = 0 ∧ Rest N D.flush ∧ D.flush.now = D.now ∧ D.flush.armed = D.armed) ∨ (D.flushE = 41 ∧ D.armed = true ∧ DOff N P D.flush) := by
  unfold DiskM.flushE
  cases hf : D.fails with
  | true =>
    right
    rw [if_neg (by simp [h.up]), if_pos rfl]
    refine ⟨rfl, ?_, ?_⟩
    · unfold DiskM.fails at hf
      rw [Bool.and_eq_true] at hf
      exact hf.1
    · unfold DiskM.flush
      rw [if_neg (by simp [h.up]), hf, if_pos rfl]
      exact h.crash _
  | false =>
    left
    rw [if_neg (by simp [h.up]), if_neg (by simp)]
    have e : D.flush = { D.deed with safe := D.now, loose := [] } := by
      unfold DiskM.flush
      rw [if_neg (by simp [h.up]), hf, if_neg (by simp), flushed_now h.ok h.true_]
    rw [e]
    exact ⟨rfl, ⟨⟨h.ok.pos, h.ok.most, h.ok.nowLen, h.ok.nowLen, h.ok.now, h.ok.now, fun x hx => by cases hx⟩, h.up, rfl, rfl⟩, rfl, rfl⟩
theorem Rest.dg (h : Rest N D) (hp : P D.now) : DG N P D := ⟨h.ok, by unfold DiskM.True; rw [h.loose]; exact h.same.symm, h.up, by rw [h.same]; exact hp, fun x hx => by rw [h.loose] at hx; cases hx⟩
theorem Rest.off (h : Rest N D) (hp : P D.now) (k : UInt64) : DOff N P (D.crash k) := (h.dg hp).crash k

/-- Rows set one behind the other. -/
def setsFrom : Nat → List (List UInt8) → List (List UInt8) → List (List UInt8)
  | _, [], S => S
  | i, x :: l, S => setsFrom (i + 1) l (S.set i x)
theorem setsFrom_length : ∀ (l : List (List UInt8)) (i : Nat) (S : List (List UInt8)), (setsFrom i l S).length = S.length
  | [], _, _ => rfl
  | x :: l, i, S => by rw [setsFrom, setsFrom_length l]; simp
theorem setsFrom_out : ∀ (l : List (List UInt8)) (i : Nat) (S : List (List UInt8)) (j : Nat), (j < i ∨ i + l.length ≤ j) → (setsFrom i l S).getD j [] = S.getD j []
  | [], _, _, _, _ => rfl
  | x :: l, i, S, j, h => by
    rw [List.length_cons] at h
    rw [setsFrom, setsFrom_out l (i + 1) _ j (by omega), getD_set_ne (by omega)]
theorem setsFrom_in : ∀ (l : List (List UInt8)) (i : Nat) (S : List (List UInt8)) (j : Nat), j < l.length → i + l.length ≤ S.length → (setsFrom i l S).getD (i + j) [] = l.getD j []
  | [], _, _, _, h, _ => by simp at h
  | x :: l, i, S, j, h, hs => by
    rw [List.length_cons] at h hs
    rw [setsFrom]
    cases j with
    | zero => show (setsFrom (i + 1) l (S.set i x)).getD i [] = x; rw [setsFrom_out l (i + 1) _ i (by omega), getD_set_eq (by omega)]
    | succ j => rw [show i + (j + 1) = i + 1 + j by omega, setsFrom_in l (i + 1) _ j (by omega) (by simp; omega)]; rfl
theorem DG.puts : ∀ (l : List (List UInt8)) (i : Nat) (D : DiskM), DG N P D → Sectors l → i + l.length ≤ N → (∀ j, i ≤ j → j < i + l.length → ∀ x S, P S → P (S.set j x)) →
    ((putsR N i l D).1 = 0 ∧ DG N P (putsR N i l D).2 ∧ (putsR N i l D).2.now = setsFrom i l D.now ∧ (putsR N i l D).2.armed = D.armed) ∨ ((putsR N i l D).1 = 41 ∧ D.armed = true ∧ DOff N P (putsR N i l D).2)
  | [], i, D, h, _, _, _ => .inl ⟨rfl, h, rfl, rfl⟩
  | x :: l, i, D, h, hs, hl, hh => by
    rw [List.length_cons] at hl hh
    unfold putsR
    rcases h.write (i := i) (x := x) (by omega) (hs x List.mem_cons_self) (hh i (Nat.le_refl _) (by omega) x) with ⟨e, hg, hn, ha⟩ | ⟨e, ha, hf⟩
    · rw [if_neg (by simp [e])]
      rcases DG.puts l (i + 1) _ hg (fun s hm => hs s (List.mem_cons_of_mem _ hm)) (by omega) (fun j h1 h2 => hh j (by omega) (by omega)) with ⟨e2, hg2, hn2, ha2⟩ | ⟨e2, ha2, hf2⟩
      · exact .inl ⟨e2, hg2, by rw [hn2, hn]; rfl, ha2.trans ha⟩
      · exact .inr ⟨e2, ha.symm.trans ha2, hf2⟩
    · rw [if_pos (by simp [e])]
      exact .inr ⟨e, ha, hf⟩
theorem DG.writes : ∀ (m : SecMap) (D : DiskM), DG N P D → (∀ x ∈ m, x.1 < N ∧ x.2.length = 128 ∧ ∀ S, P S → P (S.set x.1 x.2)) →
    ((writesR N m D).1 = 0 ∧ DG N P (writesR N m D).2 ∧ (writesR N m D).2.now = allDone m D.now ∧ (writesR N m D).2.armed = D.armed) ∨ ((writesR N m D).1 = 41 ∧ D.armed = true ∧ DOff N P (writesR N m D).2)
  | [], D, h, _ => .inl ⟨rfl, h, rfl, rfl⟩
  | x :: m, D, h, hh => by
    have hx := hh x List.mem_cons_self
    unfold writesR
    rcases h.write (i := x.1) (x := x.2) hx.1 hx.2.1 hx.2.2 with ⟨e, hg, hn, ha⟩ | ⟨e, ha, hf⟩
    · rw [if_neg (by simp [e])]
      rcases DG.writes m _ hg (fun y hy => hh y (List.mem_cons_of_mem _ hy)) with ⟨e2, hg2, hn2, ha2⟩ | ⟨e2, ha2, hf2⟩
      · exact .inl ⟨e2, hg2, by rw [hn2, hn]; rfl, ha2.trans ha⟩
      · exact .inr ⟨e2, ha.symm.trans ha2, hf2⟩
    · rw [if_pos (by simp [e])]
      exact .inr ⟨e, ha, hf⟩
/-- The control is written, between two flushes. -/
theorem DG.mark (h : DG N P D) (L : LogM) (hb : L.base < N) (e u t : Nat) (hQ : Q (D.now.set L.base (ctl e u t))) :
    ((markR N L D e u t).1 = 0 ∧ (markR N L D e u t).2.1 = { L with epoch := e, used := u, sum := t } ∧ Rest N (markR N L D e u t).2.2 ∧ (markR N L D e u t).2.2.now = D.now.set L.base (ctl e u t) ∧ (markR N L D e u t).2.2.armed = D.armed) ∨
    ((markR N L D e u t).1 = 41 ∧ D.armed = true ∧ (markR N L D e u t).2.1.dead = true ∧ DOff N (fun S => P S ∨ Q S) (markR N L D e u t).2.2) := by
  have hp := h.now
  unfold markR
  rcases h.flush with ⟨e1, hr, hn, ha⟩ | ⟨e1, ha, hf⟩
  · rw [if_neg (by simp [e1])]
    have h2 : DG N (fun S => S = D.now ∨ S = D.now.set L.base (ctl e u t)) D.flush := hr.dg (by rw [hn]; exact .inl rfl)
    have hPQ : ∀ S, S.length = N → (S = D.now ∨ S = D.now.set L.base (ctl e u t)) → P S ∨ Q S := fun S _ hS => by
      rcases hS with rfl | rfl
      · exact .inl hp
      · exact .inr hQ
    rcases h2.write hb (ctl_length e u t) (fun S hS => by
      rcases hS with rfl | rfl
      · exact .inr rfl
      · exact .inr (by rw [List.set_set])) with ⟨e2, hg2, hn2, ha2⟩ | ⟨e2, ha2, hf2⟩
    · rw [if_neg (by simp [e2])]
      rcases hg2.flush with ⟨e3, hr3, hn3, ha3⟩ | ⟨e3, ha3, hf3⟩
      · rw [if_neg (by simp [e3])]
        exact .inl ⟨rfl, rfl, hr3, by rw [hn3, hn2, hn], by rw [ha3, ha2, ha]⟩
      · rw [if_pos (by simp [e3]), e3]
        exact .inr ⟨rfl, by rw [← ha, ← ha2]; exact ha3, by simp [LogM.ends], hf3.mono hPQ⟩
    · rw [if_pos (by simp [e2]), e2]
      exact .inr ⟨rfl, ha.symm.trans ha2, by simp [LogM.ends], hf2.mono hPQ⟩
  · rw [if_pos (by simp [e1]), e1]
    exact .inr ⟨rfl, ha, by simp [LogM.ends], hf.mono (fun S _ hS => .inl hS)⟩
end

/-- The sectors tell f, by the log that stands there. -/
def Tells (N b n : Nat) (f : Nat → List UInt8) (S : List (List UInt8)) : Prop :=
  ∃ L : LogM, L.Ok N ∧ L.base = b ∧ L.n = n ∧ Rising L.over ∧ HomeMap N L L.over ∧ Coded N L S ∧ ∀ k : Nat, homeB N L (k : Int) = true → told L S k = f k
/-- A log that is alive, over a disk at rest. -/
structure LInv (N : Nat) (L : LogM) (D : DiskM) : Prop where
  ok : L.Ok N
  alive : L.dead = false
  rest : Rest N D
  coded : Coded N L D.now
  over : Rising L.over
  staged : Rising L.staged
  overOk : HomeMap N L L.over
  stagedOk : HomeMap N L L.staged
  cost : costN L.staged.length < L.n
section
variable {N : Nat} {L : LogM} {D : DiskM}
theorem home_far {k : Nat} (h : homeB N L (k : Int) = true) (ho : L.Ok N) : k < N ∧ (k < L.base ∨ L.base + L.n ≤ k) := by
  unfold homeB at h
  rw [decide_eq_true_eq] at h
  omega
theorem LInv.tells (h : LInv N L D) : Tells N L.base L.n (told L D.now) D.now := ⟨L, h.ok, rfl, rfl, h.over, h.overOk, h.coded, fun _ _ => rfl⟩
theorem Tells.mono {b n : Nat} {f g : Nat → List UInt8} {S : List (List UInt8)} (h : Tells N b n f S) (hfg : ∀ L : LogM, L.base = b → L.n = n → ∀ k : Nat, homeB N L (k : Int) = true → f k = g k) : Tells N b n g S := by
  obtain ⟨M, h1, h2, h3, h4, h5, h6, h7⟩ := h
  exact ⟨M, h1, h2, h3, h4, h5, h6, fun k hk => (h7 k hk).trans (hfg M h2 h3 k hk)⟩
/-- What a room's places beyond the used ones, and homes that stand in the room, may turn to does no harm. -/
theorem free_set (ho : L.Ok N) (hov : Rising L.over) {f : Nat → List UInt8} {i : Nat} {x : List UInt8} (hi : (L.base + L.used < i ∧ i < L.base + L.n) ∨ (homeB N L (i : Int) = true ∧ (mget L.over i).isSome)) :
    ∀ S, (Coded N L S ∧ ∀ k : Nat, homeB N L (k : Int) = true → told L S k = f k) → (Coded N L (S.set i x) ∧ ∀ k : Nat, homeB N L (k : Int) = true → told L (S.set i x) k = f k) := by
  rintro S ⟨hc, hf⟩
  have hu := ho.used
  refine ⟨hc.set (by
    rcases hi with h | ⟨h, _⟩
    · omega
    · have := home_far h ho; omega) x, fun k hk => ?_⟩
  rw [← hf k hk]
  unfold told
  cases hm : mget L.over k with
  | some v => rfl
  | none =>
    have hne : i ≠ k := by
      rcases hi with h | ⟨h, h2⟩
      · have := home_far hk ho; omega
      · rintro rfl; rw [hm] at h2; cases h2
    rw [getD_set_ne hne]
theorem coded_zero {S : List (List UInt8)} (h : Coded N L S) (hu : L.used = 0) : L.over = [] := by
  have := h.rows
  rw [hu] at this
  simp only [roomS, List.range_zero, List.map_nil, rowsM] at this
  injection this with this
  exact this.symm
theorem allDone_get (m : SecMap) (hr : Rising m) : ∀ (S : List (List UInt8)) (k : Nat), (∀ x ∈ m, x.1 < S.length) → (allDone m S).getD k [] = (mget m k).getD (S.getD k []) := by
  induction m with
  | nil => intro S k _; rfl
  | cons x m ih =>
    intro S k hS
    obtain ⟨a, v⟩ := x
    show (allDone m (S.set a v)).getD k [] = _
    rw [ih hr.tail _ _ (fun y hy => by rw [List.length_set]; exact hS y (List.mem_cons_of_mem _ hy))]
    have e : mget ((a, v) :: m) k = if k = a then some v else mget m k := rfl
    rw [e]
    by_cases hk : k = a
    · subst hk
      have hn : mget m k = none := mget_none.2 fun y hy => by have := hr.head y hy; simp only at this; omega
      rw [hn, if_pos rfl, getD_set_eq (hS _ List.mem_cons_self)]
      rfl
    · rw [if_neg hk, getD_set_ne (fun e => hk e.symm)]
/-- Home of a log that is alive: all is at home, and is told as ahead; or power failed, and it's told as ahead. -/
theorem home_plain (h : LInv N L D) :
    ((homeR N L D).1 = 0 ∧ LInv N (homeR N L D).2.1 (homeR N L D).2.2 ∧ (homeR N L D).2.1.base = L.base ∧ (homeR N L D).2.1.n = L.n ∧ (homeR N L D).2.1.staged = L.staged ∧ (homeR N L D).2.1.used = 0 ∧ (homeR N L D).2.1.over = [] ∧
      (∀ k : Nat, homeB N L (k : Int) = true → (homeR N L D).2.2.now.getD k [] = told L D.now k) ∧ (homeR N L D).2.2.armed = D.armed) ∨
    ((homeR N L D).1 = 41 ∧ D.armed = true ∧ (homeR N L D).2.1.dead = true ∧ DOff N (Tells N L.base L.n (told L D.now)) (homeR N L D).2.2) := by
  unfold homeR
  rw [if_neg (by simp [h.alive])]
  by_cases hu : L.used = 0
  · rw [if_pos hu]
    have ho := coded_zero h.coded hu
    refine .inl ⟨rfl, h, rfl, rfl, rfl, hu, ho, fun k _ => ?_, rfl⟩
    unfold told
    rw [ho]
    rfl
  · rw [if_neg hu]
    have h0 : DG N (fun S => Coded N L S ∧ ∀ k : Nat, homeB N L (k : Int) = true → told L S k = told L D.now k) D := h.rest.dg ⟨h.coded, fun _ _ => rfl⟩
    have hP : ∀ S, S.length = N → (Coded N L S ∧ ∀ k : Nat, homeB N L (k : Int) = true → told L S k = told L D.now k) → Tells N L.base L.n (told L D.now) S := fun S _ hS => ⟨L, h.ok, rfl, rfl, h.over, h.overOk, hS.1, hS.2⟩
    have hb : L.base < N := by have := h.ok.fits; have := h.ok.n4; omega
    rcases h0.writes L.over D (fun x hx => by
      have := h.overOk x hx
      exact ⟨(home_far this.1 h.ok).1, this.2, free_set h.ok h.over (.inr ⟨this.1, by rw [(mget_some h.over).2 hx]; rfl⟩)⟩) with ⟨e1, hg1, hn1, ha1⟩ | ⟨e1, ha1, hf1⟩
    · rw [if_neg (by simp [e1])]
      have hlen : D.now.length = N := h.rest.ok.nowLen
      have hov : ∀ x ∈ L.over, x.1 < D.now.length := fun x hx => by rw [hlen]; exact (home_far (h.overOk x hx).1 h.ok).1
      obtain ⟨e', he'⟩ : ∃ e', e' = (L.epoch + 1) % 18446744073709551616 := ⟨_, rfl⟩
      rw [← he']
      obtain ⟨M, hM⟩ : ∃ M : LogM, M = { L with epoch := e', used := 0, sum := begin64.toNat, over := [] } := ⟨_, rfl⟩
      have hMo : M.Ok N := by rw [hM]; exact ⟨h.ok.most, h.ok.n4, h.ok.n255, h.ok.fits, by simp only; omega, by have := h.ok.n4; simp only; omega, UInt64.toNat_lt _⟩
      have hMc : Coded N M (((writesR N L.over D).2.now).set L.base (ctl e' 0 begin64.toNat)) := by
        rw [hM, hn1]
        refine ⟨by rw [List.length_set, allDone_length]; exact hlen, ?_, by simp [roomS, updAll], rfl⟩
        rw [getD_set_eq (by rw [allDone_length]; omega)]
      have hMt : ∀ k : Nat, homeB N L (k : Int) = true → (((writesR N L.over D).2.now).set L.base (ctl e' 0 begin64.toNat)).getD k [] = told L D.now k := fun k hk => by
        have := home_far hk h.ok
        have := h.ok.n4
        rw [getD_set_ne (by omega), hn1, allDone_get L.over h.over _ _ hov]
        rfl
      have hbn : M.base = L.base ∧ M.n = L.n := by rw [hM]; exact ⟨rfl, rfl⟩
      have hMov : M.over = [] := by rw [hM]
      rcases hg1.mark L hb e' 0 begin64.toNat (Q := Tells N L.base L.n (told L D.now)) ⟨M, hMo, hbn.1, hbn.2, by rw [hMov]; exact List.Pairwise.nil, by rw [hMov]; exact (fun x hx => by cases hx), hMc, fun k hk => by
        unfold told
        rw [hMov]
        exact hMt k (by rw [← homeB_congr hbn.1 hbn.2]; exact hk)⟩ with ⟨e2, hl2, hr2, hn2, ha2⟩ | ⟨e2, ha2, hd2, hf2⟩
      · left
        have hML : { (markR N L (writesR N L.over D).2 e' 0 begin64.toNat).2.1 with over := [] } = M := by rw [hl2, hM]
        have hce : clearR (markR N L (writesR N L.over D).2 e' 0 begin64.toNat) = (0, M, (markR N L (writesR N L.over D).2 e' 0 begin64.toNat).2.2) := by unfold clearR; rw [if_neg (by simp [e2]), hML]
        rw [hce]
        refine ⟨rfl, ⟨hMo, by rw [hM]; exact h.alive, hr2, by rw [hn2]; exact hMc, by rw [hMov]; exact List.Pairwise.nil, by rw [hM]; exact h.staged, by rw [hMov]; exact (fun x hx => by cases hx), by rw [hM]; exact h.stagedOk.congr rfl rfl, by rw [hM]; exact h.cost⟩, hbn.1, hbn.2, by rw [hM], by rw [hM], hMov, ?_, by rw [ha2, ha1]⟩
        intro k hk
        rw [hn2]
        exact hMt k hk
      · right
        unfold clearR
        rw [if_pos (by simp [e2]), e2]
        exact ⟨rfl, ha1.symm.trans ha2, hd2, hf2.mono (fun S hl hS => hS.elim (hP S hl) id)⟩
    · rw [if_pos (by simp [e1]), e1]
      exact .inr ⟨rfl, ha1, by simp [LogM.ends], hf1.mono hP⟩
theorem getD_drop {S : List (List UInt8)} (a k : Nat) : (S.drop a).getD k [] = S.getD (a + k) [] := by rw [List.getD_eq_getElem?_getD, List.getD_eq_getElem?_getD, List.getElem?_drop]
theorem rows_in (S rows : List (List UInt8)) (i v : Nat) (hv : v = rows.length) (h : i + rows.length ≤ S.length) : ((List.range v).map fun j => (setsFrom i rows S).getD (i + j) []) = rows := by
  subst hv
  apply List.ext_getElem?
  intro j
  rcases Nat.lt_or_ge j rows.length with hj | hj
  · rw [List.getElem?_map, List.getElem?_range hj, Option.map_some, setsFrom_in rows i S j hj h, List.getD_eq_getElem?_getD, List.getElem?_eq_getElem hj]
    rfl
  · rw [List.getElem?_eq_none (by simpa using hj), List.getElem?_eq_none hj]
theorem told_copy {M : LogM} {S T : List (List UInt8)} {m : SecMap} (ho : Rising L.over) (hm : Rising m) (hov : M.over = mcopy L.over m) {k : Nat} (hk : T.getD k [] = S.getD k []) : told M T k = (mget m k).getD (told L S k) := by
  unfold told
  rw [hov, mget_copy ho hm, hk]
  cases mget m k <;> rfl
/-- Commit where there is room. -/
theorem commitM_plain (h : LInv N L D) (hfit : L.used + costN L.staged.length < L.n) :
    ((commitM N L D).1 = 0 ∧ LInv N (commitM N L D).2.1 (commitM N L D).2.2 ∧ (commitM N L D).2.1.base = L.base ∧ (commitM N L D).2.1.n = L.n ∧ (commitM N L D).2.1.staged = [] ∧ (commitM N L D).2.1.used = L.used + costN L.staged.length ∧
      (∀ k : Nat, homeB N L (k : Int) = true → told (commitM N L D).2.1 (commitM N L D).2.2.now k = L.val D k) ∧ (commitM N L D).2.2.armed = D.armed) ∨
    ((commitM N L D).1 = 41 ∧ D.armed = true ∧ (commitM N L D).2.1.dead = true ∧ DOff N (fun S => Tells N L.base L.n (told L D.now) S ∨ Tells N L.base L.n (L.val D) S) (commitM N L D).2.2) := by
  obtain ⟨rows, hrows⟩ : ∃ rows, rows = rowsAll L.staged := ⟨_, rfl⟩
  have hrl : rows.length = costN L.staged.length := by rw [hrows, rowsAll_length]
  have hsec : Sectors rows := by rw [hrows]; exact rowsTo_sectors (fun x hx => (h.stagedOk x hx).2) _
  have hfits := h.ok.fits
  have hb : L.base < N := by have := h.ok.n4; omega
  have hlen : D.now.length = N := h.rest.ok.nowLen
  have h0 : DG N (fun S => Coded N L S ∧ ∀ k : Nat, homeB N L (k : Int) = true → told L S k = told L D.now k) D := h.rest.dg ⟨h.coded, fun _ _ => rfl⟩
  have hP : ∀ S, S.length = N → (Coded N L S ∧ ∀ k : Nat, homeB N L (k : Int) = true → told L S k = told L D.now k) → Tells N L.base L.n (told L D.now) S := fun S _ hS => ⟨L, h.ok, rfl, rfl, h.over, h.overOk, hS.1, hS.2⟩
  unfold commitM
  rw [← hrows]
  rcases h0.puts rows (L.base + 1 + L.used) D hsec (by omega) (fun j h1 h2 x => free_set h.ok h.over (.inl (by omega))) with ⟨e1, hg1, hn1, ha1⟩ | ⟨e1, ha1, hf1⟩
  · rw [if_neg (by simp [e1])]
    obtain ⟨t, ht⟩ : ∃ t, t = (updAll (UInt64.ofNat L.sum) rows.flatten).toNat := ⟨_, rfl⟩
    rw [← ht]
    have htl : t < 18446744073709551616 := by rw [ht]; exact UInt64.toNat_lt _
    obtain ⟨M, hM⟩ : ∃ M : LogM, M = { L with used := L.used + rows.length, sum := t, over := mcopy L.over L.staged, staged := [] } := ⟨_, rfl⟩
    have hbn : M.base = L.base ∧ M.n = L.n := by rw [hM]; exact ⟨rfl, rfl⟩
    have hMo : M.Ok N := by rw [hM]; exact ⟨h.ok.most, h.ok.n4, h.ok.n255, h.ok.fits, h.ok.epoch, by simp only; omega, htl⟩
    have hMr : Rising M.over := by rw [hM]; exact mcopy_rising h.over _
    have hMh : HomeMap N M M.over := by
      refine HomeMap.congr hbn.1 hbn.2 (fun x hx => ?_)
      rw [hM] at hx
      rcases mcopy_mem h.over h.staged hx with h1 | h1
      · exact h.overOk x h1
      · exact h.stagedOk x h1
    obtain ⟨T, hT⟩ : ∃ T, T = (putsR N (L.base + 1 + L.used) rows D).2.now.set L.base (ctl L.epoch (L.used + rows.length) t) := ⟨_, rfl⟩
    have hTlen : T.length = N := by rw [hT, List.length_set, hn1, setsFrom_length]; exact hlen
    have hTr : roomS T L.base (L.used + rows.length) = roomS D.now L.base L.used ++ rows := by
      rw [roomS_add]
      congr 1
      · refine roomS_congr fun i hi => ?_
        rw [hT, getD_set_ne (by omega), hn1, setsFrom_out rows _ _ _ (by omega)]
      · refine Eq.trans (List.map_congr_left fun i hi => ?_) (rows_in D.now rows (L.base + 1 + L.used) rows.length rfl (by omega))
        rw [hT, getD_set_ne (by omega), hn1]
    have hMc : Coded N M T := by
      refine ⟨hTlen, ?_, ?_, ?_⟩
      · rw [hM, hT, getD_set_eq (by rw [hn1, setsFrom_length]; omega)]
      · rw [hM]
        simp only
        rw [hTr, List.flatten_append, updAll_append, ht]
        congr 2
        have := h.coded.sum
        rw [← this]
        simp
      · rw [rowsM_congr hbn.1 hbn.2, hM]
        simp only
        rw [hTr, hrows]
        refine rowsM_append L.used _ _ _ h.coded.rows (pieces L.staged.length) _ _ (rowsM_all h.ok.most h.staged (fun x hx => (h.stagedOk x hx).1) _) _ ?_
        rw [← hrows, hrl]
        unfold costN pieces
        omega
    have hMt : ∀ k : Nat, homeB N L (k : Int) = true → told M T k = L.val D k := fun k hk => by
      have := home_far hk h.ok
      have := h.ok.n4
      rw [val_told]
      refine told_copy h.over h.staged (by rw [hM]) ?_
      rw [hT, getD_set_ne (by omega), hn1, setsFrom_out rows _ _ _ (by omega)]
    rcases hg1.mark L hb L.epoch (L.used + rows.length) t (Q := Tells N L.base L.n (L.val D)) (by
      rw [← hT]
      exact ⟨M, hMo, hbn.1, hbn.2, hMr, hMh, hMc, fun k hk => hMt k (by rw [← homeB_congr hbn.1 hbn.2]; exact hk)⟩) with ⟨e2, hl2, hr2, hn2, ha2⟩ | ⟨e2, ha2, hd2, hf2⟩
    · left
      have hML : { (markR N L (putsR N (L.base + 1 + L.used) rows D).2 L.epoch (L.used + rows.length) t).2.1 with over := mcopy (markR N L (putsR N (L.base + 1 + L.used) rows D).2 L.epoch (L.used + rows.length) t).2.1.over (markR N L (putsR N (L.base + 1 + L.used) rows D).2 L.epoch (L.used + rows.length) t).2.1.staged, staged := [] } = M := by rw [hl2, hM]
      have hce : commitEnd (markR N L (putsR N (L.base + 1 + L.used) rows D).2 L.epoch (L.used + rows.length) t) = (0, M, (markR N L (putsR N (L.base + 1 + L.used) rows D).2 L.epoch (L.used + rows.length) t).2.2) := by unfold commitEnd; rw [if_neg (by simp [e2]), hML]
      rw [hce]
      rw [← hT] at hn2
      refine ⟨rfl, ⟨hMo, by rw [hM]; exact h.alive, hr2, by rw [hn2]; exact hMc, hMr, by rw [hM]; exact List.Pairwise.nil, hMh, by rw [hM]; exact (fun x hx => by cases hx), by rw [hM]; have := h.ok.n4; simp [costN]; omega⟩, hbn.1, hbn.2, by rw [hM], by rw [hM, hrl], ?_, by rw [ha2, ha1]⟩
      intro k hk
      rw [hn2]
      exact hMt k hk
    · right
      unfold commitEnd
      rw [if_pos (by simp [e2]), e2]
      exact ⟨rfl, ha1.symm.trans ha2, hd2, hf2.mono (fun S hl hS => hS.imp (hP S hl) id)⟩
  · rw [if_pos (by simp [e1]), e1]
    exact .inr ⟨rfl, ha1, by simp [LogM.ends], hf1.mono (fun S hl hS => .inl (hP S hl hS))⟩
/-- Commit. -/
theorem commit_plain (h : LInv N L D) :
    ((commitR N L D).1 = 0 ∧ LInv N (commitR N L D).2.1 (commitR N L D).2.2 ∧ (commitR N L D).2.1.base = L.base ∧ (commitR N L D).2.1.n = L.n ∧ (commitR N L D).2.1.staged = [] ∧
      (∀ k : Nat, homeB N L (k : Int) = true → told (commitR N L D).2.1 (commitR N L D).2.2.now k = L.val D k) ∧ (commitR N L D).2.2.armed = D.armed) ∨
    ((commitR N L D).1 = 41 ∧ D.armed = true ∧ (commitR N L D).2.1.dead = true ∧ DOff N (fun S => Tells N L.base L.n (told L D.now) S ∨ Tells N L.base L.n (L.val D) S) (commitR N L D).2.2) := by
  unfold commitR
  rw [if_neg (by simp [h.alive])]
  by_cases h0 : L.staged.length = 0
  · rw [if_pos h0]
    have hs : L.staged = [] := List.length_eq_zero_iff.1 h0
    refine .inl ⟨rfl, h, rfl, rfl, hs, fun k _ => ?_, rfl⟩
    rw [val_told, hs]
    rfl
  · rw [if_neg h0]
    by_cases hr : L.n - 1 < L.used + costN L.staged.length
    · rw [if_pos hr]
      rcases home_plain h with ⟨e1, hi, hb, hn, hst, hu, hov, ht, ha⟩ | ⟨e1, ha, hd, hf⟩
      · rw [if_neg (by simp [e1])]
        have hval : ∀ k : Nat, homeB N L (k : Int) = true → (homeR N L D).2.1.val (homeR N L D).2.2 k = L.val D k := fun k hk => by
          rw [val_told, val_told, hst]
          congr 1
          rw [← ht k hk]
          unfold told
          rw [hov]
          rfl
        have htold : ∀ k : Nat, homeB N L (k : Int) = true → told (homeR N L D).2.1 (homeR N L D).2.2.now k = told L D.now k := fun k hk => by
          rw [← ht k hk]
          unfold told
          rw [hov]
          rfl
        rcases commitM_plain hi (by rw [hu, hst, hn]; have := h.cost; omega) with ⟨e2, hi2, hb2, hn2, hst2, hu2, ht2, ha2⟩ | ⟨e2, ha2, hd2, hf2⟩
        · exact .inl ⟨e2, hi2, hb2.trans hb, hn2.trans hn, hst2, fun k hk => (ht2 k (by rw [homeB_congr hb hn]; exact hk)).trans (hval k hk), ha2.trans ha⟩
        · refine .inr ⟨e2, ha.symm.trans ha2, hd2, hf2.mono (fun S _ hS => ?_)⟩
          rw [hb, hn] at hS
          exact hS.imp (fun h => h.mono (fun M h1 h2 k hk => htold k (by rw [← homeB_congr h1 h2]; exact hk))) (fun h => h.mono (fun M h1 h2 k hk => hval k (by rw [← homeB_congr h1 h2]; exact hk)))
      · rw [if_pos (by simp [e1])]
        exact .inr ⟨e1, ha, hd, hf.mono (fun S _ hS => .inl hS)⟩
    · rw [if_neg hr]
      rcases commitM_plain h (by have := h.ok.n4; omega) with ⟨e2, hi2, hb2, hn2, hst2, hu2, ht2, ha2⟩ | h2
      · exact .inl ⟨e2, hi2, hb2, hn2, hst2, ht2, ha2⟩
      · exact .inr h2
end
end Go.Proofs.Ytmhgahkainmbkaa
