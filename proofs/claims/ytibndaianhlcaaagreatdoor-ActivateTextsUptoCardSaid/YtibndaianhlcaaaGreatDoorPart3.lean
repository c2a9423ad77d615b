/- A machine's steps: plain, with no program in sight. -/
import Derived.Test.YtibndaianhlcaaaGreatDoorPart2
namespace Go.Proofs.YtibndaianhlcaaaGreatDoor
set_option linter.unusedVariables false
set_option linter.unusedSimpArgs false

/-- A service's unit. -/
structure Srv where
  name : Txt
  start : Txt
  req : List Txt
  aft : List Txt
deriving DecidableEq
/-- A machine: its files, its users, what runs, and its plan. -/
structure Mach where
  files : List Ent
  users : List Txt
  units : List Srv
  plan : List Bool
/-- A step. -/
structure ActP where
  kind : Int
  name : Txt
  file : Ent
  unit : Srv
def newM : Mach := ⟨[], [], [], []⟩
def printB (c : UInt8) : Bool := decide (32 ≤ c.toNat ∧ c.toNat ≤ 126)
/-- May a unit be? -/
def mayU (u : Srv) : Bool := (u.name :: (u.req ++ u.aft)).all nameB && decide (1 ≤ u.start.length ∧ u.start.length ≤ 120) && u.start.all printB
def hasU (l : List Srv) (n : Txt) : Bool := l.any fun u => decide (u.name = n)
def idxU (l : List Srv) (n : Txt) : Nat := (l.takeWhile fun u => decide (u.name ≠ n)).length
def failsP : List Bool → Bool
  | [] => false
  | b :: _ => b
def insA {α : Type} (l : List α) (i : Nat) (x : α) : List α := l.take i ++ x :: l.drop i
def pathsE (l : List Ent) : List Txt := l.map (·.path)
def doStop (s : Mach) (n : Txt) : Mach × Int :=
  if hasU s.units n = false then (s, 0)
  else if failsP s.plan = true then (⟨s.files, s.users, s.units, s.plan.tail⟩, 71)
  else (⟨s.files, s.users, s.units.eraseIdx (idxU s.units n), s.plan.tail⟩, 0)
def doFile (s : Mach) (n : Txt) (x : Ent) : Mach × Int :=
  if n = x.path ∧ rightB [x] = true then
    if (pathsE s.files)[aheadN (pathsE s.files) n]? = some n then (⟨s.files.set (aheadN (pathsE s.files) n) x, s.users, s.units, s.plan⟩, 0)
    else if s.files.length = 24 then (s, 70)
    else (⟨insA s.files (aheadN (pathsE s.files) n) x, s.users, s.units, s.plan⟩, 0)
  else (s, 70)
def doUser (s : Mach) (n : Txt) : Mach × Int :=
  if nameB n = true then
    if s.users[aheadN s.users n]? = some n then (s, 0)
    else if s.users.length = 16 then (s, 70)
    else (⟨s.files, insA s.users (aheadN s.users n) n, s.units, s.plan⟩, 0)
  else (s, 70)
def doStart (s : Mach) (n : Txt) (u : Srv) : Mach × Int :=
  if mayU u = true ∧ n = u.name then
    if hasU s.units n = true ∧ s.units[idxU s.units n]? ≠ some u then (s, 70)
    else if u.req.all (hasU s.units) = false then (s, 70)
    else if hasU s.units n = true then (s, 0)
    else if s.units.length = 24 then (s, 70)
    else if failsP s.plan = true then (⟨s.files, s.users, s.units, s.plan.tail⟩, 71)
    else (⟨s.files, s.users, s.units ++ [u], s.plan.tail⟩, 0)
  else (s, 70)
/-- A step of a machine. -/
def doM (s : Mach) (a : ActP) : Mach × Int :=
  if a.kind = 1 then doStop s a.name
  else if a.kind = 2 then (⟨s.files.filter fun x => decide (x.path ≠ a.name), s.users, s.units, s.plan⟩, 0)
  else if a.kind = 3 then (⟨s.files, s.users.filter fun x => decide (x ≠ a.name), s.units, s.plan⟩, 0)
  else if a.kind = 4 then doFile s a.name a.file
  else if a.kind = 5 then doUser s a.name
  else if a.kind = 6 then doStart s a.name a.unit
  else (s, 70)

theorem hasU_iff {l : List Srv} {n : Txt} : hasU l n = true ↔ ∃ u ∈ l, u.name = n := by simp [hasU]
theorem idxU_le (l : List Srv) (n : Txt) : idxU l n ≤ l.length := (List.takeWhile_sublist _).length_le
theorem idxU_at : ∀ {l : List Srv} {n : Txt}, hasU l n = true → ∃ h : idxU l n < l.length, l[idxU l n].name = n
  | [], n, h => by simp [hasU] at h
  | u :: l, n, h => by
    by_cases hu : u.name = n
    · have e : idxU (u :: l) n = 0 := by unfold idxU; rw [List.takeWhile_cons_of_neg (by simpa using hu)]; rfl
      exact ⟨by rw [e]; simp, by simp [e, hu]⟩
    · have e : idxU (u :: l) n = idxU l n + 1 := by unfold idxU; rw [List.takeWhile_cons_of_pos (by simpa using hu)]; rfl
      have h2 : hasU l n = true := by
        obtain ⟨v, hv, hvn⟩ := hasU_iff.1 h
        rcases List.mem_cons.1 hv with rfl | hv
        · exact absurd hvn hu
        · exact hasU_iff.2 ⟨v, hv, hvn⟩
      obtain ⟨h3, h4⟩ := idxU_at h2
      exact ⟨by rw [e]; simp; exact h3, by simp only [e, List.getElem_cons_succ]; exact h4⟩
theorem idxU_ahead {l : List Srv} {n : Txt} {i : Nat} (h : i < idxU l n) (hi : i < l.length) : l[i].name ≠ n := by
  have h1 := takeWhile_all (fun u : Srv => decide (u.name ≠ n)) l (idxU l n) (Nat.le_refl _)
  have h2 : l[i] ∈ l.take (idxU l n) := List.mem_iff_getElem?.2 ⟨i, by rw [List.getElem?_take, if_pos h, List.getElem?_eq_getElem hi]⟩
  simpa using List.all_eq_true.1 h1 _ h2
theorem idxU_eq {l : List Srv} {n : Txt} {k : Nat} (hk : k < l.length) (h1 : l[k].name = n) (h2 : ∀ i (hi : i < l.length), i < k → l[i].name ≠ n) : idxU l n = k ∧ hasU l n = true := by
  have hh : hasU l n = true := hasU_iff.2 ⟨_, List.getElem_mem hk, h1⟩
  obtain ⟨h3, h4⟩ := idxU_at hh
  refine ⟨?_, hh⟩
  rcases Nat.lt_trichotomy (idxU l n) k with h | h | h
  · exact absurd h4 (h2 _ h3 h)
  · exact h
  · exact absurd h1 (idxU_ahead h hk)
theorem hasU_none {l : List Srv} {n : Txt} (h : ∀ i (hi : i < l.length), l[i].name ≠ n) : hasU l n = false := by
  cases e : hasU l n with
  | false => rfl
  | true =>
    obtain ⟨h1, h2⟩ := idxU_at e
    exact absurd h2 (h _ h1)

/-- A machine that may be. -/
structure GoodM (s : Mach) : Prop where
  files : Rises (pathsE s.files)
  users : Rises s.users
  units : ∀ u ∈ s.units, mayU u = true
  names : (s.units.map (·.name)).Nodup
  nf : s.files.length ≤ 24
  nu : s.users.length ≤ 16
  nn : s.units.length ≤ 24
theorem good_new : GoodM newM := ⟨List.Pairwise.nil, List.Pairwise.nil, (fun u h => by cases h), List.Pairwise.nil, by decide, by decide, by decide⟩
theorem rises_filter {l : List Txt} (h : Rises l) (p : Txt → Bool) : Rises (l.filter p) := List.Pairwise.sublist (List.filter_sublist) h
theorem paths_filter (l : List Ent) (n : Txt) : pathsE (l.filter fun x => decide (x.path ≠ n)) = (pathsE l).filter fun p => decide (p ≠ n) := by
  unfold pathsE
  rw [List.filter_map]
  rfl
theorem ins_add {l : List Txt} {n : Txt} (h : ¬ l[aheadN l n]? = some n) : insA l (aheadN l n) n = addL l n := by
  unfold addL insA
  rw [if_neg h]
theorem paths_ins (l : List Ent) (i : Nat) (x : Ent) : pathsE (insA l i x) = insA (pathsE l) i x.path := by
  simp [pathsE, insA, List.map_take, List.map_drop]
theorem paths_set (l : List Ent) (i : Nat) (x : Ent) : pathsE (l.set i x) = (pathsE l).set i x.path := by simp [pathsE, List.map_set]
theorem set_same {l : List Txt} {i : Nat} {n : Txt} (h : l[i]? = some n) : l.set i n = l := by
  obtain ⟨hi, e⟩ := List.getElem?_eq_some_iff.1 h
  rw [← e, List.set_getElem_self]
theorem ins_length {α : Type} (l : List α) (i : Nat) (x : α) : (insA l i x).length = l.length + 1 := by
  unfold insA
  rw [List.length_append, List.length_cons, List.length_take, List.length_drop]
  omega
theorem doM_good {s : Mach} (h : GoodM s) (a : ActP) : GoodM (doM s a).1 := by
  obtain ⟨h1, h2, h3, h4, h5, h6, h7⟩ := h
  unfold doM
  split
  · unfold doStop
    split
    · exact ⟨h1, h2, h3, h4, h5, h6, h7⟩
    · split
      · exact ⟨h1, h2, h3, h4, h5, h6, h7⟩
      · refine ⟨h1, h2, fun u hu => h3 u (List.mem_of_mem_eraseIdx hu), ?_, h5, h6, ?_⟩
        · simp only
          exact List.Nodup.sublist ((List.eraseIdx_sublist ..).map _) h4
        · have := List.length_eraseIdx_le s.units (idxU s.units a.name)
          simp only
          omega
  · split
    · refine ⟨?_, h2, h3, h4, ?_, h6, h7⟩
      · simp only
        rw [paths_filter]
        exact rises_filter h1 _
      · exact Nat.le_trans (List.length_filter_le ..) h5
    · split
      · exact ⟨h1, rises_filter h2 _, h3, h4, h5, Nat.le_trans (List.length_filter_le ..) h6, h7⟩
      · split
        · unfold doFile
          split
          · rename_i hx
            split
            · rename_i hi
              refine ⟨?_, h2, h3, h4, by simpa using h5, h6, h7⟩
              simp only
              rw [paths_set, ← hx.1, set_same hi]
              exact h1
            · rename_i hi
              split
              · exact ⟨h1, h2, h3, h4, h5, h6, h7⟩
              · refine ⟨?_, h2, h3, h4, by simp only; rw [ins_length]; omega, h6, h7⟩
                simp only
                rw [paths_ins, ← hx.1, ins_add hi]
                exact addL_rises h1 _
          · exact ⟨h1, h2, h3, h4, h5, h6, h7⟩
        · split
          · unfold doUser
            split
            · split
              · exact ⟨h1, h2, h3, h4, h5, h6, h7⟩
              · rename_i hi
                split
                · exact ⟨h1, h2, h3, h4, h5, h6, h7⟩
                · refine ⟨h1, ?_, h3, h4, h5, by simp only; rw [ins_length]; omega, h7⟩
                  simp only
                  rw [ins_add hi]
                  exact addL_rises h2 _
            · exact ⟨h1, h2, h3, h4, h5, h6, h7⟩
          · split
            · unfold doStart
              split
              · rename_i hm
                split
                · exact ⟨h1, h2, h3, h4, h5, h6, h7⟩
                · split
                  · exact ⟨h1, h2, h3, h4, h5, h6, h7⟩
                  · split
                    · exact ⟨h1, h2, h3, h4, h5, h6, h7⟩
                    · rename_i hh
                      split
                      · exact ⟨h1, h2, h3, h4, h5, h6, h7⟩
                      · split
                        · exact ⟨h1, h2, h3, h4, h5, h6, h7⟩
                        · refine ⟨h1, h2, fun u hu => ?_, ?_, h5, h6, by simp; omega⟩
                          · rcases List.mem_append.1 hu with hu | hu
                            · exact h3 u hu
                            · rw [List.mem_singleton.1 hu]; exact hm.1
                          · simp only [List.map_append, List.map_cons, List.map_nil]
                            rw [List.nodup_append]
                            refine ⟨h4, by simp, fun x hx y hy => ?_⟩
                            rw [List.mem_singleton.1 hy]
                            rintro rfl
                            obtain ⟨u, hu, e⟩ := List.mem_map.1 hx
                            exact hh (hasU_iff.2 ⟨u, hu, by rw [hm.2]; exact e⟩)
              · exact ⟨h1, h2, h3, h4, h5, h6, h7⟩
            · exact ⟨h1, h2, h3, h4, h5, h6, h7⟩
def Kept (s : Mach) (r : Mach × Int) : Prop := r.2 = 0 ∨ (r.1.files = s.files ∧ r.1.users = s.users ∧ r.1.units = s.units ∧ (r.2 = 70 ∨ r.2 = 71))
theorem kept_ite (s : Mach) {c : Prop} [Decidable c] {x y : Mach × Int} (h1 : Kept s x) (h2 : Kept s y) : Kept s (if c then x else y) := by
  split
  · exact h1
  · exact h2
theorem kept_ok (s x : Mach) : Kept s (x, 0) := .inl rfl
theorem kept_70 (s : Mach) : Kept s (s, 70) := .inr ⟨rfl, rfl, rfl, .inl rfl⟩
theorem kept_71 (s : Mach) (p : List Bool) : Kept s (⟨s.files, s.users, s.units, p⟩, 71) := .inr ⟨rfl, rfl, rfl, .inr rfl⟩
theorem doM_kept (s : Mach) (a : ActP) : Kept s (doM s a) := by
  unfold doM doStop doFile doUser doStart
  repeat' first | apply kept_ite | exact kept_ok _ _ | exact kept_70 _ | exact kept_71 _ _
/-- A step that failed has changed nothing that is seen. -/
theorem doM_fail (s : Mach) (a : ActP) (h : (doM s a).2 ≠ 0) : (doM s a).1.files = s.files ∧ (doM s a).1.users = s.users ∧ (doM s a).1.units = s.units ∧ ((doM s a).2 = 70 ∨ (doM s a).2 = 71) :=
  (doM_kept s a).resolve_left h
theorem ins_lo {α : Type} (l : List α) {k i : Nat} (x : α) (hk : k ≤ l.length) (h : i < k) : (insA l k x)[i]? = l[i]? := by
  unfold insA
  rw [List.getElem?_append_left (by rw [List.length_take]; omega), List.getElem?_take, if_pos h]
theorem ins_mid {α : Type} (l : List α) {k : Nat} (x : α) (hk : k ≤ l.length) : (insA l k x)[k]? = some x := by
  unfold insA
  rw [List.getElem?_append_right (by rw [List.length_take]; omega), List.length_take, Nat.min_eq_left hk, Nat.sub_self]
  rfl
theorem ins_ahead (l : List Txt) (n : Txt) : aheadN (insA l (aheadN l n) n) n = aheadN l n := by
  have hle := aheadN_le l n
  have hlen : (insA l (aheadN l n) n).length = l.length + 1 := ins_length ..
  apply aheadN_eq _ _ _ (by omega)
  · intro i hi hik
    have h1 := ins_lo l n hle hik
    rw [List.getElem?_eq_getElem hi, List.getElem?_eq_getElem (show i < l.length by omega)] at h1
    rw [Option.some.inj h1]
    exact aheadN_lt l n hik (by omega)
  · intro hi
    have h1 := ins_mid l n hle
    rw [List.getElem?_eq_getElem hi] at h1
    rw [Option.some.inj h1]
    exact txt_irrefl n
theorem ins_at (l : List Txt) (n : Txt) : (insA l (aheadN l n) n)[aheadN (insA l (aheadN l n) n) n]? = some n := by
  rw [ins_ahead]
  exact ins_mid l n (aheadN_le l n)
theorem ahead_bound {l : List Txt} {n : Txt} (h : l[aheadN l n]? = some n) : aheadN l n < l.length := (List.getElem?_eq_some_iff.1 h).1
theorem filter_again {α : Type} (p : α → Bool) (l : List α) : (l.filter p).filter p = l.filter p := by
  rw [List.filter_filter]
  simp
theorem hasU_erase {l : List Srv} {n : Txt} (hd : (l.map (·.name)).Nodup) (h : hasU l n = true) : hasU (l.eraseIdx (idxU l n)) n = false := by
  obtain ⟨hi, e⟩ := idxU_at h
  apply hasU_none
  intro j hj hn
  rw [List.length_eraseIdx_of_lt hi] at hj
  have key : ∀ a b (ha : a < l.length) (hb : b < l.length), l[a].name = n → l[b].name = n → a = b := fun a b ha hb h1 h2 => by
    have h3 : (l.map (·.name))[a]'(by simpa using ha) = (l.map (·.name))[b]'(by simpa using hb) := by simp [h1, h2]
    rcases Nat.lt_trichotomy a b with hab | hab | hab
    · exact absurd h3 (List.pairwise_iff_getElem.1 hd a b (by simpa using ha) (by simpa using hb) hab)
    · exact hab
    · exact absurd h3.symm (List.pairwise_iff_getElem.1 hd b a (by simpa using hb) (by simpa using ha) hab)
  rw [List.getElem_eraseIdx] at hn
  split at hn
  · have := key j (idxU l n) (by omega) hi hn e
    omega
  · have := key (j + 1) (idxU l n) (by omega) hi hn e
    omega
theorem hasU_app (l : List Srv) (u : Srv) (n : Txt) : hasU (l ++ [u]) n = (hasU l n || decide (u.name = n)) := by simp [hasU]
theorem idxU_app {l : List Srv} {u : Srv} {n : Txt} (h : hasU l n = false) (hn : u.name = n) : idxU (l ++ [u]) n = l.length := by
  refine (idxU_eq (k := l.length) (by simp) (by simp [hn]) fun i hi hil => ?_).1
  rw [List.getElem_append_left hil]
  intro e
  have : hasU l n = true := hasU_iff.2 ⟨_, List.getElem_mem hil, e⟩
  rw [h] at this
  cases this
/-- What was done is done. -/
theorem doM_again {s : Mach} (hg : GoodM s) (a : ActP) (h : (doM s a).2 = 0) : (doM (doM s a).1 a).2 = 0 ∧ (doM (doM s a).1 a).1.files = (doM s a).1.files ∧ (doM (doM s a).1 a).1.users = (doM s a).1.users ∧ (doM (doM s a).1 a).1.units = (doM s a).1.units := by
  unfold doM at h ⊢
  by_cases k1 : a.kind = 1
  · simp only [if_pos k1] at h ⊢
    unfold doStop at h ⊢
    by_cases h1 : hasU s.units a.name = false
    · simp only [if_pos h1]; refine ⟨?_, ?_, ?_, ?_⟩ <;> first | rfl | trivial
    · simp only [if_neg h1] at h ⊢
      by_cases h2 : failsP s.plan = true
      · simp only [if_pos h2] at h; cases h
      · simp only [if_neg h2]
        have h3 := hasU_erase hg.names (by simpa using h1 : hasU s.units a.name = true)
        simp only [if_pos h3]
        refine ⟨?_, ?_, ?_, ?_⟩ <;> first | rfl | trivial
  · simp only [if_neg k1] at h ⊢
    by_cases k2 : a.kind = 2
    · simp only [if_pos k2]
      refine ⟨?_, filter_again _ _, ?_, ?_⟩ <;> first | rfl | trivial
    · simp only [if_neg k2] at h ⊢
      by_cases k3 : a.kind = 3
      · simp only [if_pos k3]
        refine ⟨?_, ?_, filter_again _ _, ?_⟩ <;> first | rfl | trivial
      · simp only [if_neg k3] at h ⊢
        by_cases k4 : a.kind = 4
        · simp only [if_pos k4] at h ⊢
          unfold doFile at h ⊢
          by_cases hx : a.name = a.file.path ∧ rightB [a.file] = true
          · simp only [if_pos hx] at h ⊢
            by_cases hi : (pathsE s.files)[aheadN (pathsE s.files) a.name]? = some a.name
            · simp only [if_pos hi] at h ⊢
              have e : pathsE (s.files.set (aheadN (pathsE s.files) a.name) a.file) = pathsE s.files := by rw [paths_set, ← hx.1, set_same hi]
              simp only [e, if_pos hi, List.set_set]
              refine ⟨?_, ?_, ?_, ?_⟩ <;> first | rfl | trivial
            · simp only [if_neg hi] at h ⊢
              by_cases hl : s.files.length = 24
              · simp only [if_pos hl] at h; cases h
              · simp only [if_neg hl] at h ⊢
                have hi2 := ins_at (pathsE s.files) a.name
                have e : pathsE (insA s.files (aheadN (pathsE s.files) a.name) a.file) = insA (pathsE s.files) (aheadN (pathsE s.files) a.name) a.name := by rw [paths_ins, ← hx.1]
                simp only [e, if_pos hi2]
                refine ⟨by first | rfl | trivial, ?_, by first | rfl | trivial, by first | rfl | trivial⟩
                rw [ins_ahead]
                apply List.ext_getElem?
                intro j
                rw [List.getElem?_set]
                split
                · rename_i hj
                  subst hj
                  have hle := aheadN_le (pathsE s.files) a.name
                  have hpl : (pathsE s.files).length = s.files.length := by simp [pathsE]
                  rw [if_pos (by rw [ins_length]; omega), ins_mid _ _ (by omega)]
                · rfl
          · simp only [if_neg hx] at h; cases h
        · simp only [if_neg k4] at h ⊢
          by_cases k5 : a.kind = 5
          · simp only [if_pos k5] at h ⊢
            unfold doUser at h ⊢
            by_cases hn : nameB a.name = true
            · simp only [if_pos hn] at h ⊢
              by_cases hi : s.users[aheadN s.users a.name]? = some a.name
              · simp only [if_pos hi]; refine ⟨?_, ?_, ?_, ?_⟩ <;> first | rfl | trivial
              · simp only [if_neg hi] at h ⊢
                by_cases hl : s.users.length = 16
                · simp only [if_pos hl] at h; cases h
                · simp only [if_neg hl] at h ⊢
                  simp only [if_pos (ins_at s.users a.name)]
                  refine ⟨?_, ?_, ?_, ?_⟩ <;> first | rfl | trivial
            · simp only [if_neg hn] at h; cases h
          · simp only [if_neg k5] at h ⊢
            by_cases k6 : a.kind = 6
            · simp only [if_pos k6] at h ⊢
              unfold doStart at h ⊢
              by_cases hm : mayU a.unit = true ∧ a.name = a.unit.name
              · simp only [if_pos hm] at h ⊢
                by_cases h1 : hasU s.units a.name = true ∧ s.units[idxU s.units a.name]? ≠ some a.unit
                · simp only [if_pos h1] at h; cases h
                · simp only [if_neg h1] at h ⊢
                  by_cases h2 : a.unit.req.all (hasU s.units) = false
                  · simp only [if_pos h2] at h; cases h
                  · simp only [if_neg h2] at h ⊢
                    by_cases h3 : hasU s.units a.name = true
                    · simp only [if_pos h3, if_neg h1, if_neg h2]; refine ⟨?_, ?_, ?_, ?_⟩ <;> first | rfl | trivial
                    · simp only [if_neg h3] at h ⊢
                      by_cases h4 : s.units.length = 24
                      · simp only [if_pos h4] at h; cases h
                      · simp only [if_neg h4] at h ⊢
                        by_cases h5 : failsP s.plan = true
                        · simp only [if_pos h5] at h; cases h
                        · simp only [if_neg h5] at h ⊢
                          have hf : hasU s.units a.name = false := by simpa using h3
                          have e1 : hasU (s.units ++ [a.unit]) a.name = true := by rw [hasU_app]; simp [hm.2]
                          have e2 := idxU_app hf hm.2.symm
                          have c1 : ¬ (hasU (s.units ++ [a.unit]) a.name = true ∧ (s.units ++ [a.unit])[idxU (s.units ++ [a.unit]) a.name]? ≠ some a.unit) := fun hh => hh.2 (by rw [e2]; simp)
                          have c2 : ¬ a.unit.req.all (hasU (s.units ++ [a.unit])) = false := fun hh => h2 (by
                            rw [List.all_eq_false] at hh ⊢
                            obtain ⟨r, hr, hr2⟩ := hh
                            refine ⟨r, hr, fun h6 => hr2 ?_⟩
                            rw [hasU_app, h6]; rfl)
                          simp only [if_neg c1, if_neg c2, if_pos e1]
                          refine ⟨?_, ?_, ?_, ?_⟩ <;> first | rfl | trivial
              · simp only [if_neg hm] at h; cases h
            · simp only [if_neg k6] at h; cases h
end Go.Proofs.YtibndaianhlcaaaGreatDoor
