/- A machine's steps: plain, with no program in sight. Marks: great operations stay closed in a walk; what each gives is laid as an equation. A machine in memory. -/
import Derived.Test.YtibndaianhlcaaaDoorPart2
import Derived.Test.YtibndaianhlcaaaDoorPart3
import Derived.StillTailTactics
import Derived.Laws.CopyOwn
import Derived.Deep.WholeRow
import Derived.Test.YtibndaianhlcaaaDoorPart6
namespace Go.Proofs.YtibndaianhlcaaaDoor
set_option linter.unusedVariables false
set_option linter.unusedSimpArgs false

/-- A service's unit. -/
structure Srv where
  name : Txt
  start : Txt
  req : List Txt
  aft : List Txt
deriving DecidableEq
/-- A machine: its files, its users, what runs, and its plan. -/
structure Mach where
  files : List Ent
  users : List Txt
  units : List Srv
  plan : List Bool
/-- A step. -/
structure ActP where
  kind : Int
  name : Txt
  file : Ent
  unit : Srv
def newM : Mach := ⟨[], [], [], []⟩
def printB (c : UInt8) : Bool := decide (32 ≤ c.toNat ∧ c.toNat ≤ 126)
/-- May a unit be? -/
def mayU (u : Srv) : Bool := (u.name :: (u.req ++ u.aft)).all nameB && decide (1 ≤ u.start.length ∧ u.start.length ≤ 120) && u.start.all printB
def hasU (l : List Srv) (n : Txt) : Bool := l.any fun u => decide (u.name = n)
def idxU (l : List Srv) (n : Txt) : Nat := (l.takeWhile fun u => decide (u.name ≠ n)).length
def failsP : List Bool → Bool
  | [] => false
  | b :: _ => b
def insA {α : Type} (l : List α) (i : Nat) (x : α) : List α := l.take i ++ x :: l.drop i
def pathsE (l : List Ent) : List Txt := l.map (·.path)
def doStop (s : Mach) (n : Txt) : Mach × Int :=
  if hasU s.units n = false then (s, 0)
  else if failsP s.plan = true then (⟨s.files, s.users, s.units, s.plan.tail⟩, 71)
  else (⟨s.files, s.users, s.units.eraseIdx (idxU s.units n), s.plan.tail⟩, 0)
def doFile (s : Mach) (n : Txt) (x : Ent) : Mach × Int :=
  if n = x.path ∧ rightB [x] = true then
    if (pathsE s.files)[aheadN (pathsE s.files) n]? = some n then (⟨s.files.set (aheadN (pathsE s.files) n) x, s.users, s.units, s.plan⟩, 0)
    else if s.files.length = 24 then (s, 70)
    else (⟨insA s.files (aheadN (pathsE s.files) n) x, s.users, s.units, s.plan⟩, 0)
  else (s, 70)
def doUser (s : Mach) (n : Txt) : Mach × Int :=
  if nameB n = true then
    if s.users[aheadN s.users n]? = some n then (s, 0)
    else if s.users.length = 16 then (s, 70)
    else (⟨s.files, insA s.users (aheadN s.users n) n, s.units, s.plan⟩, 0)
  else (s, 70)
def doStart (s : Mach) (n : Txt) (u : Srv) : Mach × Int :=
  if mayU u = true ∧ n = u.name then
    if hasU s.units n = true ∧ s.units[idxU s.units n]? ≠ some u then (s, 70)
    else if u.req.all (hasU s.units) = false then (s, 70)
    else if hasU s.units n = true then (s, 0)
    else if s.units.length = 24 then (s, 70)
    else if failsP s.plan = true then (⟨s.files, s.users, s.units, s.plan.tail⟩, 71)
    else (⟨s.files, s.users, s.units ++ [u], s.plan.tail⟩, 0)
  else (s, 70)
/-- A step of a machine. -/
def doM (s : Mach) (a : ActP) : Mach × Int :=
  if a.kind = 1 then doStop s a.name
  else if a.kind = 2 then (⟨s.files.filter fun x => decide (x.path ≠ a.name), s.users, s.units, s.plan⟩, 0)
  else if a.kind = 3 then (⟨s.files, s.users.filter fun x => decide (x ≠ a.name), s.units, s.plan⟩, 0)
  else if a.kind = 4 then doFile s a.name a.file
  else if a.kind = 5 then doUser s a.name
  else if a.kind = 6 then doStart s a.name a.unit
  else (s, 70)

theorem hasU_iff {l : List Srv} {n : Txt} : hasU l n = true ↔ ∃ u ∈ l, u.name = n := by simp [hasU]
theorem idxU_le (l : List Srv) (n : Txt) : idxU l n ≤ l.length := (List.takeWhile_sublist _).length_le
theorem idxU_at : ∀ {l : List Srv} {n : Txt}, hasU l n = true → ∃ h : idxU l n < l.length, l[idxU l n].name = n
  | [], n, h => by simp [hasU] at h
  | u :: l, n, h => by
    by_cases hu : u.name = n
    · have e : idxU (u :: l) n = 0 := by unfold idxU; rw [List.takeWhile_cons_of_neg (by simpa using hu)]; rfl
      exact ⟨by rw [e]; simp, by simp [e, hu]⟩
    · have e : idxU (u :: l) n = idxU l n + 1 := by unfold idxU; rw [List.takeWhile_cons_of_pos (by simpa using hu)]; rfl
      have h2 : hasU l n = true := by
        obtain ⟨v, hv, hvn⟩ := hasU_iff.1 h
        rcases List.mem_cons.1 hv with rfl | hv
        · exact absurd hvn hu
        · exact hasU_iff.2 ⟨v, hv, hvn⟩
      obtain ⟨h3, h4⟩ := idxU_at h2
      exact ⟨by rw [e]; simp; exact h3, by simp only [e, List.getElem_cons_succ]; exact h4⟩
theorem idxU_ahead {l : List Srv} {n : Txt} {i : Nat} (h : i < idxU l n) (hi : i < l.length) : l[i].name ≠ n := by
  have h1 := takeWhile_all (fun u : Srv => decide (u.name ≠ n)) l (idxU l n) (Nat.le_refl _)
  have h2 : l[i] ∈ l.take (idxU l n) := List.mem_iff_getElem?.2 ⟨i, by rw [List.getElem?_take, if_pos h, List.getElem?_eq_getElem hi]⟩
  simpa using List.all_eq_true.1 h1 _ h2
theorem idxU_eq {l : List Srv} {n : Txt} {k : Nat} (hk : k < l.length) (h1 : l[k].name = n) (h2 : ∀ i (hi : i < l.length), i < k → l[i].name ≠ n) : idxU l n = k ∧ hasU l n = true := by
  have hh : hasU l n = true := hasU_iff.2 ⟨_, List.getElem_mem hk, h1⟩
  obtain ⟨h3, h4⟩ := idxU_at hh
  refine ⟨?_, hh⟩
  rcases Nat.lt_trichotomy (idxU l n) k with h | h | h
  · exact absurd h4 (h2 _ h3 h)
  · exact h
  · exact absurd h1 (idxU_ahead h hk)
theorem hasU_none {l : List Srv} {n : Txt} (h : ∀ i (hi : i < l.length), l[i].name ≠ n) : hasU l n = false := by
  cases e : hasU l n with
  | false => rfl
  | true =>
    obtain ⟨h1, h2⟩ := idxU_at e
    exact absurd h2 (h _ h1)

/-- A machine that may be. -/
structure GoodM (s : Mach) : Prop where
  files : Rises (pathsE s.files)
  users : Rises s.users
  units : ∀ u ∈ s.units, mayU u = true
  names : (s.units.map (·.name)).Nodup
  nf : s.files.length ≤ 24
  nu : s.users.length ≤ 16
  nn : s.units.length ≤ 24
theorem good_new : GoodM newM := ⟨List.Pairwise.nil, List.Pairwise.nil, (fun u h => by cases h), List.Pairwise.nil, by decide, by decide, by decide⟩
theorem rises_filter {l : List Txt} (h : Rises l) (p : Txt → Bool) : Rises (l.filter p) := List.Pairwise.sublist (List.filter_sublist) h
theorem paths_filter (l : List Ent) (n : Txt) : pathsE (l.filter fun x => decide (x.path ≠ n)) = (pathsE l).filter fun p => decide (p ≠ n) := by
  unfold pathsE
  rw [List.filter_map]
  rfl
theorem ins_add {l : List Txt} {n : Txt} (h : ¬ l[aheadN l n]? = some n) : insA l (aheadN l n) n = addL l n := by
  unfold addL insA
  rw [if_neg h]
theorem paths_ins (l : List Ent) (i : Nat) (x : Ent) : pathsE (insA l i x) = insA (pathsE l) i x.path := by
  simp [pathsE, insA, List.map_take, List.map_drop]
theorem paths_set (l : List Ent) (i : Nat) (x : Ent) : pathsE (l.set i x) = (pathsE l).set i x.path := by simp [pathsE, List.map_set]
theorem set_same {l : List Txt} {i : Nat} {n : Txt} (h : l[i]? = some n) : l.set i n = l := by
  obtain ⟨hi, e⟩ := List.getElem?_eq_some_iff.1 h
  rw [← e, List.set_getElem_self]
theorem ins_length {α : Type} (l : List α) (i : Nat) (x : α) : (insA l i x).length = l.length + 1 := by
  unfold insA
  rw [List.length_append, List.length_cons, List.length_take, List.length_drop]
  omega
theorem doM_good {s : Mach} (h : GoodM s) (a : ActP) : GoodM (doM s a).1 := by
  obtain ⟨h1, h2, h3, h4, h5, h6, h7⟩ := h
  unfold doM
  split
  · unfold doStop
    split
    · exact ⟨h1, h2, h3, h4, h5, h6, h7⟩
    · split
      · exact ⟨h1, h2, h3, h4, h5, h6, h7⟩
      · refine ⟨h1, h2, fun u hu => h3 u (List.mem_of_mem_eraseIdx hu), ?_, h5, h6, ?_⟩
        · simp only
          exact List.Nodup.sublist ((List.eraseIdx_sublist ..).map _) h4
        · have := List.length_eraseIdx_le s.units (idxU s.units a.name)
          simp only
          omega
  · split
    · refine ⟨?_, h2, h3, h4, ?_, h6, h7⟩
      · simp only
        rw [paths_filter]
        exact rises_filter h1 _
      · exact Nat.le_trans (List.length_filter_le ..) h5
    · split
      · exact ⟨h1, rises_filter h2 _, h3, h4, h5, Nat.le_trans (List.length_filter_le ..) h6, h7⟩
      · split
        · unfold doFile
          split
          · rename_i hx
            split
            · rename_i hi
              refine ⟨?_, h2, h3, h4, by simpa using h5, h6, h7⟩
              simp only
              rw [paths_set, ← hx.1, set_same hi]
              exact h1
            · rename_i hi
              split
              · exact ⟨h1, h2, h3, h4, h5, h6, h7⟩
              · refine ⟨?_, h2, h3, h4, by simp only; rw [ins_length]; omega, h6, h7⟩
                simp only
                rw [paths_ins, ← hx.1, ins_add hi]
                exact addL_rises h1 _
          · exact ⟨h1, h2, h3, h4, h5, h6, h7⟩
        · split
          · unfold doUser
            split
            · split
              · exact ⟨h1, h2, h3, h4, h5, h6, h7⟩
              · rename_i hi
                split
                · exact ⟨h1, h2, h3, h4, h5, h6, h7⟩
                · refine ⟨h1, ?_, h3, h4, h5, by simp only; rw [ins_length]; omega, h7⟩
                  simp only
                  rw [ins_add hi]
                  exact addL_rises h2 _
            · exact ⟨h1, h2, h3, h4, h5, h6, h7⟩
          · split
            · unfold doStart
              split
              · rename_i hm
                split
                · exact ⟨h1, h2, h3, h4, h5, h6, h7⟩
                · split
                  · exact ⟨h1, h2, h3, h4, h5, h6, h7⟩
                  · split
                    · exact ⟨h1, h2, h3, h4, h5, h6, h7⟩
                    · rename_i hh
                      split
                      · exact ⟨h1, h2, h3, h4, h5, h6, h7⟩
                      · split
                        · exact ⟨h1, h2, h3, h4, h5, h6, h7⟩
                        · refine ⟨h1, h2, fun u hu => ?_, ?_, h5, h6, by simp; omega⟩
                          · rcases List.mem_append.1 hu with hu | hu
                            · exact h3 u hu
                            · rw [List.mem_singleton.1 hu]; exact hm.1
                          · simp only [List.map_append, List.map_cons, List.map_nil]
                            rw [List.nodup_append]
                            refine ⟨h4, by simp, fun x hx y hy => ?_⟩
                            rw [List.mem_singleton.1 hy]
                            rintro rfl
                            obtain ⟨u, hu, e⟩ := List.mem_map.1 hx
                            exact hh (hasU_iff.2 ⟨u, hu, by rw [hm.2]; exact e⟩)
              · exact ⟨h1, h2, h3, h4, h5, h6, h7⟩
            · exact ⟨h1, h2, h3, h4, h5, h6, h7⟩
def Kept (s : Mach) (r : Mach × Int) : Prop := r.2 = 0 ∨ (r.1.files = s.files ∧ r.1.users = s.users ∧ r.1.units = s.units ∧ (r.2 = 70 ∨ r.2 = 71))
theorem kept_ite (s : Mach) {c : Prop} [Decidable c] {x y : Mach × Int} (h1 : Kept s x) (h2 : Kept s y) : Kept s (if c then x else y) := by
  split
  · exact h1
  · exact h2
theorem kept_ok (s x : Mach) : Kept s (x, 0) := .inl rfl
theorem kept_70 (s : Mach) : Kept s (s, 70) := .inr ⟨rfl, rfl, rfl, .inl rfl⟩
theorem kept_71 (s : Mach) (p : List Bool) : Kept s (⟨s.files, s.users, s.units, p⟩, 71) := .inr ⟨rfl, rfl, rfl, .inr rfl⟩
theorem doM_kept (s : Mach) (a : ActP) : Kept s (doM s a) := by
  unfold doM doStop doFile doUser doStart
  repeat' first | apply kept_ite | exact kept_ok _ _ | exact kept_70 _ | exact kept_71 _ _
/-- A step that failed has changed nothing that is seen. -/
theorem doM_fail (s : Mach) (a : ActP) (h : (doM s a).2 ≠ 0) : (doM s a).1.files = s.files ∧ (doM s a).1.users = s.users ∧ (doM s a).1.units = s.units ∧ ((doM s a).2 = 70 ∨ (doM s a).2 = 71) :=
  (doM_kept s a).resolve_left h
theorem ins_lo {α : Type} (l : List α) {k i : Nat} (x : α) (hk : k ≤ l.length) (h : i < k) : (insA l k x)[i]? = l[i]? := by
  unfold insA
  rw [List.getElem?_append_left (by rw [List.length_take]; omega), List.getElem?_take, if_pos h]
theorem ins_mid {α : Type} (l : List α) {k : Nat} (x : α) (hk : k ≤ l.length) : (insA l k x)[k]? = some x := by
  unfold insA
  rw [List.getElem?_append_right (by rw [List.length_take]; omega), List.length_take, Nat.min_eq_left hk, Nat.sub_self]
  rfl
theorem ins_ahead (l : List Txt) (n : Txt) : aheadN (insA l (aheadN l n) n) n = aheadN l n := by
  have hle := aheadN_le l n
  have hlen : (insA l (aheadN l n) n).length = l.length + 1 := ins_length ..
  apply aheadN_eq _ _ _ (by omega)
  · intro i hi hik
    have h1 := ins_lo l n hle hik
    rw [List.getElem?_eq_getElem hi, List.getElem?_eq_getElem (show i < l.length by omega)] at h1
    rw [Option.some.inj h1]
    exact aheadN_lt l n hik (by omega)
  · intro hi
    have h1 := ins_mid l n hle
    rw [List.getElem?_eq_getElem hi] at h1
    rw [Option.some.inj h1]
    exact txt_irrefl n
theorem ins_at (l : List Txt) (n : Txt) : (insA l (aheadN l n) n)[aheadN (insA l (aheadN l n) n) n]? = some n := by
  rw [ins_ahead]
  exact ins_mid l n (aheadN_le l n)
theorem ahead_bound {l : List Txt} {n : Txt} (h : l[aheadN l n]? = some n) : aheadN l n < l.length := (List.getElem?_eq_some_iff.1 h).1
theorem filter_again {α : Type} (p : α → Bool) (l : List α) : (l.filter p).filter p = l.filter p := by
  rw [List.filter_filter]
  simp
theorem hasU_erase {l : List Srv} {n : Txt} (hd : (l.map (·.name)).Nodup) (h : hasU l n = true) : hasU (l.eraseIdx (idxU l n)) n = false := by
  obtain ⟨hi, e⟩ := idxU_at h
  apply hasU_none
  intro j hj hn
  rw [List.length_eraseIdx_of_lt hi] at hj
  have key : ∀ a b (ha : a < l.length) (hb : b < l.length), l[a].name = n → l[b].name = n → a = b := fun a b ha hb h1 h2 => by
    have h3 : (l.map (·.name))[a]'(by simpa using ha) = (l.map (·.name))[b]'(by simpa using hb) := by simp [h1, h2]
    rcases Nat.lt_trichotomy a b with hab | hab | hab
    · exact absurd h3 (List.pairwise_iff_getElem.1 hd a b (by simpa using ha) (by simpa using hb) hab)
    · exact hab
    · exact absurd h3.symm (List.pairwise_iff_getElem.1 hd b a (by simpa using hb) (by simpa using ha) hab)
  rw [List.getElem_eraseIdx] at hn
  split at hn
  · have := key j (idxU l n) (by omega) hi hn e
    omega
  · have := key (j + 1) (idxU l n) (by omega) hi hn e
    omega
theorem hasU_app (l : List Srv) (u : Srv) (n : Txt) : hasU (l ++ [u]) n = (hasU l n || decide (u.name = n)) := by simp [hasU]
theorem idxU_app {l : List Srv} {u : Srv} {n : Txt} (h : hasU l n = false) (hn : u.name = n) : idxU (l ++ [u]) n = l.length := by
  refine (idxU_eq (k := l.length) (by simp) (by simp [hn]) fun i hi hil => ?_).1
  rw [List.getElem_append_left hil]
  intro e
  have : hasU l n = true := hasU_iff.2 ⟨_, List.getElem_mem hil, e⟩
  rw [h] at this
  cases this
/-- What was done is done. -/
theorem doM_again {s : Mach} (hg : GoodM s) (a : ActP) (h : (doM s a).2 = 0) : (doM (doM s a).1 a).2 = 0 ∧ (doM (doM s a).1 a).1.files = (doM s a).1.files ∧ (doM (doM s a).1 a).1.users = (doM s a).1.users ∧ (doM (doM s a).1 a).1.units = (doM s a).1.units := by
  unfold doM at h ⊢
  by_cases k1 : a.kind = 1
  · simp only [if_pos k1] at h ⊢
    unfold doStop at h ⊢
    by_cases h1 : hasU s.units a.name = false
    · simp only [if_pos h1]; refine ⟨?_, ?_, ?_, ?_⟩ <;> first | rfl | trivial
    · simp only [if_neg h1] at h ⊢
      by_cases h2 : failsP s.plan = true
      · simp only [if_pos h2] at h; cases h
      · simp only [if_neg h2]
        have h3 := hasU_erase hg.names (by simpa using h1 : hasU s.units a.name = true)
        simp only [if_pos h3]
        refine ⟨?_, ?_, ?_, ?_⟩ <;> first | rfl | trivial
  · simp only [if_neg k1] at h ⊢
    by_cases k2 : a.kind = 2
    · simp only [if_pos k2]
      refine ⟨?_, filter_again _ _, ?_, ?_⟩ <;> first | rfl | trivial
    · simp only [if_neg k2] at h ⊢
      by_cases k3 : a.kind = 3
      · simp only [if_pos k3]
        refine ⟨?_, ?_, filter_again _ _, ?_⟩ <;> first | rfl | trivial
      · simp only [if_neg k3] at h ⊢
        by_cases k4 : a.kind = 4
        · simp only [if_pos k4] at h ⊢
          unfold doFile at h ⊢
          by_cases hx : a.name = a.file.path ∧ rightB [a.file] = true
          · simp only [if_pos hx] at h ⊢
            by_cases hi : (pathsE s.files)[aheadN (pathsE s.files) a.name]? = some a.name
            · simp only [if_pos hi] at h ⊢
              have e : pathsE (s.files.set (aheadN (pathsE s.files) a.name) a.file) = pathsE s.files := by rw [paths_set, ← hx.1, set_same hi]
              simp only [e, if_pos hi, List.set_set]
              refine ⟨?_, ?_, ?_, ?_⟩ <;> first | rfl | trivial
            · simp only [if_neg hi] at h ⊢
              by_cases hl : s.files.length = 24
              · simp only [if_pos hl] at h; cases h
              · simp only [if_neg hl] at h ⊢
                have hi2 := ins_at (pathsE s.files) a.name
                have e : pathsE (insA s.files (aheadN (pathsE s.files) a.name) a.file) = insA (pathsE s.files) (aheadN (pathsE s.files) a.name) a.name := by rw [paths_ins, ← hx.1]
                simp only [e, if_pos hi2]
                refine ⟨by first | rfl | trivial, ?_, by first | rfl | trivial, by first | rfl | trivial⟩
                rw [ins_ahead]
                apply List.ext_getElem?
                intro j
                rw [List.getElem?_set]
                split
                · rename_i hj
                  subst hj
                  have hle := aheadN_le (pathsE s.files) a.name
                  have hpl : (pathsE s.files).length = s.files.length := by simp [pathsE]
                  rw [if_pos (by rw [ins_length]; omega), ins_mid _ _ (by omega)]
                · rfl
          · simp only [if_neg hx] at h; cases h
        · simp only [if_neg k4] at h ⊢
          by_cases k5 : a.kind = 5
          · simp only [if_pos k5] at h ⊢
            unfold doUser at h ⊢
            by_cases hn : nameB a.name = true
            · simp only [if_pos hn] at h ⊢
              by_cases hi : s.users[aheadN s.users a.name]? = some a.name
              · simp only [if_pos hi]; refine ⟨?_, ?_, ?_, ?_⟩ <;> first | rfl | trivial
              · simp only [if_neg hi] at h ⊢
                by_cases hl : s.users.length = 16
                · simp only [if_pos hl] at h; cases h
                · simp only [if_neg hl] at h ⊢
                  simp only [if_pos (ins_at s.users a.name)]
                  refine ⟨?_, ?_, ?_, ?_⟩ <;> first | rfl | trivial
            · simp only [if_neg hn] at h; cases h
          · simp only [if_neg k5] at h ⊢
            by_cases k6 : a.kind = 6
            · simp only [if_pos k6] at h ⊢
              unfold doStart at h ⊢
              by_cases hm : mayU a.unit = true ∧ a.name = a.unit.name
              · simp only [if_pos hm] at h ⊢
                by_cases h1 : hasU s.units a.name = true ∧ s.units[idxU s.units a.name]? ≠ some a.unit
                · simp only [if_pos h1] at h; cases h
                · simp only [if_neg h1] at h ⊢
                  by_cases h2 : a.unit.req.all (hasU s.units) = false
                  · simp only [if_pos h2] at h; cases h
                  · simp only [if_neg h2] at h ⊢
                    by_cases h3 : hasU s.units a.name = true
                    · simp only [if_pos h3, if_neg h1, if_neg h2]; refine ⟨?_, ?_, ?_, ?_⟩ <;> first | rfl | trivial
                    · simp only [if_neg h3] at h ⊢
                      by_cases h4 : s.units.length = 24
                      · simp only [if_pos h4] at h; cases h
                      · simp only [if_neg h4] at h ⊢
                        by_cases h5 : failsP s.plan = true
                        · simp only [if_pos h5] at h; cases h
                        · simp only [if_neg h5] at h ⊢
                          have hf : hasU s.units a.name = false := by simpa using h3
                          have e1 : hasU (s.units ++ [a.unit]) a.name = true := by rw [hasU_app]; simp [hm.2]
                          have e2 := idxU_app hf hm.2.symm
                          have c1 : ¬ (hasU (s.units ++ [a.unit]) a.name = true ∧ (s.units ++ [a.unit])[idxU (s.units ++ [a.unit]) a.name]? ≠ some a.unit) := fun hh => hh.2 (by rw [e2]; simp)
                          have c2 : ¬ a.unit.req.all (hasU (s.units ++ [a.unit])) = false := fun hh => h2 (by
                            rw [List.all_eq_false] at hh ⊢
                            obtain ⟨r, hr, hr2⟩ := hh
                            refine ⟨r, hr, fun h6 => hr2 ?_⟩
                            rw [hasU_app, h6]; rfl)
                          simp only [if_neg c1, if_neg c2, if_pos e1]
                          refine ⟨?_, ?_, ?_, ?_⟩ <;> first | rfl | trivial
              · simp only [if_neg hm] at h; cases h
            · simp only [if_neg k6] at h; cases h
end Go.Proofs.YtibndaianhlcaaaDoor
namespace Go.Proofs.YtibndaianhlcaaaDoor
open Go.RowKit

/-- A variable of several cells, read. -/
def LoadS (ty : TypeId) (x : Value) : Sem Value := Instr.loadAt ty x
/-- A variable of several cells, written. -/
def StoreS (ty : TypeId) (x v : Value) : Sem Unit := Instr.storeAt ty x v
def AllocS (ty : TypeId) : Sem Value := Instr.alloc ty true (.tuple #[])
def AppendS (t : Array TypeId) (ty : TypeId) (args : Array Value) : Sem Value := Builtin.append_ t ty args
def CopyS (t : Array TypeId) (ty : TypeId) (args : Array Value) : Sem Value := Builtin.copy_ t ty args
def ListS (ty : TypeId) (n : Nat) (parts : Array (Nat × Value)) : Sem Value := Instr.buildSlice ty n parts
def BuildS (ty : TypeId) (parts : Array (Nat × Value)) : Sem Value := Instr.build ty parts
def BoxS (ty : TypeId) (v : Value) : Sem Value := Instr.box ty v
def MakeS (ty : TypeId) (n c : Value) : Sem Value := Instr.makeSlice ty n c
def ConvS (t u : TypeId) (x : Value) : Sem Value := convert t u x

theorem appendS_mark (t : Array TypeId) (ty : TypeId) (args : Array Value) : Builtin.append_ t ty args = AppendS t ty args := rfl
theorem copyS_mark (t : Array TypeId) (ty : TypeId) (args : Array Value) : Builtin.copy_ t ty args = CopyS t ty args := rfl
theorem makeS_mark (ty : TypeId) (n c : Value) : Instr.makeSlice ty n c = MakeS ty n c := rfl

theorem LoadS.of_blk {P : Program} {w : World} {g o n : Nat} {ty t : TypeId} {cs : Array Value} {fr : Nat × Nat} {d : TypeDesc} (hb : w.heap[g]? = some (.cells cs t fr)) (hu : P.underlying ty = some d) (hd : d.isRow = true)
    (hi : (P.info? ty).map (·.size) = some n) (hle : o + n ≤ cs.size) : (LoadS ty (.pointer (some ⟨g, o, none⟩))).run P w = .ok (.agg (cs.extract o (o + n))) w := by
  have h := run_loadAt_mid (P := P) w g o ty (cs.extract o (o + n)).toList d (World.rangeAt_of_block hb o n) hu hd (by rw [hi]; simp; omega)
  rw [Array.toArray_toList] at h
  exact h

theorem StoreS.of_blk {P : Program} {w : World} {g o : Nat} {ty t : TypeId} {cs vs : Array Value} (hb : Blk w g t cs)
    (hi : (P.info? ty).map (·.size) = some vs.size) (hle : o + vs.size ≤ cs.size) (h1 : ∀ v ∈ vs.toList, v.oneCell' = true) :
    (StoreS ty (.pointer (some ⟨g, o, none⟩)) (.agg vs)).run P w = .ok () (w.setRow g (cs.toList.take o ++ vs.toList ++ cs.toList.drop (o + vs.toList.length)).toArray) := by
  have h := run_storeCells_at P g o t vs.toList 0 cs w hb (by simpa using hle) h1
  cases hq : P.info? ty with
  | none => simp [hq] at hi
  | some i =>
    have hs : vs.size = i.size := by simp [hq] at hi; omega
    simp only [Nat.add_zero] at h
    unfold StoreS
    simp only [Instr.storeAt, Instr.sureAddr, Sem.run_bind, Sem.run_pure, Result.andThen_ok]
    simp [storeVar, sizeOf, typeInfo, hq, Value.cells, hs, h]

/-- A region that draws its order, all but its tail still: in the world's own spelling. -/
theorem region_tail {P : Program} {id : Nat} {Q : Exit → Act → World → Prop} {a : Act} {w : World} {l : List Oper} (n : Nat) (hm : P.follows .mixedOrders = true) (hB : Region.lexTailB .any l.toArray n = true)
    (h : wpStill P l.toArray w.drew (fun a' => wpList P l.toArray Q (l.drop n) a' w.drew) (l.take n) a) : (Code.region id l.toArray true).wp P Q a w :=
  wp_region_still_tail n hm hB h

/-- Into a new variable, whole. -/
theorem StoreS.new {P : Program} {ty t : TypeId} {c x : Array Value} (hi : (P.info? ty).map (·.size) = some x.size) (hc : c.size = x.size) (h1 : ∀ v ∈ x.toList, v.oneCell' = true) (w : World) :
    (StoreS ty (.pointer (some ⟨w.heap.size, 0, none⟩)) (.agg x)).run P (w.alloc (.cells c t)) = .ok () (w.alloc (.cells x t)) := by
  rw [StoreS.of_blk (Blk.new w t c) hi (by omega) h1, World.setRow_alloc_new]
  congr 3
  apply Array.ext'
  simp [hc]

/-- The builtin copy, elements of sz cells: into a row from offset o on. -/
theorem CopyS.of_blk {P : Program} {w : World} {dT sT ty elem t : TypeId} {sz g o dLen dCap sLen sCap : Nat} {a : Addr} {cur : Array Value} {cs : List Value}
    (hu : P.underlying dT = some (.slice elem)) (hs : (P.info? elem).map (·.size) = some sz) (hB : Blk w g t cur) (hn : cs.length = min sLen dLen * sz)
    (hsrc : ∀ j v, cs[j]? = some v → w.cell? (a.add j) = some v) (hfit : o + cs.length ≤ cur.size) (h1 : ∀ v ∈ cs, v.oneCell' = true) :
    (CopyS #[dT, sT] ty #[.slice (some ⟨g, o, none⟩) dLen dCap, .slice (some a) sLen sCap]).run P w =
      .ok (.int .i64 (min sLen dLen : Nat)) (w.setRow g (cur.toList.take o ++ cs ++ cur.toList.drop (o + cs.length)).toArray) := by
  have hl := run_loadCells_list (P := P) w a cs hsrc
  have hst := run_storeCells_at P g o t cs 0 cur w hB (by simpa using hfit) h1
  cases hq : P.info? elem with
  | none => simp [hq] at hs
  | some i =>
    have hi : i.size = sz := by simpa [hq] using hs
    unfold CopyS
    simp [Builtin.copy_, run_underlying hu, Builtin.lenOf, Builtin.firstCells, sizeOf, typeInfo, hq, hi, ← hn, hl, hst, goInt]

/-- The same, the source nil, empty or not. -/
theorem CopyS.slc {P : Program} {w : World} {dT sT ty elem t : TypeId} {sz g o dLen dCap m c B : Nat} {A : Option Addr} {cur : Array Value} {xs : List Value}
    (hu : P.underlying dT = some (.slice elem)) (hs : (P.info? elem).map (·.size) = some sz) (hB : Blk w g t cur) (hr : Slc w B sz A m c xs) (hfit : o + min m dLen * sz ≤ cur.size) (h1 : ∀ v ∈ xs, v.oneCell' = true) :
    (CopyS #[dT, sT] ty #[.slice (some ⟨g, o, none⟩) dLen dCap, .slice A m c]).run P w =
      .ok (.int .i64 (min m dLen : Nat)) (w.setRow g (cur.toList.take o ++ xs.take (min m dLen * sz) ++ cur.toList.drop (o + min m dLen * sz)).toArray) := by
  have hle : min m dLen * sz ≤ xs.length := by rw [hr.len]; exact Nat.mul_le_mul_right _ (Nat.min_le_left _ _)
  have hlen : (xs.take (min m dLen * sz)).length = min m dLen * sz := by rw [List.length_take]; omega
  cases A with
  | none =>
    have hm : m = 0 := by
      rcases Nat.eq_zero_or_pos m with h0 | h0
      · exact h0
      · obtain ⟨b, off, e, _⟩ := hr.at_ h0; cases e
    subst hm
    have hx : xs = [] := List.eq_nil_of_length_eq_zero (by rw [hr.len]; simp)
    subst hx
    have hself : w.setRow g (cur.toList.take o ++ ([] : List Value).take (min 0 dLen * sz) ++ cur.toList.drop (o + min 0 dLen * sz)).toArray = w := by
      have e : (cur.toList.take o ++ ([] : List Value).take (min 0 dLen * sz) ++ cur.toList.drop (o + min 0 dLen * sz)).toArray = cur := by
        apply Array.ext'
        simp
      rw [e]
      exact setRow_self w g cur t (0, 0) hB
    rw [hself]
    cases hq : P.info? elem with
    | none => simp [hq] at hs
    | some i =>
      unfold CopyS
      simp [Builtin.copy_, run_underlying hu, Builtin.lenOf, Builtin.firstCells, sizeOf, typeInfo, hq, storeCells, goInt]
  | some a =>
    have h2 := CopyS.of_blk (P := P) (dT := dT) (sT := sT) (ty := ty) (o := o) (dLen := dLen) (dCap := dCap) (sLen := m) (sCap := c) (a := a) (cs := xs.take (min m dLen * sz)) hu hs hB hlen (fun j v hj => by
      rcases Nat.eq_zero_or_pos m with h0 | h0
      · subst h0
        simp at hj
      · obtain ⟨b, off, e, _, hc⟩ := hr.at_ h0
        injection e with e
        subst e
        rw [addr_of_add]
        rw [List.getElem?_take] at hj
        split at hj
        · exact hc j v hj
        · cases hj) (by rw [hlen]; exact hfit) (fun v hv => h1 v (List.mem_of_mem_take hv))
    rw [hlen] at h2
    exact h2

/-- An element of a row, read. -/
theorem extract_of_take {cur : Array Value} {xs : List Value} {n j sz : Nat} (h : cur.toList.take n = xs) (hj : j + sz ≤ n) : cur.extract j (j + sz) = ((xs.drop j).take sz).toArray := by
  subst h
  apply Array.ext'
  rw [Array.toList_extract, List.extract_eq_take_drop, List.drop_take, List.take_take]
  congr 1
  omega

/-- Where a draw is all that parts two worlds. -/
theorem LoadS.same {P : Program} {w : World} {g o n : Nat} {ty t : TypeId} {cs : Array Value} {fr : Nat × Nat} {d : TypeDesc} (hb : w.heap[g]? = some (.cells cs t fr)) (hu : P.underlying ty = some d) (hd : d.isRow = true)
    (hi : (P.info? ty).map (·.size) = some n) (hle : o + n ≤ cs.size) : ∀ W : World, W.heap[g]? = w.heap[g]? → (LoadS ty (.pointer (some ⟨g, o, none⟩))).run P W = .ok (.agg (cs.extract o (o + n))) W :=
  fun W hW => LoadS.of_blk (by rw [hW]; exact hb) hu hd hi hle

/-- A literal's cells. -/
theorem fill_all (l : List Value) : ∀ (k : Nat) (cs : Array Value), k + l.length ≤ cs.size →
    (l.zipIdx k).foldl (fun cs x => cs.setIfInBounds (0 + x.2) x.1) cs = (cs.toList.take k ++ l ++ cs.toList.drop (k + l.length)).toArray := by
  induction l with
  | nil => intro k cs _; simp
  | cons v l ih =>
    intro k cs h
    simp only [List.length_cons] at h
    rw [List.zipIdx_cons, List.foldl_cons, ih (k + 1) _ (by simp; omega)]
    apply Array.ext'
    simp only [Nat.zero_add, Array.toList_setIfInBounds, List.length_cons]
    apply List.ext_getElem?
    intro j
    have hk : k < cs.toList.length := by simp; omega
    simp only [List.getElem?_append, List.length_append, List.length_take, List.length_cons, List.length_set, List.getElem?_take, List.getElem?_drop, Nat.min_eq_left (Nat.le_of_lt hk), Nat.min_eq_left (show k + 1 ≤ cs.toList.length by omega)]
    by_cases h1 : j < k
    · have h2 : j < k + 1 := by omega
      have h3 : j < k + 1 + l.length := by omega
      have h4 : j < k + (l.length + 1) := by omega
      simp only [h1, h2, h3, h4, if_true]
      rw [List.getElem?_set_ne (by omega)]
    · by_cases h2 : j = k
      · subst h2
        have h3 : j < j + 1 := by omega
        have h4 : j < j + 1 + l.length := by omega
        have h5 : j < j + (l.length + 1) := by omega
        simp only [h3, h4, h5, if_true, h1, if_false, Nat.sub_self, List.getElem?_cons_zero]
        rw [List.getElem?_set_self hk]
      · have h3 : ¬ j < k + 1 := by omega
        by_cases h4 : j < k + 1 + l.length
        · have h5 : j < k + (l.length + 1) := by omega
          simp only [h3, h4, h5, h1, if_true, if_false]
          obtain ⟨m, rfl⟩ : ∃ m, j = k + 1 + m := ⟨j - (k + 1), by omega⟩
          rw [show k + 1 + m - k = m + 1 by omega, List.getElem?_cons_succ]
          congr 1
          omega
        · have h5 : ¬ j < k + (l.length + 1) := by omega
          simp only [h4, h5, if_false]
          rw [List.getElem?_set_ne (by omega)]
          congr 1
          omega

theorem ListS.one {P : Program} {ty e : TypeId} {i : TypeInfo} {z : Value} {size : Nat} (hu : P.underlying ty = some (.slice e)) (hi : P.info? e = some i) (hz : i.zero = some z) (hsize : i.size = size) (hzs : z.cells.size = size) (h0 : 0 < size) (hle : size ≤ 16777216)
    {cs : Array Value} (hc : cs.size = size) (w : World) : (ListS ty 1 #[(0, .agg cs)]).run P w = .ok (.slice (some ⟨w.heap.size, 0, none⟩) 1 1) (w.alloc (.cells cs e)) := by
  have hne : ¬ size = 0 := by omega
  have hcl : ¬ 16777216 < size := by omega
  have hfill : Instr.fill (fun i => some (i * size, size)) ((Array.range size).map (z.cells[· % z.cells.size]!)) [(0, .agg cs)] = some cs := by
    have hZ : ((Array.range size).map (z.cells[· % z.cells.size]!)).size = size := by simp
    generalize (Array.range size).map (z.cells[· % z.cells.size]!) = Z at hZ
    simp only [Instr.fill, Value.cells, hc, Nat.zero_mul]
    rw [if_neg (by simp [hZ])]
    simp only [Option.some.injEq]
    have hf2 := fill_all cs.toList 0 Z (by simp [hc, hZ])
    rw [← Array.foldl_toList, Array.toList_zipIdx, hf2]
    apply Array.ext'
    simp [hc, hZ]
  unfold ListS
  simp [Instr.buildSlice, run_underlying hu, sizeOf, typeInfo, hi, hsize, zeroValue, hz, hne, hcl, hfill, newRow]
end Go.Proofs.YtibndaianhlcaaaDoor
namespace Go.Proofs.YtibndaianhlcaaaDoor
open Go.RowKit Go.Sort
set_option linter.unusedVariables false
set_option linter.unusedSimpArgs false

/-- A unit as memory has it. -/
structure SV where
  name : Txt
  start : Txt
  req : List Txt
  A : Option Addr
  n : Nat
  c : Nat
  aft : List Txt
  A2 : Option Addr
  n2 : Nat
  c2 : Nat
def SV.srv (u : SV) : Srv := ⟨u.name, u.start, u.req, u.aft⟩
def svCells (u : SV) : List Value := [.string ⟨u.name.toArray⟩, .string ⟨u.start.toArray⟩, .slice u.A u.n u.c, .slice u.A2 u.n2 u.c2]
theorem svCells_length (u : SV) : (svCells u).length = 4 := rfl
theorem svCells_one (us : List SV) : ∀ v ∈ us.flatMap svCells, v.oneCell' = true := by
  intro v hv
  obtain ⟨e, _, he⟩ := List.mem_flatMap.1 hv
  simp only [svCells, List.mem_cons, List.not_mem_nil, or_false] at he
  rcases he with rfl | rfl | rfl | rfl <;> rfl
/-- Units in memory, below block B. -/
structure UnitsAt (w : World) (B : Nat) (A : Option Addr) (n c : Nat) (us : List SV) : Prop where
  slc : Slc w B 4 A n c (us.flatMap svCells)
  len : us.length = n
  req : ∀ u ∈ us, Slc w B 1 u.A u.n u.c (u.req.map encStr)
  aft : ∀ u ∈ us, Slc w B 1 u.A2 u.n2 u.c2 (u.aft.map encStr)
theorem UnitsAt.below {w w' : World} {B : Nat} {A : Option Addr} {n c : Nat} {us : List SV} (h : UnitsAt w B A n c us) (hb : Below B w w') : UnitsAt w' B A n c us :=
  ⟨h.slc.below hb, h.len, fun u hu => (h.req u hu).below hb, fun u hu => (h.aft u hu).below hb⟩
theorem UnitsAt.at_ {w : World} {B : Nat} {A : Option Addr} {n c : Nat} {us : List SV} (h : UnitsAt w B A n c us) {k : Nat} (hk : k < n) :
    ∃ b off, A = some ⟨b, off, none⟩ ∧ b < B ∧ ∃ hl : k < us.length, w.cell? ⟨b, off + k * 4, none⟩ = some (.string ⟨us[k].name.toArray⟩) ∧ w.cell? ⟨b, off + k * 4 + 1, none⟩ = some (.string ⟨us[k].start.toArray⟩) ∧
      w.cell? ⟨b, off + k * 4 + 2, none⟩ = some (.slice us[k].A us[k].n us[k].c) ∧ w.cell? ⟨b, off + k * 4 + 3, none⟩ = some (.slice us[k].A2 us[k].n2 us[k].c2) ∧
      Slc w B 1 us[k].A us[k].n us[k].c (us[k].req.map encStr) ∧ Slc w B 1 us[k].A2 us[k].n2 us[k].c2 (us[k].aft.map encStr) := by
  obtain ⟨b, off, e, hb, hc⟩ := h.slc.at_ (by omega)
  have hl : k < us.length := by rw [h.len]; exact hk
  have g : ∀ j u, j < 4 → (svCells us[k])[j]? = some u → w.cell? ⟨b, off + k * 4 + j, none⟩ = some u := fun j u hj hu => by
    have := hc (k * 4 + j) u (by rw [flatMap_get svCells 4 us (fun o _ => svCells_length o) k j hl hj]; exact hu)
    rwa [← Nat.add_assoc] at this
  exact ⟨b, off, e, hb, hl, g 0 _ (by decide) rfl, g 1 _ (by decide) rfl, g 2 _ (by decide) rfl, g 3 _ (by decide) rfl, h.req _ (List.getElem_mem hl), h.aft _ (List.getElem_mem hl)⟩
theorem Row.slc' {w : World} {F : Nat → Prop} {e : TypeId} {sz : Nat} {A : Option Addr} {n m c : Nat} {xs : List Value} (h : Row w F e sz (.slice A m c) n xs) : Slc w w.heap.size sz A n c xs := own_slc_of h.own

def bl (b : Bool) : Value := .bool b
/-- A slice of a typed block of the footprint. -/
structure Cut (w : World) (F : Nat → Prop) (e : TypeId) (A : Option Addr) (n c : Nat) (xs : List Value) : Prop where
  slc : Slc w w.heap.size 1 A n c xs
  at_ : 0 < n → ∃ b off cur fr, A = some ⟨b, off, none⟩ ∧ F b ∧ w.heap[b]? = some (.cells cur e fr)
theorem Cut.nil (w : World) (F : Nat → Prop) (e : TypeId) : Cut w F e none 0 0 [] := ⟨⟨rfl, Nat.le_refl _, Nat.zero_le _, fun h => absurd h (by decide)⟩, fun h => absurd h (by decide)⟩
theorem Cut.of_row {w : World} {F : Nat → Prop} {e : TypeId} {A : Option Addr} {n m c : Nat} {xs : List Value} (h : Row w F e 1 (.slice A m c) n xs) : Cut w F e A n c xs := by
  refine ⟨h.slc', fun hn => ?_⟩
  obtain ⟨g, cap, cur, e1, hF, _, hB, _⟩ := h.form hn
  injection e1 with e1
  exact ⟨g, 0, cur, (0, 0), e1, hF, hB⟩
/-- What is kept beside blocks of another type. -/
theorem Cut.other {w w' : World} {F : Nat → Prop} {e : TypeId} {A : Option Addr} {n c : Nat} {xs : List Value} (h : Cut w F e A n c xs) (hs : w.heap.size ≤ w'.heap.size) (hb : ∀ (k : Nat) (cur : Array Value) (fr : Nat × Nat), w.heap[k]? = some (Obj.cells cur e fr) → w'.heap[k]? = w.heap[k]?) : Cut w' F e A n c xs := by
  refine ⟨⟨h.slc.len, h.slc.le, h.slc.cmax, fun hn => ?_⟩, fun hn => ?_⟩
  · obtain ⟨b, off, e1, hlt, hc⟩ := h.slc.at_ hn
    obtain ⟨b', off', cur, fr, e2, _, hB⟩ := h.at_ hn
    rw [e1] at e2
    injection e2 with e2
    injection e2 with e2 e3
    subst e2 e3
    refine ⟨b, off, e1, by omega, fun j u hu => ?_⟩
    rw [World.cell?_of_block (w := w) (a := ⟨b, off + j, none⟩) (hb b cur fr hB)]
    exact hc j u hu
  · obtain ⟨b, off, cur, fr, e1, hF, hB⟩ := h.at_ hn
    exact ⟨b, off, cur, fr, e1, hF, (hb b cur fr hB).trans hB⟩
theorem Row.other {w w' : World} {F : Nat → Prop} {e : TypeId} {sz : Nat} {v : Value} {n : Nat} {xs : List Value} (h : Row w F e sz v n xs) (hb : ∀ (k : Nat) (cur : Array Value) (fr : Nat × Nat), w.heap[k]? = some (Obj.cells cur e fr) → w'.heap[k]? = w.heap[k]?) : Row w' F e sz v n xs := by
  refine ⟨⟨h.own.1, ?_⟩, h.foot⟩
  rcases h.own.2 with hn | ⟨g, cap, cur, rfl, h1, h2, rest⟩
  · exact .inl hn
  · exact .inr ⟨g, cap, cur, rfl, h1, by rw [hb g cur (0, 0) h2]; exact h2, rest⟩
theorem Row.wide {w : World} {F G : Nat → Prop} {e : TypeId} {sz : Nat} {v : Value} {n : Nat} {xs : List Value} (h : Row w F e sz v n xs) (hg : ∀ k, F k → G k) : Row w G e sz v n xs := ⟨h.own, fun k hk => hg k (h.foot k hk)⟩
theorem Cut.wide {w : World} {F G : Nat → Prop} {e : TypeId} {A : Option Addr} {n c : Nat} {xs : List Value} (h : Cut w F e A n c xs) (hg : ∀ k, F k → G k) : Cut w G e A n c xs :=
  ⟨h.slc, fun hn => by obtain ⟨b, off, cur, fr, e1, hF, hB⟩ := h.at_ hn; exact ⟨b, off, cur, fr, e1, hg b hF, hB⟩⟩
theorem Row.nil (w : World) (F : Nat → Prop) (e : TypeId) (sz : Nat) : Row w F e sz (.slice none 0 0) 0 [] := ⟨World.ownsRow_nil _ _ _ _, fun k h => by cases h⟩

def machC (f u n p : Value) : Array Value := #[f, u, n, p]
/-- The parts of a machine in memory: F is all that it has. -/
structure MachV (w : World) (F : Nat → Prop) (g : Nat) (s : Mach) (fA : Option Addr) (fn fc : Nat) (es : List EV) (uA : Option Addr) (un uc : Nat) (nA : Option Addr) (nn nc : Nat) (us : List SV) (pA : Option Addr) (pn pc : Nat) : Prop where
  blk : Blk w g 36 (machC (.slice fA fn fc) (.slice uA un uc) (.slice nA nn nc) (.slice pA pn pc))
  foot : F g
  files : Row w F 44 3 (.slice fA fn fc) fn (es.flatMap evCells)
  ents : es.map EV.ent = s.files
  data : ∀ e ∈ es, Row w F 5 1 (.slice e.A e.n e.c) e.n (e.data.map bv)
  users : Row w F 9 1 (.slice uA un uc) un (s.users.map encStr)
  units : Row w F 46 4 (.slice nA nn nc) nn (us.flatMap svCells)
  srvs : us.map SV.srv = s.units
  req : ∀ u ∈ us, Row w F 9 1 (.slice u.A u.n u.c) u.n (u.req.map encStr)
  aft : ∀ u ∈ us, Row w F 9 1 (.slice u.A2 u.n2 u.c2) u.n2 (u.aft.map encStr)
  plan : Cut w F 4 pA pn pc (s.plan.map bl)
  sep : ∀ u ∈ us, ∀ k, (Value.slice uA un uc).ownBlock = some k → (Value.slice u.A u.n u.c).ownBlock ≠ some k ∧ (Value.slice u.A2 u.n2 u.c2).ownBlock ≠ some k
def MachAt (w : World) (F : Nat → Prop) (g : Nat) (s : Mach) : Prop := ∃ fA fn fc es uA un uc nA nn nc us pA pn pc, MachV w F g s fA fn fc es uA un uc nA nn nc us pA pn pc
section
variable {w w' : World} {F : Nat → Prop} {g : Nat} {s : Mach} {fA : Option Addr} {fn fc : Nat} {es : List EV} {uA : Option Addr} {un uc : Nat} {nA : Option Addr} {nn nc : Nat} {us : List SV} {pA : Option Addr} {pn pc : Nat}
theorem MachV.flen (h : MachV w F g s fA fn fc es uA un uc nA nn nc us pA pn pc) : es.length = fn ∧ s.files.length = fn := by
  have h1 := h.files.own.1
  rw [flatMap_len evCells 3 es (fun o _ => evCells_length o)] at h1
  have h2 := congrArg List.length h.ents
  rw [List.length_map] at h2
  omega
theorem MachV.ulen (h : MachV w F g s fA fn fc es uA un uc nA nn nc us pA pn pc) : s.users.length = un := by
  have h1 := h.users.own.1
  simpa using h1
theorem MachV.nlen (h : MachV w F g s fA fn fc es uA un uc nA nn nc us pA pn pc) : us.length = nn ∧ s.units.length = nn := by
  have h1 := h.units.own.1
  rw [flatMap_len svCells 4 us (fun o _ => svCells_length o)] at h1
  have h2 := congrArg List.length h.srvs
  rw [List.length_map] at h2
  omega
theorem MachV.plen (h : MachV w F g s fA fn fc es uA un uc nA nn nc us pA pn pc) : s.plan.length = pn := by
  have h1 := h.plan.slc.len
  simpa using h1
/-- What turns elsewhere. -/
theorem MachV.apart (h : MachV w F g s fA fn fc es uA un uc nA nn nc us pA pn pc) (hs : w.heap.size ≤ w'.heap.size) (hb : ∀ k, k < w.heap.size → F k → w'.heap[k]? = w.heap[k]?) : MachV w' F g s fA fn fc es uA un uc nA nn nc us pA pn pc := by
  have hr : ∀ {e : TypeId} {sz n : Nat} {v : Value} {xs : List Value}, Row w F e sz v n xs → Row w' F e sz v n xs := fun hR => hR.kept (fun k hk => hb k (hR.own.lt k hk).2 (hR.foot k hk)) hR.foot
  refine ⟨(hb g h.blk.lt h.foot).trans h.blk, h.foot, hr h.files, h.ents, fun e he => hr (h.data e he), hr h.users, hr h.units, h.srvs, fun u hu => hr (h.req u hu), fun u hu => hr (h.aft u hu), ?_, h.sep⟩
  have hp := h.plan
  refine ⟨⟨hp.slc.len, hp.slc.le, hp.slc.cmax, fun hn => ?_⟩, fun hn => ?_⟩
  · obtain ⟨b, off, e1, hlt, hc⟩ := hp.slc.at_ hn
    obtain ⟨b', off', cur, fr, e2, hF, hB⟩ := hp.at_ hn
    rw [e1] at e2
    injection e2 with e2
    injection e2 with e2 e3
    subst e2 e3
    refine ⟨b, off, e1, by omega, fun j u hu => ?_⟩
    rw [World.cell?_of_block (w := w) (a := ⟨b, off + j, none⟩) (hb b hlt hF)]
    exact hc j u hu
  · obtain ⟨b, off, cur, fr, e1, hF, hB⟩ := hp.at_ hn
    have hlt : b < w.heap.size := by
      rcases Nat.lt_or_ge b w.heap.size with h1 | h1
      · exact h1
      · rw [Array.getElem?_eq_none h1] at hB; cases hB
    exact ⟨b, off, cur, fr, e1, hF, (hb b hlt hF).trans hB⟩
theorem MachV.below (h : MachV w F g s fA fn fc es uA un uc nA nn nc us pA pn pc) (hb : Below w.heap.size w w') : MachV w' F g s fA fn fc es uA un uc nA nn nc us pA pn pc := h.apart hb.size (fun k hk _ => hb.block k hk)
theorem MachV.step {G K : Nat → Prop} (h : MachV w F g s fA fn fc es uA un uc nA nn nc us pA pn pc) (st : Step w w' G K) (hd : ∀ k, F k → ¬ G k) : MachV w' F g s fA fn fc es uA un uc nA nn nc us pA pn pc :=
  h.apart st.size (fun k hk hF => st.block k hk (hd k hF))
/-- Its own variable's cells are written; no other block turns. -/
theorem MachV.cells (h : MachV w F g s fA fn fc es uA un uc nA nn nc us pA pn pc) {p : Addr} (hp : p.block = g) (v : Value) :
    Row (w.setCell p v) F 44 3 (.slice fA fn fc) fn (es.flatMap evCells) ∧ (∀ e ∈ es, Row (w.setCell p v) F 5 1 (.slice e.A e.n e.c) e.n (e.data.map bv)) ∧ Row (w.setCell p v) F 9 1 (.slice uA un uc) un (s.users.map encStr) ∧
      Row (w.setCell p v) F 46 4 (.slice nA nn nc) nn (us.flatMap svCells) ∧ (∀ u ∈ us, Row (w.setCell p v) F 9 1 (.slice u.A u.n u.c) u.n (u.req.map encStr)) ∧ (∀ u ∈ us, Row (w.setCell p v) F 9 1 (.slice u.A2 u.n2 u.c2) u.n2 (u.aft.map encStr)) ∧
      Cut (w.setCell p v) F 4 pA pn pc (s.plan.map bl) := by
  have hne : ∀ (e : TypeId), e ≠ 36 → ∀ (k : Nat) (cur : Array Value) (fr : Nat × Nat), w.heap[k]? = some (Obj.cells cur e fr) → (w.setCell p v).heap[k]? = w.heap[k]? := fun e he k cur fr hk => by
    refine Below.heap_setCell w p v k (fun e1 => ?_)
    rw [hp] at e1
    subst e1
    have hB := h.blk
    unfold Blk at hB
    rw [hB] at hk
    injection hk with hk
    injection hk with _ hk
    exact he hk.symm
  exact ⟨h.files.other (hne _ (by decide)), fun e he => (h.data e he).other (hne _ (by decide)), h.users.other (hne _ (by decide)), h.units.other (hne _ (by decide)), fun u hu => (h.req u hu).other (hne _ (by decide)), fun u hu => (h.aft u hu).other (hne _ (by decide)), h.plan.other (by simp [World.setCell]) (hne _ (by decide))⟩
end
end Go.Proofs.YtibndaianhlcaaaDoor
