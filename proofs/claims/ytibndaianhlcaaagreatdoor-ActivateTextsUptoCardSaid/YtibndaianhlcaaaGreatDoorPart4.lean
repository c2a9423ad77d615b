/- A machine led to a system: plain, with no program in sight. A system's text, and the system of a text: plain, with no program in sight. A script of steps: plain, with no program in sight. -/
import Derived.Test.YtibndaianhlcaaaGreatDoorPart3
namespace Go.Proofs.YtibndaianhlcaaaGreatDoor
set_option linter.unusedVariables false
set_option linter.unusedSimpArgs false

/-- A system. -/
structure SysP where
  files : List Ent
  users : List Txt
  units : List Srv
def ent0 : Ent := ⟨[], 0, []⟩
def srv0 : Srv := ⟨[], [], [], []⟩
/-- Units that may be started one behind the other. -/
def unitsOk : List Srv → List Srv → Bool
  | _, [] => true
  | acc, u :: l => mayU u && !hasU acc u.name && u.req.all (hasU acc) && unitsOk (acc ++ [u]) l
def badN (p : List Bool) : Nat := (p.filter id).length
/-- Steps are done up to the first that fails. -/
def runM : Mach → List ActP → Mach × Nat × Int
  | s, [] => (s, 0, 0)
  | s, a :: l => if (doM s a).2 = 0 then ((runM (doM s a).1 l).1, (runM (doM s a).1 l).2.1 + 1, (runM (doM s a).1 l).2.2) else ((doM s a).1, 0, (doM s a).2)

theorem badN_tail (p : List Bool) : badN p.tail ≤ badN p := by
  cases p with
  | nil => exact Nat.le_refl _
  | cons b p => cases b <;> simp [badN]
theorem badN_fails {p : List Bool} (h : failsP p = true) : badN p.tail + 1 ≤ badN p := by
  cases p with
  | nil => cases h
  | cons b p =>
    have hb : b = true := h
    subst hb
    simp [badN]
/-- One step was done, or a service failed. -/
def Stepped (s : Mach) (r : Mach × Int) (P : Mach → Prop) : Prop := (r.2 = 0 ∧ P r.1 ∧ badN r.1.plan ≤ badN s.plan) ∨ (r.2 = 71 ∧ badN r.1.plan + 1 ≤ badN s.plan)
/-- All was done, or a service failed. -/
def Led (s : Mach) (r : Mach × Nat × Int) (P : Mach → Prop) : Prop := GoodM r.1 ∧ ((r.2.2 = 0 ∧ P r.1 ∧ badN r.1.plan ≤ badN s.plan) ∨ (r.2.2 = 71 ∧ badN r.1.plan + 1 ≤ badN s.plan))
theorem runM_append : ∀ (a : List ActP) (b : List ActP) (s : Mach), (runM s (a ++ b)).1 = (if (runM s a).2.2 = 0 then (runM (runM s a).1 b).1 else (runM s a).1) ∧ (runM s (a ++ b)).2.2 = (if (runM s a).2.2 = 0 then (runM (runM s a).1 b).2.2 else (runM s a).2.2)
  | [], b, s => by simp [runM]
  | x :: a, b, s => by
    have ih := runM_append a b (doM s x).1
    by_cases h : (doM s x).2 = 0
    · simp only [List.cons_append, runM, if_pos h]
      exact ih
    · simp [List.cons_append, runM, h]
theorem Led.append {s : Mach} {a b : List ActP} {P Q : Mach → Prop} (h : Led s (runM s a) P) (k : ∀ t, GoodM t → P t → Led t (runM t b) Q) : Led s (runM s (a ++ b)) Q := by
  obtain ⟨e1, e2⟩ := runM_append a b s
  obtain ⟨hg, ⟨h0, hP, hb⟩ | ⟨h1, hb⟩⟩ := h
  · rw [if_pos h0] at e1 e2
    obtain ⟨kg, kk⟩ := k _ hg hP
    unfold Led
    rw [e1, e2]
    refine ⟨kg, ?_⟩
    rcases kk with ⟨q1, q2, q3⟩ | ⟨q1, q2⟩
    · exact .inl ⟨q1, q2, Nat.le_trans q3 hb⟩
    · exact .inr ⟨q1, Nat.le_trans q2 hb⟩
  · have hn : ¬ (runM s a).2.2 = 0 := by rw [h1]; decide
    rw [if_neg hn] at e1 e2
    unfold Led
    rw [e1, e2]
    exact ⟨hg, .inr ⟨h1, hb⟩⟩
theorem led_list {α : Type} (l0 : List α) (f : α → ActP) (I : List α → Mach → Prop) (h : ∀ done x rest s, l0 = done ++ x :: rest → GoodM s → I done s → Stepped s (doM s (f x)) (I (done ++ [x]))) :
    ∀ (l done : List α) (s : Mach), l0 = done ++ l → GoodM s → I done s → Led s (runM s (l.map f)) (I l0)
  | [], done, s, hl, hg, hi => ⟨hg, .inl ⟨rfl, by rw [hl, List.append_nil]; exact hi, Nat.le_refl _⟩⟩
  | x :: l, done, s, hl, hg, hi => by
    have hs := h done x l s hl hg hi
    have hg1 := doM_good hg (f x)
    rcases hs with ⟨h0, hP, hb⟩ | ⟨h1, hb⟩
    · have ih := led_list l0 f I h l (done ++ [x]) (doM s (f x)).1 (by rw [hl]; simp) hg1 hP
      unfold Led
      simp only [List.map_cons, runM, if_pos h0]
      obtain ⟨kg, kk⟩ := ih
      refine ⟨kg, ?_⟩
      rcases kk with ⟨q1, q2, q3⟩ | ⟨q1, q2⟩
      · exact .inl ⟨q1, q2, Nat.le_trans q3 hb⟩
      · exact .inr ⟨q1, Nat.le_trans q2 hb⟩
    · have hn : ¬ (doM s (f x)).2 = 0 := by rw [h1]; decide
      unfold Led
      simp only [List.map_cons, runM, if_neg hn]
      exact ⟨hg1, .inr ⟨h1, hb⟩⟩

/-! Stops -/
def stopA (u : Srv) : ActP := ⟨1, u.name, ent0, srv0⟩
theorem stop_last {s : Mach} (hg : GoodM s) {A : List Srv} {u : Srv} (h : s.units = A ++ [u]) : doM s (stopA u) = if failsP s.plan = true then (⟨s.files, s.users, s.units, s.plan.tail⟩, 71) else (⟨s.files, s.users, A, s.plan.tail⟩, 0) := by
  have hn : hasU A u.name = false := by
    cases e : hasU A u.name with
    | false => rfl
    | true =>
      obtain ⟨v, hv, hvn⟩ := hasU_iff.1 e
      have h1 := hg.names
      rw [h, List.map_append, List.nodup_append] at h1
      exact absurd hvn (h1.2.2 _ (List.mem_map.2 ⟨v, hv, rfl⟩) _ (by simp))
  have hi := idxU_app hn rfl
  have hh : ¬ hasU s.units u.name = false := by rw [h, hasU_app]; simp
  show doStop s u.name = _
  unfold doStop
  rw [if_neg hh, h, hi, List.eraseIdx_append_of_length_le (Nat.le_refl _)]
  simp
theorem led_stops {s : Mach} (hg : GoodM s) (k : Nat) : Led s (runM s ((s.units.drop k).reverse.map stopA)) (fun t => t.files = s.files ∧ t.users = s.users ∧ t.units = s.units.take k) := by
  have h := led_list (s.units.drop k).reverse stopA (fun done t => t.files = s.files ∧ t.users = s.users ∧ t.units ++ done.reverse = s.units) (fun done x rest t hl hgt ⟨i1, i2, i3⟩ => by
    have h1 : s.units.drop k = rest.reverse ++ x :: done.reverse := by
      have := congrArg List.reverse hl
      simpa using this
    have h2 : t.units = (s.units.take k ++ rest.reverse) ++ [x] := by
      have h3 : t.units ++ done.reverse = ((s.units.take k ++ rest.reverse) ++ [x]) ++ done.reverse := by
        rw [i3]
        conv => lhs; rw [← List.take_append_drop k s.units, h1]
        simp
      exact List.append_cancel_right h3
    rw [stop_last hgt h2]
    by_cases hf : failsP t.plan = true
    · rw [if_pos hf]
      exact .inr ⟨rfl, badN_fails hf⟩
    · rw [if_neg hf]
      refine .inl ⟨rfl, ⟨i1, i2, ?_⟩, badN_tail _⟩
      show (s.units.take k ++ rest.reverse) ++ (done ++ [x]).reverse = s.units
      refine Eq.trans ?_ i3
      rw [h2]
      simp) (s.units.drop k).reverse [] s rfl hg ⟨rfl, rfl, by simp⟩
  obtain ⟨h1, h2⟩ := h
  refine ⟨h1, ?_⟩
  rcases h2 with ⟨q1, ⟨q2, q3, q4⟩, q5⟩ | q
  · refine .inl ⟨q1, ⟨q2, q3, ?_⟩, q5⟩
    rw [List.reverse_reverse] at q4
    exact List.append_cancel_right (q4.trans (List.take_append_drop k s.units).symm)
  · exact .inr q

/-! What goes -/
def removeA (x : Ent) : ActP := ⟨2, x.path, ent0, srv0⟩
def dropA (n : Txt) : ActP := ⟨3, n, ent0, srv0⟩
theorem led_removes {s : Mach} (hg : GoodM s) (l0 : List Ent) : Led s (runM s (l0.map removeA)) (fun t => t.users = s.users ∧ t.units = s.units ∧ ∀ x, x ∈ t.files ↔ x ∈ s.files ∧ ∀ d ∈ l0, x.path ≠ d.path) :=
  led_list l0 removeA (fun done t => t.users = s.users ∧ t.units = s.units ∧ ∀ x, x ∈ t.files ↔ x ∈ s.files ∧ ∀ d ∈ done, x.path ≠ d.path) (fun done x rest t hl hgt ⟨i1, i2, i3⟩ => by
    refine .inl ⟨rfl, ⟨i1, i2, fun y => ?_⟩, Nat.le_refl _⟩
    show y ∈ t.files.filter (fun z => decide (z.path ≠ x.path)) ↔ _
    rw [List.mem_filter, i3]
    simp only [decide_eq_true_eq]
    constructor
    · rintro ⟨⟨a, b⟩, c⟩
      refine ⟨a, fun d hd => ?_⟩
      rcases List.mem_append.1 hd with hd | hd
      · exact b d hd
      · rw [List.mem_singleton.1 hd]; exact c
    · rintro ⟨a, b⟩
      exact ⟨⟨a, fun d hd => b d (List.mem_append.2 (.inl hd))⟩, b x (by simp)⟩) l0 [] s rfl hg ⟨rfl, rfl, fun x => by simp⟩
theorem led_drops {s : Mach} (hg : GoodM s) (l0 : List Txt) : Led s (runM s (l0.map dropA)) (fun t => t.files = s.files ∧ t.units = s.units ∧ ∀ x, x ∈ t.users ↔ x ∈ s.users ∧ x ∉ l0) :=
  led_list l0 dropA (fun done t => t.files = s.files ∧ t.units = s.units ∧ ∀ x, x ∈ t.users ↔ x ∈ s.users ∧ x ∉ done) (fun done x rest t hl hgt ⟨i1, i2, i3⟩ => by
    refine .inl ⟨rfl, ⟨i1, i2, fun y => ?_⟩, Nat.le_refl _⟩
    show y ∈ t.users.filter (fun z => decide (z ≠ x)) ↔ _
    rw [List.mem_filter, i3]
    simp only [decide_eq_true_eq, List.mem_append, List.mem_singleton, not_or, and_assoc]) l0 [] s rfl hg ⟨rfl, rfl, fun x => by simp⟩

/-! What comes -/
theorem nodup_le {α : Type} [DecidableEq α] : ∀ {l m : List α}, l.Nodup → (∀ x ∈ l, x ∈ m) → l.length ≤ m.length
  | [], m, _, _ => Nat.zero_le _
  | x :: l, m, h, hs => by
    have hx := hs x List.mem_cons_self
    have h2 := nodup_le (l := l) (m := m.erase x) (List.nodup_cons.1 h).2 (fun y hy => (List.mem_erase_of_ne (fun e => (List.nodup_cons.1 h).1 (by rw [← e]; exact hy))).2 (hs y (List.mem_cons_of_mem _ hy)))
    rw [List.length_erase_of_mem hx] at h2
    have := List.length_pos_of_mem hx
    simp only [List.length_cons]
    omega
theorem rises_nodup {l : List Txt} (h : Rises l) : l.Nodup := List.Pairwise.imp (fun {a b} (h : a < b) (e : a = b) => txt_irrefl a (by rw [← e] at h; exact h)) h
theorem mem_ins21 {α : Type} (l : List α) (i : Nat) (x y : α) : y ∈ insA l i x ↔ y ∈ l ∨ y = x := by
  unfold insA
  rw [List.mem_append, List.mem_cons]
  constructor
  · rintro (h | h | h)
    · exact .inl (List.mem_of_mem_take h)
    · exact .inr h
    · exact .inl (List.mem_of_mem_drop h)
  · rintro (h | h)
    · rw [← List.take_append_drop i l, List.mem_append] at h
      rcases h with h | h
      · exact .inl h
      · exact .inr (.inr h)
    · exact .inr (.inl h)
theorem ahead_mem {l : List Txt} {n : Txt} (hr : Rises l) (h : n ∈ l) : l[aheadN l n]? = some n := by
  obtain ⟨i, hi, rfl⟩ := List.getElem_of_mem h
  have h1 : aheadN l l[i] ≤ i := Nat.le_of_not_lt fun h => txt_irrefl _ (aheadN_lt l l[i] h hi)
  have h2 : ¬ aheadN l l[i] < i := fun h => aheadN_ge l l[i] (by omega) (List.pairwise_iff_getElem.1 hr _ i (by omega) hi h)
  have h3 : aheadN l l[i] = i := by omega
  rw [h3, List.getElem?_eq_getElem hi]
theorem rises_inj {l : List Ent} (h : Rises (pathsE l)) {a b : Ent} (ha : a ∈ l) (hb : b ∈ l) (e : a.path = b.path) : a = b := by
  obtain ⟨i, hi, rfl⟩ := List.getElem_of_mem ha
  obtain ⟨j, hj, rfl⟩ := List.getElem_of_mem hb
  have h1 : ∀ i j (hi : i < l.length) (hj : j < l.length), i < j → l[i].path < l[j].path := fun i j hi hj hij => by
    have := List.pairwise_iff_getElem.1 h i j (by simpa [pathsE] using hi) (by simpa [pathsE] using hj) hij
    simpa [pathsE] using this
  rcases Nat.lt_trichotomy i j with hij | hij | hij
  · have := h1 i j hi hj hij
    rw [e] at this
    exact absurd this (txt_irrefl _)
  · subst hij; rfl
  · have := h1 j i hj hi hij
    rw [e] at this
    exact absurd this (txt_irrefl _)
theorem mem_paths {l : List Ent} {p : Txt} : p ∈ pathsE l ↔ ∃ x ∈ l, x.path = p := by simp [pathsE]
theorem ents_ext {l m : List Ent} (hl : Rises (pathsE l)) (hm : Rises (pathsE m)) (h1 : ∀ x ∈ m, x ∈ l) (h2 : ∀ x ∈ l, x.path ∈ pathsE m) : l = m := by
  have e : pathsE l = pathsE m := rises_ext hl hm fun p => ⟨fun hp => by obtain ⟨x, hx, rfl⟩ := mem_paths.1 hp; exact h2 x hx, fun hp => by obtain ⟨x, hx, rfl⟩ := mem_paths.1 hp; exact mem_paths.2 ⟨x, h1 x hx, rfl⟩⟩
  have el : l.length = m.length := by have := congrArg List.length e; simpa [pathsE] using this
  apply List.ext_getElem el
  intro i hi hj
  apply rises_inj hl (List.getElem_mem hi) (h1 _ (List.getElem_mem hj))
  have h3 : (pathsE l)[i]? = (pathsE m)[i]? := by rw [e]
  simp only [pathsE, List.getElem?_map, List.getElem?_eq_getElem hi, List.getElem?_eq_getElem hj, Option.map_some] at h3
  exact Option.some.inj h3
def fileA (x : Ent) : ActP := ⟨4, x.path, x, srv0⟩
def userA (n : Txt) : ActP := ⟨5, n, ent0, srv0⟩
def startA (u : Srv) : ActP := ⟨6, u.name, ent0, u⟩
theorem led_files {s : Mach} (hg : GoodM s) {F : List Ent} (hF : Rises (pathsE F)) (hr : ∀ x ∈ F, rightB [x] = true) (hn : F.length ≤ 24) (l0 : List Ent) (hl0 : ∀ x ∈ l0, x ∈ F) (h1 : ∀ x ∈ s.files, x.path ∈ pathsE F) (h2 : ∀ x ∈ F, x ∉ l0 → x ∈ s.files) : Led s (runM s (l0.map fileA)) (fun t => t.users = s.users ∧ t.units = s.units ∧ t.files = F) := by
  have h := led_list l0 fileA (fun done t => t.users = s.users ∧ t.units = s.units ∧ (∀ x ∈ t.files, x.path ∈ pathsE F) ∧ (∀ x ∈ F, x ∉ l0 ∨ x ∈ done → x ∈ t.files)) (fun done x rest t hl hgt ⟨i1, i2, i3, i4⟩ => by
    have hx : x ∈ F := hl0 x (by rw [hl]; simp)
    have hxp : x.path ∈ pathsE F := mem_paths.2 ⟨x, hx, rfl⟩
    have he : doM t (fileA x) = doFile t x.path x := rfl
    rw [he]
    unfold doFile
    rw [if_pos ⟨rfl, hr x hx⟩]
    by_cases hi : (pathsE t.files)[aheadN (pathsE t.files) x.path]? = some x.path
    · rw [if_pos hi]
      have hil := ahead_bound hi
      have hil' : aheadN (pathsE t.files) x.path < t.files.length := by simpa [pathsE] using hil
      refine .inl ⟨rfl, ⟨i1, i2, fun y hy => ?_, fun y hy hd => ?_⟩, Nat.le_refl _⟩
      · rcases List.mem_or_eq_of_mem_set hy with hy | hy
        · exact i3 y hy
        · rw [hy]; exact hxp
      · show y ∈ t.files.set (aheadN (pathsE t.files) x.path) x
        by_cases hyx : y.path = x.path
        · rw [rises_inj hF hy hx hyx]
          exact List.mem_iff_getElem?.2 ⟨_, by rw [List.getElem?_set_self hil']⟩
        · have hyt : y ∈ t.files := i4 y hy (by
            rcases hd with hd | hd
            · exact .inl hd
            · rcases List.mem_append.1 hd with hd | hd
              · exact .inr hd
              · exact absurd (by rw [List.mem_singleton.1 hd]) hyx)
          obtain ⟨j, hj⟩ := List.mem_iff_getElem?.1 hyt
          refine List.mem_iff_getElem?.2 ⟨j, ?_⟩
          rw [List.getElem?_set_ne, hj]
          rintro rfl
          have h9 : (t.files.map (·.path))[aheadN (pathsE t.files) x.path]? = some x.path := hi
          rw [List.getElem?_map, hj] at h9
          exact hyx (Option.some.inj h9)
    · rw [if_neg hi]
      have hnp : x.path ∉ pathsE t.files := fun hp => hi (ahead_mem hgt.files hp)
      have hlen := nodup_le (l := x.path :: pathsE t.files) (m := pathsE F) (List.nodup_cons.2 ⟨hnp, rises_nodup hgt.files⟩) (fun p hp => by
        rcases List.mem_cons.1 hp with rfl | hp
        · exact hxp
        · obtain ⟨y, hy, rfl⟩ := mem_paths.1 hp
          exact i3 y hy)
      simp only [pathsE, List.length_cons, List.length_map] at hlen
      rw [if_neg (by omega)]
      refine .inl ⟨rfl, ⟨i1, i2, fun y hy => ?_, fun y hy hd => ?_⟩, Nat.le_refl _⟩
      · rcases (mem_ins21 _ _ _ _).1 hy with hy | hy
        · exact i3 y hy
        · rw [hy]; exact hxp
      · refine (mem_ins21 _ _ _ _).2 ?_
        rcases hd with hd | hd
        · exact .inl (i4 y hy (.inl hd))
        · rcases List.mem_append.1 hd with hd | hd
          · exact .inl (i4 y hy (.inr hd))
          · exact .inr (List.mem_singleton.1 hd)) l0 [] s rfl hg ⟨rfl, rfl, h1, fun x hx hd => h2 x hx (by simpa using hd)⟩
  obtain ⟨hgt, h⟩ := h
  refine ⟨hgt, h.imp (fun ⟨q1, ⟨q2, q3, q4, q5⟩, q6⟩ => ⟨q1, ⟨q2, q3, ?_⟩, q6⟩) id⟩
  exact ents_ext hgt.files hF (fun x hx => q5 x hx (by by_cases h : x ∈ l0; exact .inr h; exact .inl h)) q4
theorem led_users {s : Mach} (hg : GoodM s) {U : List Txt} (hU : Rises U) (hr : ∀ x ∈ U, nameB x = true) (hn : U.length ≤ 16) (l0 : List Txt) (hl0 : ∀ x ∈ l0, x ∈ U) (h1 : ∀ x ∈ s.users, x ∈ U) (h2 : ∀ x ∈ U, x ∉ l0 → x ∈ s.users) : Led s (runM s (l0.map userA)) (fun t => t.files = s.files ∧ t.units = s.units ∧ t.users = U) := by
  have h := led_list l0 userA (fun done t => t.files = s.files ∧ t.units = s.units ∧ (∀ x ∈ t.users, x ∈ U) ∧ (∀ x ∈ U, x ∉ l0 ∨ x ∈ done → x ∈ t.users)) (fun done x rest t hl hgt ⟨i1, i2, i3, i4⟩ => by
    have hx : x ∈ U := hl0 x (by rw [hl]; simp)
    have he : doM t (userA x) = doUser t x := rfl
    rw [he]
    unfold doUser
    rw [if_pos (hr x hx)]
    by_cases hi : t.users[aheadN t.users x]? = some x
    · rw [if_pos hi]
      refine .inl ⟨rfl, ⟨i1, i2, i3, fun y hy hd => ?_⟩, Nat.le_refl _⟩
      rcases hd with hd | hd
      · exact i4 y hy (.inl hd)
      · rcases List.mem_append.1 hd with hd | hd
        · exact i4 y hy (.inr hd)
        · rw [List.mem_singleton.1 hd]
          exact List.mem_iff_getElem?.2 ⟨_, hi⟩
    · rw [if_neg hi]
      have hnp : x ∉ t.users := fun hp => hi (ahead_mem hgt.users hp)
      have hlen := nodup_le (l := x :: t.users) (m := U) (List.nodup_cons.2 ⟨hnp, rises_nodup hgt.users⟩) (fun p hp => by
        rcases List.mem_cons.1 hp with rfl | hp
        · exact hx
        · exact i3 p hp)
      simp only [List.length_cons] at hlen
      rw [if_neg (by omega)]
      refine .inl ⟨rfl, ⟨i1, i2, fun y hy => ?_, fun y hy hd => ?_⟩, Nat.le_refl _⟩
      · rcases (mem_ins21 _ _ _ _).1 hy with hy | hy
        · exact i3 y hy
        · rw [hy]; exact hx
      · refine (mem_ins21 _ _ _ _).2 ?_
        rcases hd with hd | hd
        · exact .inl (i4 y hy (.inl hd))
        · rcases List.mem_append.1 hd with hd | hd
          · exact .inl (i4 y hy (.inr hd))
          · exact .inr (List.mem_singleton.1 hd)) l0 [] s rfl hg ⟨rfl, rfl, h1, fun x hx hd => h2 x hx (by simpa using hd)⟩
  obtain ⟨hgt, h⟩ := h
  refine ⟨hgt, h.imp (fun ⟨q1, ⟨q2, q3, q4, q5⟩, q6⟩ => ⟨q1, ⟨q2, q3, ?_⟩, q6⟩) id⟩
  exact rises_ext hgt.users hU fun x => ⟨q4 x, fun hx => q5 x hx (by by_cases h : x ∈ l0; exact .inr h; exact .inl h)⟩
theorem units_ok_at : ∀ (l acc : List Srv), unitsOk acc l = true → ∀ a x b, l = a ++ x :: b → mayU x = true ∧ hasU (acc ++ a) x.name = false ∧ x.req.all (hasU (acc ++ a)) = true
  | [], acc, h, a, x, b, e => by simp at e
  | u :: l, acc, h, a, x, b, e => by
    simp only [unitsOk, Bool.and_eq_true, Bool.not_eq_true'] at h
    cases a with
    | nil =>
      simp only [List.nil_append, List.cons.injEq] at e
      obtain ⟨rfl, -⟩ := e
      rw [List.append_nil]
      exact ⟨h.1.1.1, h.1.1.2, h.1.2⟩
    | cons v a =>
      simp only [List.cons_append, List.cons.injEq] at e
      obtain ⟨rfl, e⟩ := e
      have := units_ok_at l (acc ++ [u]) h.2 a x b e
      simpa using this
theorem led_starts {s : Mach} (hg : GoodM s) {U : List Srv} (hU : unitsOk [] U = true) (hn : U.length ≤ 24) (k : Nat) (hk : s.units = U.take k) : Led s (runM s ((U.drop k).map startA)) (fun t => t.files = s.files ∧ t.users = s.users ∧ t.units = U) := by
  have h := led_list (U.drop k) startA (fun done t => t.files = s.files ∧ t.users = s.users ∧ t.units = U.take k ++ done) (fun done x rest t hl hgt ⟨i1, i2, i3⟩ => by
    have hs : U = (U.take k ++ done) ++ x :: rest := by
      conv => lhs; rw [← List.take_append_drop k U, hl]
      simp
    obtain ⟨m1, m2, m3⟩ := units_ok_at U [] hU _ x rest hs
    rw [List.nil_append, ← i3] at m2 m3
    have hlen : t.units.length + 1 ≤ U.length := by rw [i3]; have := congrArg List.length hs; simp at this ⊢; omega
    have he : doM t (startA x) = doStart t x.name x := rfl
    rw [he]
    unfold doStart
    rw [if_pos ⟨m1, rfl⟩, if_neg (by rw [m2]; intro h; cases h.1), if_neg (by rw [m3]; decide), if_neg (by rw [m2]; decide), if_neg (by omega)]
    by_cases hf : failsP t.plan = true
    · rw [if_pos hf]
      exact .inr ⟨rfl, badN_fails hf⟩
    · rw [if_neg hf]
      refine .inl ⟨rfl, ⟨i1, i2, ?_⟩, badN_tail _⟩
      show t.units ++ [x] = _
      rw [i3, List.append_assoc]) (U.drop k) [] s rfl hg ⟨rfl, rfl, by simpa using hk⟩
  obtain ⟨hgt, h⟩ := h
  exact ⟨hgt, h.imp (fun ⟨q1, ⟨q2, q3, q4⟩, q6⟩ => ⟨q1, ⟨q2, q3, q4.trans (List.take_append_drop k U)⟩, q6⟩) id⟩

/-! A system, and the steps to it -/
deriving instance DecidableEq for Ent
def linesU (u : Srv) : Txt := [114, 117, 110, 32] ++ u.start ++ [10] ++ u.req.flatMap (fun n => [114, 101, 113, 117, 105, 114, 101, 115, 32] ++ n ++ [10]) ++ u.aft.flatMap (fun n => [97, 102, 116, 101, 114, 32] ++ n ++ [10])
def textS (s : SysP) : Txt := s.users.flatMap (fun n => [117, 115, 101, 114, 32] ++ n ++ [10]) ++ s.units.flatMap (fun u => [117, 110, 105, 116, 32] ++ u.name ++ [10] ++ linesU u) ++ [101, 110, 100, 10]
def laidS (s : SysP) : List Ent := s.files.map (fun x => ⟨[101, 116, 99, 47] ++ x.path, x.kind, x.data⟩) ++ [⟨[115, 121, 115, 116, 101, 109], 1, textS s⟩]
/-- May a system be? -/
def rightS (s : SysP) : Bool := rightB s.files && decide (s.users.length ≤ 16 ∧ s.units.length ≤ 24) && s.users.all nameB && decide (s.users.Pairwise (· < ·)) && unitsOk [] s.units && rightB (laidS s)
def sameN : List Srv → List Srv → Nat
  | a :: l, b :: m => if a = b then sameN l m + 1 else 0
  | _, _ => 0
theorem take_same : ∀ l m : List Srv, l.take (sameN l m) = m.take (sameN l m)
  | [], [] => rfl
  | [], _ :: _ => rfl
  | _ :: _, [] => rfl
  | a :: l, b :: m => by
    unfold sameN
    by_cases h : a = b
    · rw [if_pos h, List.take_succ_cons, List.take_succ_cons, h, take_same l m]
    · rw [if_neg h]; rfl
theorem same_self : ∀ l : List Srv, sameN l l = l.length
  | [] => rfl
  | a :: l => by unfold sameN; rw [if_pos rfl, same_self l]; rfl
def actsS (o s : SysP) : List ActP :=
  (o.units.drop (sameN o.units s.units)).reverse.map stopA ++ ((o.files.filter fun x => decide (x.path ∉ pathsE s.files)).map removeA ++ ((o.users.filter fun n => decide (n ∉ s.users)).map dropA ++
    ((s.files.filter fun x => decide (x ∉ o.files)).map fileA ++ ((s.users.filter fun n => decide (n ∉ o.users)).map userA ++ (s.units.drop (sameN o.units s.units)).map startA))))
def Mach.sys (m : Mach) : SysP := ⟨m.files, m.users, m.units⟩
theorem right_parts {s : SysP} (h : rightS s = true) : rightB s.files = true ∧ s.users.length ≤ 16 ∧ s.units.length ≤ 24 ∧ (∀ n ∈ s.users, nameB n = true) ∧ Rises s.users ∧ unitsOk [] s.units = true ∧ rightB (laidS s) = true := by
  unfold rightS at h
  simp only [Bool.and_eq_true, decide_eq_true_eq, List.all_eq_true] at h
  exact ⟨h.1.1.1.1.1, h.1.1.1.1.2.1, h.1.1.1.1.2.2, h.1.1.1.2, h.1.1.2, h.1.2, h.2⟩
theorem right_fits {l : List Ent} (h : rightB l = true) : l.length ≤ 24 ∧ ∀ (i : Nat) (hi : i < l.length), fitsB l i l[i] = true := by
  unfold rightB at h
  simp only [Bool.and_eq_true, decide_eq_true_eq] at h
  refine ⟨h.1, fun i hi => ?_⟩
  have h2 := h.2
  unfold rightTo at h2
  have h3 := List.all_eq_true.1 h2 i (List.mem_range.2 hi)
  simpa [List.getElem?_eq_getElem hi] using h3
theorem right_rises {l : List Ent} (h : rightB l = true) : Rises (pathsE l) := by
  obtain ⟨_, h2⟩ := right_fits h
  refine List.pairwise_iff_getElem.2 fun i j hi hj hij => ?_
  simp only [pathsE, List.length_map] at hi hj
  have h3 := h2 j hj
  unfold fitsB at h3
  simp only [Bool.and_eq_true] at h3
  have h4 := List.all_eq_true.1 h3.2 l[i] (List.mem_iff_getElem?.2 ⟨i, by rw [List.getElem?_take, if_pos hij, List.getElem?_eq_getElem hi]⟩)
  unfold aheadB at h4
  simp only [Bool.and_eq_true, decide_eq_true_eq] at h4
  simpa [pathsE] using h4.1
theorem right_one {l : List Ent} (h : rightB l = true) {x : Ent} (hx : x ∈ l) : rightB [x] = true := by
  obtain ⟨i, hi, rfl⟩ := List.getElem_of_mem hx
  have h3 := (right_fits h).2 i hi
  unfold fitsB at h3
  simp only [Bool.and_eq_true] at h3
  simp [rightB, rightTo, fitsB, List.range_succ, h3.1]
/-- Led by its steps a machine comes to be the system, or a service failed. -/
theorem led_acts {m : Mach} (hg : GoodM m) {s : SysP} (hs : rightS s = true) : Led m (runM m (actsS m.sys s)) (fun t => t.files = s.files ∧ t.users = s.users ∧ t.units = s.units) := by
  obtain ⟨r1, r2, r3, r4, r5, r6, -⟩ := right_parts hs
  unfold actsS Mach.sys
  dsimp only
  refine Led.append (led_stops hg _) fun t1 g1 ⟨a1, a2, a3⟩ => ?_
  refine Led.append (led_removes g1 _) fun t2 g2 ⟨b1, b2, b3⟩ => ?_
  refine Led.append (led_drops g2 _) fun t3 g3 ⟨c1, c2, c3⟩ => ?_
  rw [a1] at b3
  rw [b1, a2] at c3
  refine Led.append (led_files g3 (right_rises r1) (fun x hx => right_one r1 hx) (right_fits r1).1 _ (fun x hx => (List.mem_filter.1 hx).1) (fun x hx => ?_) (fun x hx hn => ?_)) fun t4 g4 ⟨d1, d2, d3⟩ => ?_
  · rw [c1, b3] at hx
    by_cases hp : x.path ∈ pathsE s.files
    · exact hp
    · exact absurd rfl (hx.2 x (List.mem_filter.2 ⟨hx.1, by simpa using hp⟩))
  · rw [c1, b3]
    refine ⟨?_, fun d hd e => ?_⟩
    · by_cases hm : x ∈ m.files
      · exact hm
      · exact absurd (List.mem_filter.2 ⟨hx, decide_eq_true hm⟩) hn
    · have h1 := (List.mem_filter.1 hd).2
      simp only [decide_eq_true_eq] at h1
      exact h1 (e ▸ mem_paths.2 ⟨x, hx, rfl⟩)
  · refine Led.append (led_users g4 r5 r4 r2 _ (fun x hx => (List.mem_filter.1 hx).1) (fun x hx => ?_) (fun x hx hn => ?_)) fun t5 g5 ⟨e1, e2, e3⟩ => ?_
    · rw [d1, c3] at hx
      by_cases hp : x ∈ s.users
      · exact hp
      · exact absurd (List.mem_filter.2 ⟨hx.1, by simpa using hp⟩) hx.2
    · rw [d1, c3]
      refine ⟨?_, fun hd => ?_⟩
      · by_cases hm : x ∈ m.users
        · exact hm
        · exact absurd (List.mem_filter.2 ⟨hx, decide_eq_true hm⟩) hn
      · have h1 := (List.mem_filter.1 hd).2
        simp only [decide_eq_true_eq] at h1
        exact h1 hx
    · obtain ⟨q0, q⟩ := led_starts g5 r6 r3 (sameN m.units s.units) (by rw [e2, d2, c2, b2, a3]; exact take_same _ _)
      exact ⟨q0, q.imp (fun ⟨w1, ⟨w2, w3, w4⟩, w5⟩ => ⟨w1, ⟨by rw [w2, e1, d3], by rw [w3, e3], w4⟩, w5⟩) id⟩
theorem acts_none (s : SysP) : actsS s s = [] := by
  unfold actsS
  rw [same_self]
  have h1 : (s.files.filter fun x => decide (x.path ∉ pathsE s.files)) = [] := List.filter_eq_nil_iff.2 fun x hx => by simpa using mem_paths.2 ⟨x, hx, rfl⟩
  have h2 : (s.users.filter fun n => decide (n ∉ s.users)) = [] := List.filter_eq_nil_iff.2 fun x hx => by simpa using hx
  have h3 : (s.files.filter fun x => decide (x ∉ s.files)) = [] := List.filter_eq_nil_iff.2 fun x hx => by simpa using hx
  rw [h1, h2, h3, List.drop_length]
  rfl
/-- A machine is led to a system. -/
def toM (m : Mach) (s : SysP) : Mach × Int := if rightS s = true then ((runM m (actsS m.sys s)).1, (runM m (actsS m.sys s)).2.2) else (m, 70)
theorem to_led {m : Mach} (hg : GoodM m) {s : SysP} (hs : rightS s = true) : GoodM (toM m s).1 ∧ (((toM m s).2 = 0 ∧ (toM m s).1.sys = s ∧ badN (toM m s).1.plan ≤ badN m.plan) ∨ ((toM m s).2 = 71 ∧ badN (toM m s).1.plan + 1 ≤ badN m.plan)) := by
  obtain ⟨h1, h2⟩ := led_acts hg hs
  unfold toM
  rw [if_pos hs]
  refine ⟨h1, h2.imp (fun ⟨q1, ⟨q2, q3, q4⟩, q5⟩ => ⟨q1, ?_, q5⟩) id⟩
  show (⟨_, _, _⟩ : SysP) = s
  rw [q2, q3, q4]
theorem to_again {m : Mach} {s : SysP} (hs : rightS s = true) (h : m.sys = s) : toM m s = (m, 0) := by
  unfold toM
  rw [if_pos hs, h, acts_none]
  rfl

/-! What a walk of Right finds: unit by unit -/
theorem units_ok_snoc : ∀ (l acc : List Srv) (u : Srv), unitsOk acc (l ++ [u]) = (unitsOk acc l && (mayU u && !hasU (acc ++ l) u.name && u.req.all (hasU (acc ++ l))))
  | [], acc, u => by simp [unitsOk]
  | v :: l, acc, u => by
    have ih := units_ok_snoc l (acc ++ [v]) u
    simp only [List.cons_append, unitsOk, ih, List.append_assoc, List.nil_append]
    simp only [Bool.and_assoc]
theorem units_ok_left : ∀ (l acc r : List Srv), unitsOk acc (l ++ r) = true → unitsOk acc l = true
  | [], acc, r, _ => rfl
  | v :: l, acc, r, h => by
    simp only [List.cons_append, unitsOk, Bool.and_eq_true] at h ⊢
    exact ⟨h.1, units_ok_left l _ r h.2⟩
theorem start_new {U : List Srv} {u : Srv} (hn : hasU U u.name = false) (hl : U.length < 24) : doM ⟨[], [], U, []⟩ (startA u) = if mayU u && u.req.all (hasU U) then (⟨[], [], U ++ [u], []⟩, 0) else (⟨[], [], U, []⟩, 70) := by
  have he : doM ⟨[], [], U, []⟩ (startA u) = doStart ⟨[], [], U, []⟩ u.name u := rfl
  rw [he]
  unfold doStart
  by_cases hm : mayU u = true
  · rw [if_pos ⟨hm, rfl⟩, if_neg (by show ¬ (hasU U u.name = true ∧ _); rw [hn]; intro h; cases h.1)]
    by_cases hr : u.req.all (hasU U) = true
    · rw [if_neg (by show ¬ u.req.all (hasU U) = false; rw [hr]; decide), if_neg (by show ¬ hasU U u.name = true; rw [hn]; decide), if_neg (by show ¬ U.length = 24; omega), if_neg (by show ¬ failsP [] = true; decide), if_pos (by rw [hm, hr]; rfl)]
      rfl
    · have hr' : u.req.all (hasU U) = false := by simpa using hr
      rw [if_pos hr', if_neg (by rw [hr']; simp)]
  · rw [if_neg (fun h => hm h.1), if_neg (by simp [hm])]
end Go.Proofs.YtibndaianhlcaaaGreatDoor
namespace Go.Proofs.YtibndaianhlcaaaGreatDoor
set_option linter.unusedVariables false
set_option linter.unusedSimpArgs false

def splitN (c : UInt8) : Txt → List Txt
  | [] => [[]]
  | x :: l => if x = c then [] :: splitN c l else match splitN c l with
    | [] => [[x]]
    | p :: q => (x :: p) :: q
theorem splitN_ne (c : UInt8) (l : Txt) : splitN c l ≠ [] := by
  cases l with
  | nil => simp [splitN]
  | cons x l =>
    unfold splitN
    split
    · simp
    · split <;> simp
theorem splitN_line (c : UInt8) : ∀ (a b : Txt), c ∉ a → splitN c (a ++ c :: b) = a :: splitN c b
  | [], b, _ => by simp [splitN]
  | x :: a, b, h => by
    have hx : ¬ x = c := fun e => h (by rw [e]; exact List.mem_cons_self)
    have ih := splitN_line c a b (fun hm => h (List.mem_cons_of_mem _ hm))
    rw [List.cons_append, splitN, if_neg hx, ih]
/-- A line's first word, and what is behind the blank. -/
def wordT (l : Txt) : Txt := l.takeWhile fun x => decide (x ≠ 32)
def behindT (l : Txt) : Txt := (l.dropWhile fun x => decide (x ≠ 32)).drop 1
theorem word_line : ∀ (w r : Txt), (32 : UInt8) ∉ w → wordT (w ++ 32 :: r) = w ∧ behindT (w ++ 32 :: r) = r
  | [], r, _ => by simp [wordT, behindT]
  | x :: w, r, h => by
    have hx : x ≠ 32 := fun e => h (by rw [e]; exact List.mem_cons_self)
    obtain ⟨h1, h2⟩ := word_line w r (fun hm => h (List.mem_cons_of_mem _ hm))
    unfold wordT behindT at *
    refine ⟨?_, ?_⟩
    · rw [List.cons_append, List.takeWhile_cons_of_pos (by simpa using hx), h1]
    · rw [List.cons_append, List.dropWhile_cons_of_pos (by simpa using hx), h2]
def wRun : Txt := [114, 117, 110]
def wReq : Txt := [114, 101, 113, 117, 105, 114, 101, 115]
def wAft : Txt := [97, 102, 116, 101, 114]
def wUser : Txt := [117, 115, 101, 114]
def wUnit : Txt := [117, 110, 105, 116]
/-- A line is added to a unit; false: it is none of a unit's. -/
def moreU (u : Srv) (w r : Txt) : Srv × Bool :=
  if w = wRun then (⟨u.name, r, u.req, u.aft⟩, true)
  else if w = wReq then (⟨u.name, u.start, u.req ++ [r], u.aft⟩, true)
  else if w = wAft then (⟨u.name, u.start, u.req, u.aft ++ [r]⟩, true)
  else (u, false)
def lastU (l : List Srv) (f : Srv → Srv) : List Srv := match l.getLast? with
  | none => l
  | some u => l.dropLast ++ [f u]
theorem last_id (l : List Srv) : lastU l (fun u => u) = l := by
  rcases List.eq_nil_or_concat l with rfl | ⟨m, u, rfl⟩
  · rfl
  · unfold lastU
    simp
theorem last_app (l : List Srv) (u : Srv) (f : Srv → Srv) : lastU (l ++ [u]) f = l ++ [f u] := by
  unfold lastU
  simp
/-- What a line makes of a system. -/
def sysLine (s : SysP) (l : Txt) : SysP :=
  if wordT l = wUser then ⟨s.files, s.users ++ [behindT l], s.units⟩
  else if wordT l = wUnit then ⟨s.files, s.users, s.units ++ [⟨behindT l, [], [], []⟩]⟩
  else ⟨s.files, s.users, lastU s.units fun u => (moreU u (wordT l) (behindT l)).1⟩
def sysText (s : SysP) (t : Txt) : SysP := (splitN 10 t).foldl sysLine s
theorem sys_line {s : SysP} {a b : Txt} (h : (10 : UInt8) ∉ a) : sysText s (a ++ 10 :: b) = sysText (sysLine s a) b := by
  unfold sysText
  rw [splitN_line 10 a b h]
  rfl
theorem line_user (s : SysP) (n : Txt) : sysLine s ([117, 115, 101, 114, 32] ++ n) = ⟨s.files, s.users ++ [n], s.units⟩ := by
  obtain ⟨h1, h2⟩ := word_line wUser n (by decide)
  have e : ([117, 115, 101, 114, 32] : Txt) ++ n = wUser ++ 32 :: n := rfl
  rw [e]
  unfold sysLine
  rw [h1, h2, if_pos rfl]
theorem line_unit (s : SysP) (n : Txt) : sysLine s ([117, 110, 105, 116, 32] ++ n) = ⟨s.files, s.users, s.units ++ [⟨n, [], [], []⟩]⟩ := by
  obtain ⟨h1, h2⟩ := word_line wUnit n (by decide)
  have e : ([117, 110, 105, 116, 32] : Txt) ++ n = wUnit ++ 32 :: n := rfl
  rw [e]
  unfold sysLine
  rw [h1, h2, if_neg (by decide), if_pos rfl]
theorem line_more {s : SysP} {U : List Srv} {u : Srv} (hu : s.units = U ++ [u]) (w n : Txt) (hw : (32 : UInt8) ∉ w) (h1 : w ≠ wUser) (h2 : w ≠ wUnit) : sysLine s (w ++ 32 :: n) = ⟨s.files, s.users, U ++ [(moreU u w n).1]⟩ := by
  obtain ⟨e1, e2⟩ := word_line w n hw
  unfold sysLine
  rw [e1, e2, if_neg h1, if_neg h2, hu, last_app]
theorem text_users : ∀ (us : List Txt) (s : SysP) (t : Txt), (∀ n ∈ us, (10 : UInt8) ∉ n) → sysText s (us.flatMap (fun n => [117, 115, 101, 114, 32] ++ n ++ [10]) ++ t) = sysText ⟨s.files, s.users ++ us, s.units⟩ t
  | [], s, t, _ => by simp
  | n :: us, s, t, h => by
    have hn : (10 : UInt8) ∉ [117, 115, 101, 114, 32] ++ n := by
      intro hm
      rcases List.mem_append.1 hm with hm | hm
      · revert hm; decide
      · exact h n List.mem_cons_self hm
    have e : (n :: us).flatMap (fun n => [117, 115, 101, 114, 32] ++ n ++ [10]) ++ t = ([117, 115, 101, 114, 32] ++ n) ++ 10 :: (us.flatMap (fun n => [117, 115, 101, 114, 32] ++ n ++ [10]) ++ t) := by simp
    rw [e, sys_line hn, line_user, text_users us _ t (fun m hm => h m (List.mem_cons_of_mem _ hm))]
    simp
theorem text_more (w : Txt) (hw : (32 : UInt8) ∉ w) (hw2 : (10 : UInt8) ∉ w) (h1 : w ≠ wUser) (h2 : w ≠ wUnit) : ∀ (ns : List Txt) (U : List Srv) (u : Srv) (s : SysP) (t : Txt), s.units = U ++ [u] → (∀ n ∈ ns, (10 : UInt8) ∉ n) →
    sysText s (ns.flatMap (fun n => (w ++ [32]) ++ n ++ [10]) ++ t) = sysText ⟨s.files, s.users, U ++ [ns.foldl (fun v n => (moreU v w n).1) u]⟩ t
  | [], U, u, s, t, hu, _ => by simp [← hu]
  | n :: ns, U, u, s, t, hu, h => by
    have hn : (10 : UInt8) ∉ w ++ 32 :: n := by
      intro hm
      rcases List.mem_append.1 hm with hm | hm
      · exact hw2 hm
      · rcases List.mem_cons.1 hm with hm | hm
        · revert hm; decide
        · exact h n List.mem_cons_self hm
    have e : (n :: ns).flatMap (fun n => (w ++ [32]) ++ n ++ [10]) ++ t = (w ++ 32 :: n) ++ 10 :: (ns.flatMap (fun n => (w ++ [32]) ++ n ++ [10]) ++ t) := by simp
    rw [e, sys_line hn, line_more hu w n hw h1 h2, text_more w hw hw2 h1 h2 ns U (moreU u w n).1 _ t rfl (fun m hm => h m (List.mem_cons_of_mem _ hm))]
    rfl
theorem fold_req : ∀ (ns : List Txt) (u : Srv), ns.foldl (fun v n => (moreU v wReq n).1) u = ⟨u.name, u.start, u.req ++ ns, u.aft⟩
  | [], u => by simp
  | n :: ns, u => by
    have e : (moreU u wReq n).1 = ⟨u.name, u.start, u.req ++ [n], u.aft⟩ := by unfold moreU; rw [if_neg (by decide), if_pos rfl]
    rw [List.foldl_cons, e, fold_req ns]
    simp
theorem fold_aft : ∀ (ns : List Txt) (u : Srv), ns.foldl (fun v n => (moreU v wAft n).1) u = ⟨u.name, u.start, u.req, u.aft ++ ns⟩
  | [], u => by simp
  | n :: ns, u => by
    have e : (moreU u wAft n).1 = ⟨u.name, u.start, u.req, u.aft ++ [n]⟩ := by unfold moreU; rw [if_neg (by decide), if_neg (by decide), if_pos rfl]
    rw [List.foldl_cons, e, fold_aft ns]
    simp
/-- No line ends within a unit's words. -/
def Calm (u : Srv) : Prop := (10 : UInt8) ∉ u.name ∧ (10 : UInt8) ∉ u.start ∧ (∀ n ∈ u.req, (10 : UInt8) ∉ n) ∧ (∀ n ∈ u.aft, (10 : UInt8) ∉ n)
theorem text_unit {s : SysP} {u : Srv} (hc : Calm u) (t : Txt) : sysText s ([117, 110, 105, 116, 32] ++ u.name ++ [10] ++ linesU u ++ t) = sysText ⟨s.files, s.users, s.units ++ [u]⟩ t := by
  obtain ⟨c1, c2, c3, c4⟩ := hc
  have n1 : (10 : UInt8) ∉ [117, 110, 105, 116, 32] ++ u.name := by
    intro hm
    rcases List.mem_append.1 hm with hm | hm
    · revert hm; decide
    · exact c1 hm
  have e1 : [117, 110, 105, 116, 32] ++ u.name ++ [10] ++ linesU u ++ t = ([117, 110, 105, 116, 32] ++ u.name) ++ 10 :: (([u.start].flatMap (fun n => (wRun ++ [32]) ++ n ++ [10])) ++ (u.req.flatMap (fun n => (wReq ++ [32]) ++ n ++ [10]) ++ (u.aft.flatMap (fun n => (wAft ++ [32]) ++ n ++ [10]) ++ t))) := by
    simp [linesU, wRun, wReq, wAft]
  rw [e1, sys_line n1, line_unit]
  rw [text_more wRun (by decide) (by decide) (by decide) (by decide) [u.start] s.units ⟨u.name, [], [], []⟩ _ _ rfl (by simpa using c2)]
  rw [text_more wReq (by decide) (by decide) (by decide) (by decide) u.req s.units _ _ _ rfl c3, fold_req]
  rw [text_more wAft (by decide) (by decide) (by decide) (by decide) u.aft s.units _ _ _ rfl c4, fold_aft]
  have e2 : [u.start].foldl (fun v n => (moreU v wRun n).1) (⟨u.name, [], [], []⟩ : Srv) = ⟨u.name, u.start, [], []⟩ := rfl
  rw [e2]
  simp
theorem text_units : ∀ (us : List Srv) (s : SysP) (t : Txt), (∀ u ∈ us, Calm u) → sysText s (us.flatMap (fun u => [117, 110, 105, 116, 32] ++ u.name ++ [10] ++ linesU u) ++ t) = sysText ⟨s.files, s.users, s.units ++ us⟩ t
  | [], s, t, _ => by simp
  | u :: us, s, t, h => by
    rw [List.flatMap_cons, List.append_assoc, text_unit (h u List.mem_cons_self), text_units us _ t (fun v hv => h v (List.mem_cons_of_mem _ hv))]
    simp
/-- A system's text is read as that system. -/
theorem sys_back {s : SysP} (hu : ∀ n ∈ s.users, (10 : UInt8) ∉ n) (hn : ∀ u ∈ s.units, Calm u) (F : List Ent) : sysText ⟨F, [], []⟩ (textS s) = ⟨F, s.users, s.units⟩ := by
  unfold textS
  rw [List.append_assoc, text_users s.users _ _ hu, text_units s.units _ _ hn]
  have e : ([101, 110, 100, 10] : Txt) = [101, 110, 100] ++ 10 :: [] := rfl
  rw [e, sys_line (by decide)]
  have e2 : ∀ s : SysP, sysLine s [101, 110, 100] = s := fun s => by
    unfold sysLine
    rw [if_neg (by decide), if_neg (by decide)]
    have e3 : ∀ l : List Srv, lastU l (fun u => (moreU u (wordT [101, 110, 100]) (behindT [101, 110, 100])).1) = l := fun l => by
      have e4 : (fun u : Srv => (moreU u (wordT [101, 110, 100]) (behindT [101, 110, 100])).1) = fun u => u := by
        funext u
        unfold moreU
        rw [if_neg (by decide), if_neg (by decide), if_neg (by decide)]
      rw [e4, last_id]
    rw [e3]
  rw [e2]
  have e5 : ∀ s : SysP, sysText s [] = s := fun s => by
    unfold sysText
    show sysLine s [] = s
    unfold sysLine
    rw [if_neg (by decide), if_neg (by decide)]
    have e4 : (fun u : Srv => (moreU u (wordT []) (behindT [])).1) = fun u => u := by
      funext u
      unfold moreU
      rw [if_neg (by decide), if_neg (by decide), if_neg (by decide)]
    rw [e4]
    rw [last_id]
  rw [e5]
  simp
end Go.Proofs.YtibndaianhlcaaaGreatDoor
namespace Go.Proofs.YtibndaianhlcaaaGreatDoor
set_option linter.unusedVariables false
set_option linter.unusedSimpArgs false

/-- Has a step no file and no unit, as far as it needs none? -/
def emptyA (a : ActP) : Bool := (decide (a.kind = 4) || decide (a.file.path = [] ∧ a.file.kind = 0 ∧ a.file.data = [])) && (decide (a.kind = 6) || decide (a.unit.name = [] ∧ a.unit.start = [] ∧ a.unit.req = [] ∧ a.unit.aft = []))
/-- May a step be? -/
def mayA (a : ActP) : Bool := emptyA a &&
  (if a.kind = 1 ∨ a.kind = 3 ∨ a.kind = 5 then nameB a.name
   else if a.kind = 2 then rightB [⟨a.name, 1, []⟩]
   else if a.kind = 4 then decide (a.name = a.file.path) && rightB [a.file]
   else if a.kind = 6 then decide (a.name = a.unit.name) && mayU a.unit
   else false)
def wStop : Txt := [115, 116, 111, 112]
def wRemove : Txt := [114, 101, 109, 111, 118, 101]
def wDrop : Txt := [100, 114, 111, 112]
def wStart : Txt := [115, 116, 97, 114, 116]
def wFile : Txt := [102, 105, 108, 101]
def wEnd : Txt := [101, 110, 100, 10]
/-- A step's first line; `dec` tells a number. -/
def headA (dec : Nat → Txt) (a : ActP) : Txt :=
  if a.kind = 1 then wStop ++ 32 :: a.name
  else if a.kind = 2 then wRemove ++ 32 :: a.name
  else if a.kind = 3 then wDrop ++ 32 :: a.name
  else if a.kind = 5 then wUser ++ 32 :: a.name
  else if a.kind = 6 then wStart ++ 32 :: a.name
  else wFile ++ 32 :: (if a.file.kind = 3 then [108, 32] else [102, 32]) ++ a.file.path ++ 32 :: dec a.file.data.length
def bodyA (a : ActP) : Txt := if a.kind = 4 then a.file.data else if a.kind = 6 then linesU a.unit else []
/-- The script of some steps; none: there is none. -/
def textA (dec : Nat → Txt) (l : List ActP) : Option Txt := if l.length ≤ 128 ∧ l.all mayA = true then some (l.flatMap (fun a => headA dec a ++ 10 :: bodyA a) ++ wEnd) else none
/-- A text cut at its first byte of this kind. -/
def frontT (c : UInt8) (l : Txt) : Txt := l.takeWhile fun x => decide (x ≠ c)
def afterT (c : UInt8) (l : Txt) : Txt := (l.dropWhile fun x => decide (x ≠ c)).drop 1
theorem after_less (c : UInt8) {l : Txt} (h : l ≠ []) : (afterT c l).length < l.length := by
  unfold afterT
  rw [List.length_drop]
  have h1 := (List.dropWhile_sublist (fun x => decide (x ≠ c)) (l := l)).length_le
  have h2 := List.length_pos_iff.2 h
  omega
theorem front_line (c : UInt8) : ∀ (w r : Txt), c ∉ w → frontT c (w ++ c :: r) = w ∧ afterT c (w ++ c :: r) = r
  | [], r, _ => by simp [frontT, afterT]
  | x :: w, r, h => by
    have hx : x ≠ c := fun e => h (by rw [e]; exact List.mem_cons_self)
    obtain ⟨h1, h2⟩ := front_line c w r (fun hm => h (List.mem_cons_of_mem _ hm))
    unfold frontT afterT at *
    refine ⟨?_, ?_⟩
    · rw [List.cons_append, List.takeWhile_cons_of_pos (by simpa using hx), h1]
    · rw [List.cons_append, List.dropWhile_cons_of_pos (by simpa using hx), h2]
/-- One line of a script is read; `num` reads a number's text. none: no script. -/
def readA (num : Txt → Option Nat) (out : List ActP) (rest : Txt) : Option (List ActP × Txt) :=
  let line := frontT 10 rest
  let more := afterT 10 rest
  let word := frontT 32 line
  let name := afterT 32 line
  if word = wStop then some (out ++ [⟨1, name, ent0, srv0⟩], more)
  else if word = wRemove then some (out ++ [⟨2, name, ent0, srv0⟩], more)
  else if word = wDrop then some (out ++ [⟨3, name, ent0, srv0⟩], more)
  else if word = wUser then some (out ++ [⟨5, name, ent0, srv0⟩], more)
  else if word = wStart then some (out ++ [⟨6, name, ent0, ⟨name, [], [], []⟩⟩], more)
  else if word = wFile then
    match splitN 32 name with
    | [k, p, d] => match (if d.length ≤ 4 then num d else none) with
      | some n => if n ≤ more.length then some (out ++ [⟨4, p, ⟨p, if k = [108] then 3 else 1, more.take n⟩, srv0⟩], more.drop n) else some (out ++ [⟨0, [], ent0, srv0⟩], [])
      | none => some (out ++ [⟨0, [], ent0, srv0⟩], [])
    | _ => some (out ++ [⟨0, [], ent0, srv0⟩], [])
  else match out.getLast? with
    | none => none
    | some a => if a.kind = 6 ∧ (moreU a.unit word name).2 = true then some (out.dropLast ++ [⟨a.kind, a.name, a.file, (moreU a.unit word name).1⟩], more) else none
end Go.Proofs.YtibndaianhlcaaaGreatDoor
