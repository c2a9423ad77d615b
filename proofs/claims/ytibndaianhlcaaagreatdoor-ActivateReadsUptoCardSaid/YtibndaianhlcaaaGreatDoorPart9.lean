/- A machine led to a system: plain, with no program in sight. Contracts of the library laid at this dump. A text put into a list: append(append(append([]string{}, l[:at]...), s), l[at:]...), in whatever order its parts are made. -/
import Derived.Test.YtibndaianhlcaaaGreatDoorPart3
import Derived.Shelf.GgClosure.StringsRunes
import Derived.Ground.GgwProg
import Derived.Ground.SlgnProg
import Derived.Ground.SlgfProg
import Derived.Test.YtibndaianhlcaaaGreatDoorProg
import Derived.Test.YtibndaianhlcaaaGreatDoorPart4
import Derived.Test.YtibndaianhlcaaaGreatDoorPart6
namespace Go.Proofs.YtibndaianhlcaaaGreatDoor
set_option linter.unusedVariables false
set_option linter.unusedSimpArgs false

/-- A system. -/
structure SysP where
  files : List Ent
  users : List Txt
  units : List Srv
def ent0 : Ent := ⟨[], 0, []⟩
def srv0 : Srv := ⟨[], [], [], []⟩
/-- Units that may be started one behind the other. -/
def unitsOk : List Srv → List Srv → Bool
  | _, [] => true
  | acc, u :: l => mayU u && !hasU acc u.name && u.req.all (hasU acc) && unitsOk (acc ++ [u]) l
def badN (p : List Bool) : Nat := (p.filter id).length
/-- Steps are done up to the first that fails. -/
def runM : Mach → List ActP → Mach × Nat × Int
  | s, [] => (s, 0, 0)
  | s, a :: l => if (doM s a).2 = 0 then ((runM (doM s a).1 l).1, (runM (doM s a).1 l).2.1 + 1, (runM (doM s a).1 l).2.2) else ((doM s a).1, 0, (doM s a).2)

theorem badN_tail (p : List Bool) : badN p.tail ≤ badN p := by
  cases p with
  | nil => exact Nat.le_refl _
  | cons b p => cases b <;> simp [badN]
theorem badN_fails {p : List Bool} (h : failsP p = true) : badN p.tail + 1 ≤ badN p := by
  cases p with
  | nil => cases h
  | cons b p =>
    have hb : b = true := h
    subst hb
    simp [badN]
/-- One step was done, or a service failed. -/
def Stepped (s : Mach) (r : Mach × Int) (P : Mach → Prop) : Prop := (r.2 = 0 ∧ P r.1 ∧ badN r.1.plan ≤ badN s.plan) ∨ (r.2 = 71 ∧ badN r.1.plan + 1 ≤ badN s.plan)
/-- All was done, or a service failed. -/
def Led (s : Mach) (r : Mach × Nat × Int) (P : Mach → Prop) : Prop := GoodM r.1 ∧ ((r.2.2 = 0 ∧ P r.1 ∧ badN r.1.plan ≤ badN s.plan) ∨ (r.2.2 = 71 ∧ badN r.1.plan + 1 ≤ badN s.plan))
theorem runM_append : ∀ (a : List ActP) (b : List ActP) (s : Mach), (runM s (a ++ b)).1 = (if (runM s a).2.2 = 0 then (runM (runM s a).1 b).1 else (runM s a).1) ∧ (runM s (a ++ b)).2.2 = (if (runM s a).2.2 = 0 then (runM (runM s a).1 b).2.2 else (runM s a).2.2)
  | [], b, s => by simp [runM]
  | x :: a, b, s => by
    have ih := runM_append a b (doM s x).1
    by_cases h : (doM s x).2 = 0
    · simp only [List.cons_append, runM, if_pos h]
      exact ih
    · simp [List.cons_append, runM, h]
theorem Led.append {s : Mach} {a b : List ActP} {P Q : Mach → Prop} (h : Led s (runM s a) P) (k : ∀ t, GoodM t → P t → Led t (runM t b) Q) : Led s (runM s (a ++ b)) Q := by
  obtain ⟨e1, e2⟩ := runM_append a b s
  obtain ⟨hg, ⟨h0, hP, hb⟩ | ⟨h1, hb⟩⟩ := h
  · rw [if_pos h0] at e1 e2
    obtain ⟨kg, kk⟩ := k _ hg hP
    unfold Led
    rw [e1, e2]
    refine ⟨kg, ?_⟩
    rcases kk with ⟨q1, q2, q3⟩ | ⟨q1, q2⟩
    · exact .inl ⟨q1, q2, Nat.le_trans q3 hb⟩
    · exact .inr ⟨q1, Nat.le_trans q2 hb⟩
  · have hn : ¬ (runM s a).2.2 = 0 := by rw [h1]; decide
    rw [if_neg hn] at e1 e2
    unfold Led
    rw [e1, e2]
    exact ⟨hg, .inr ⟨h1, hb⟩⟩
theorem led_list {α : Type} (l0 : List α) (f : α → ActP) (I : List α → Mach → Prop) (h : ∀ done x rest s, l0 = done ++ x :: rest → GoodM s → I done s → Stepped s (doM s (f x)) (I (done ++ [x]))) :
    ∀ (l done : List α) (s : Mach), l0 = done ++ l → GoodM s → I done s → Led s (runM s (l.map f)) (I l0)
  | [], done, s, hl, hg, hi => ⟨hg, .inl ⟨rfl, by rw [hl, List.append_nil]; exact hi, Nat.le_refl _⟩⟩
  | x :: l, done, s, hl, hg, hi => by
    have hs := h done x l s hl hg hi
    have hg1 := doM_good hg (f x)
    rcases hs with ⟨h0, hP, hb⟩ | ⟨h1, hb⟩
    · have ih := led_list l0 f I h l (done ++ [x]) (doM s (f x)).1 (by rw [hl]; simp) hg1 hP
      unfold Led
      simp only [List.map_cons, runM, if_pos h0]
      obtain ⟨kg, kk⟩ := ih
      refine ⟨kg, ?_⟩
      rcases kk with ⟨q1, q2, q3⟩ | ⟨q1, q2⟩
      · exact .inl ⟨q1, q2, Nat.le_trans q3 hb⟩
      · exact .inr ⟨q1, Nat.le_trans q2 hb⟩
    · have hn : ¬ (doM s (f x)).2 = 0 := by rw [h1]; decide
      unfold Led
      simp only [List.map_cons, runM, if_neg hn]
      exact ⟨hg1, .inr ⟨h1, hb⟩⟩

/-! Stops -/
def stopA (u : Srv) : ActP := ⟨1, u.name, ent0, srv0⟩
theorem stop_last {s : Mach} (hg : GoodM s) {A : List Srv} {u : Srv} (h : s.units = A ++ [u]) : doM s (stopA u) = if failsP s.plan = true then (⟨s.files, s.users, s.units, s.plan.tail⟩, 71) else (⟨s.files, s.users, A, s.plan.tail⟩, 0) := by
  have hn : hasU A u.name = false := by
    cases e : hasU A u.name with
    | false => rfl
    | true =>
      obtain ⟨v, hv, hvn⟩ := hasU_iff.1 e
      have h1 := hg.names
      rw [h, List.map_append, List.nodup_append] at h1
      exact absurd hvn (h1.2.2 _ (List.mem_map.2 ⟨v, hv, rfl⟩) _ (by simp))
  have hi := idxU_app hn rfl
  have hh : ¬ hasU s.units u.name = false := by rw [h, hasU_app]; simp
  show doStop s u.name = _
  unfold doStop
  rw [if_neg hh, h, hi, List.eraseIdx_append_of_length_le (Nat.le_refl _)]
  simp
theorem led_stops {s : Mach} (hg : GoodM s) (k : Nat) : Led s (runM s ((s.units.drop k).reverse.map stopA)) (fun t => t.files = s.files ∧ t.users = s.users ∧ t.units = s.units.take k) := by
  have h := led_list (s.units.drop k).reverse stopA (fun done t => t.files = s.files ∧ t.users = s.users ∧ t.units ++ done.reverse = s.units) (fun done x rest t hl hgt ⟨i1, i2, i3⟩ => by
    have h1 : s.units.drop k = rest.reverse ++ x :: done.reverse := by
      have := congrArg List.reverse hl
      simpa using this
    have h2 : t.units = (s.units.take k ++ rest.reverse) ++ [x] := by
      have h3 : t.units ++ done.reverse = ((s.units.take k ++ rest.reverse) ++ [x]) ++ done.reverse := by
        rw [i3]
        conv => lhs; rw [← List.take_append_drop k s.units, h1]
        simp
      exact List.append_cancel_right h3
    rw [stop_last hgt h2]
    by_cases hf : failsP t.plan = true
    · rw [if_pos hf]
      exact .inr ⟨rfl, badN_fails hf⟩
    · rw [if_neg hf]
      refine .inl ⟨rfl, ⟨i1, i2, ?_⟩, badN_tail _⟩
      show (s.units.take k ++ rest.reverse) ++ (done ++ [x]).reverse = s.units
      refine Eq.trans ?_ i3
      rw [h2]
      simp) (s.units.drop k).reverse [] s rfl hg ⟨rfl, rfl, by simp⟩
  obtain ⟨h1, h2⟩ := h
  refine ⟨h1, ?_⟩
  rcases h2 with ⟨q1, ⟨q2, q3, q4⟩, q5⟩ | q
  · refine .inl ⟨q1, ⟨q2, q3, ?_⟩, q5⟩
    rw [List.reverse_reverse] at q4
    exact List.append_cancel_right (q4.trans (List.take_append_drop k s.units).symm)
  · exact .inr q

/-! What goes -/
def removeA (x : Ent) : ActP := ⟨2, x.path, ent0, srv0⟩
def dropA (n : Txt) : ActP := ⟨3, n, ent0, srv0⟩
theorem led_removes {s : Mach} (hg : GoodM s) (l0 : List Ent) : Led s (runM s (l0.map removeA)) (fun t => t.users = s.users ∧ t.units = s.units ∧ ∀ x, x ∈ t.files ↔ x ∈ s.files ∧ ∀ d ∈ l0, x.path ≠ d.path) :=
  led_list l0 removeA (fun done t => t.users = s.users ∧ t.units = s.units ∧ ∀ x, x ∈ t.files ↔ x ∈ s.files ∧ ∀ d ∈ done, x.path ≠ d.path) (fun done x rest t hl hgt ⟨i1, i2, i3⟩ => by
    refine .inl ⟨rfl, ⟨i1, i2, fun y => ?_⟩, Nat.le_refl _⟩
    show y ∈ t.files.filter (fun z => decide (z.path ≠ x.path)) ↔ _
    rw [List.mem_filter, i3]
    simp only [decide_eq_true_eq]
    constructor
    · rintro ⟨⟨a, b⟩, c⟩
      refine ⟨a, fun d hd => ?_⟩
      rcases List.mem_append.1 hd with hd | hd
      · exact b d hd
      · rw [List.mem_singleton.1 hd]; exact c
    · rintro ⟨a, b⟩
      exact ⟨⟨a, fun d hd => b d (List.mem_append.2 (.inl hd))⟩, b x (by simp)⟩) l0 [] s rfl hg ⟨rfl, rfl, fun x => by simp⟩
theorem led_drops {s : Mach} (hg : GoodM s) (l0 : List Txt) : Led s (runM s (l0.map dropA)) (fun t => t.files = s.files ∧ t.units = s.units ∧ ∀ x, x ∈ t.users ↔ x ∈ s.users ∧ x ∉ l0) :=
  led_list l0 dropA (fun done t => t.files = s.files ∧ t.units = s.units ∧ ∀ x, x ∈ t.users ↔ x ∈ s.users ∧ x ∉ done) (fun done x rest t hl hgt ⟨i1, i2, i3⟩ => by
    refine .inl ⟨rfl, ⟨i1, i2, fun y => ?_⟩, Nat.le_refl _⟩
    show y ∈ t.users.filter (fun z => decide (z ≠ x)) ↔ _
    rw [List.mem_filter, i3]
    simp only [decide_eq_true_eq, List.mem_append, List.mem_singleton, not_or, and_assoc]) l0 [] s rfl hg ⟨rfl, rfl, fun x => by simp⟩

/-! What comes -/
theorem nodup_le {α : Type} [DecidableEq α] : ∀ {l m : List α}, l.Nodup → (∀ x ∈ l, x ∈ m) → l.length ≤ m.length
  | [], m, _, _ => Nat.zero_le _
  | x :: l, m, h, hs => by
    have hx := hs x List.mem_cons_self
    have h2 := nodup_le (l := l) (m := m.erase x) (List.nodup_cons.1 h).2 (fun y hy => (List.mem_erase_of_ne (fun e => (List.nodup_cons.1 h).1 (by rw [← e]; exact hy))).2 (hs y (List.mem_cons_of_mem _ hy)))
    rw [List.length_erase_of_mem hx] at h2
    have := List.length_pos_of_mem hx
    simp only [List.length_cons]
    omega
theorem rises_nodup {l : List Txt} (h : Rises l) : l.Nodup := List.Pairwise.imp (fun {a b} (h : a < b) (e : a = b) => txt_irrefl a (by rw [← e] at h; exact h)) h
theorem mem_ins21 {α : Type} (l : List α) (i : Nat) (x y : α) : y ∈ insA l i x ↔ y ∈ l ∨ y = x := by
  unfold insA
  rw [List.mem_append, List.mem_cons]
  constructor
  · rintro (h | h | h)
    · exact .inl (List.mem_of_mem_take h)
    · exact .inr h
    · exact .inl (List.mem_of_mem_drop h)
  · rintro (h | h)
    · rw [← List.take_append_drop i l, List.mem_append] at h
      rcases h with h | h
      · exact .inl h
      · exact .inr (.inr h)
    · exact .inr (.inl h)
theorem ahead_mem {l : List Txt} {n : Txt} (hr : Rises l) (h : n ∈ l) : l[aheadN l n]? = some n := by
  obtain ⟨i, hi, rfl⟩ := List.getElem_of_mem h
  have h1 : aheadN l l[i] ≤ i := Nat.le_of_not_lt fun h => txt_irrefl _ (aheadN_lt l l[i] h hi)
  have h2 : ¬ aheadN l l[i] < i := fun h => aheadN_ge l l[i] (by omega) (List.pairwise_iff_getElem.1 hr _ i (by omega) hi h)
  have h3 : aheadN l l[i] = i := by omega
  rw [h3, List.getElem?_eq_getElem hi]
theorem rises_inj {l : List Ent} (h : Rises (pathsE l)) {a b : Ent} (ha : a ∈ l) (hb : b ∈ l) (e : a.path = b.path) : a = b := by
  obtain ⟨i, hi, rfl⟩ := List.getElem_of_mem ha
  obtain ⟨j, hj, rfl⟩ := List.getElem_of_mem hb
  have h1 : ∀ i j (hi : i < l.length) (hj : j < l.length), i < j → l[i].path < l[j].path := fun i j hi hj hij => by
    have := List.pairwise_iff_getElem.1 h i j (by simpa [pathsE] using hi) (by simpa [pathsE] using hj) hij
    simpa [pathsE] using this
  rcases Nat.lt_trichotomy i j with hij | hij | hij
  · have := h1 i j hi hj hij
    rw [e] at this
    exact absurd this (txt_irrefl _)
  · subst hij; rfl
  · have := h1 j i hj hi hij
    rw [e] at this
    exact absurd this (txt_irrefl _)
theorem mem_paths {l : List Ent} {p : Txt} : p ∈ pathsE l ↔ ∃ x ∈ l, x.path = p := by simp [pathsE]
theorem ents_ext {l m : List Ent} (hl : Rises (pathsE l)) (hm : Rises (pathsE m)) (h1 : ∀ x ∈ m, x ∈ l) (h2 : ∀ x ∈ l, x.path ∈ pathsE m) : l = m := by
  have e : pathsE l = pathsE m := rises_ext hl hm fun p => ⟨fun hp => by obtain ⟨x, hx, rfl⟩ := mem_paths.1 hp; exact h2 x hx, fun hp => by obtain ⟨x, hx, rfl⟩ := mem_paths.1 hp; exact mem_paths.2 ⟨x, h1 x hx, rfl⟩⟩
  have el : l.length = m.length := by have := congrArg List.length e; simpa [pathsE] using this
  apply List.ext_getElem el
  intro i hi hj
  apply rises_inj hl (List.getElem_mem hi) (h1 _ (List.getElem_mem hj))
  have h3 : (pathsE l)[i]? = (pathsE m)[i]? := by rw [e]
  simp only [pathsE, List.getElem?_map, List.getElem?_eq_getElem hi, List.getElem?_eq_getElem hj, Option.map_some] at h3
  exact Option.some.inj h3
def fileA (x : Ent) : ActP := ⟨4, x.path, x, srv0⟩
def userA (n : Txt) : ActP := ⟨5, n, ent0, srv0⟩
def startA (u : Srv) : ActP := ⟨6, u.name, ent0, u⟩
theorem led_files {s : Mach} (hg : GoodM s) {F : List Ent} (hF : Rises (pathsE F)) (hr : ∀ x ∈ F, rightB [x] = true) (hn : F.length ≤ 24) (l0 : List Ent) (hl0 : ∀ x ∈ l0, x ∈ F) (h1 : ∀ x ∈ s.files, x.path ∈ pathsE F) (h2 : ∀ x ∈ F, x ∉ l0 → x ∈ s.files) : Led s (runM s (l0.map fileA)) (fun t => t.users = s.users ∧ t.units = s.units ∧ t.files = F) := by
  have h := led_list l0 fileA (fun done t => t.users = s.users ∧ t.units = s.units ∧ (∀ x ∈ t.files, x.path ∈ pathsE F) ∧ (∀ x ∈ F, x ∉ l0 ∨ x ∈ done → x ∈ t.files)) (fun done x rest t hl hgt ⟨i1, i2, i3, i4⟩ => by
    have hx : x ∈ F := hl0 x (by rw [hl]; simp)
    have hxp : x.path ∈ pathsE F := mem_paths.2 ⟨x, hx, rfl⟩
    have he : doM t (fileA x) = doFile t x.path x := rfl
    rw [he]
    unfold doFile
    rw [if_pos ⟨rfl, hr x hx⟩]
    by_cases hi : (pathsE t.files)[aheadN (pathsE t.files) x.path]? = some x.path
    · rw [if_pos hi]
      have hil := ahead_bound hi
      have hil' : aheadN (pathsE t.files) x.path < t.files.length := by simpa [pathsE] using hil
      refine .inl ⟨rfl, ⟨i1, i2, fun y hy => ?_, fun y hy hd => ?_⟩, Nat.le_refl _⟩
      · rcases List.mem_or_eq_of_mem_set hy with hy | hy
        · exact i3 y hy
        · rw [hy]; exact hxp
      · show y ∈ t.files.set (aheadN (pathsE t.files) x.path) x
        by_cases hyx : y.path = x.path
        · rw [rises_inj hF hy hx hyx]
          exact List.mem_iff_getElem?.2 ⟨_, by rw [List.getElem?_set_self hil']⟩
        · have hyt : y ∈ t.files := i4 y hy (by
            rcases hd with hd | hd
            · exact .inl hd
            · rcases List.mem_append.1 hd with hd | hd
              · exact .inr hd
              · exact absurd (by rw [List.mem_singleton.1 hd]) hyx)
          obtain ⟨j, hj⟩ := List.mem_iff_getElem?.1 hyt
          refine List.mem_iff_getElem?.2 ⟨j, ?_⟩
          rw [List.getElem?_set_ne, hj]
          rintro rfl
          have h9 : (t.files.map (·.path))[aheadN (pathsE t.files) x.path]? = some x.path := hi
          rw [List.getElem?_map, hj] at h9
          exact hyx (Option.some.inj h9)
    · rw [if_neg hi]
      have hnp : x.path ∉ pathsE t.files := fun hp => hi (ahead_mem hgt.files hp)
      have hlen := nodup_le (l := x.path :: pathsE t.files) (m := pathsE F) (List.nodup_cons.2 ⟨hnp, rises_nodup hgt.files⟩) (fun p hp => by
        rcases List.mem_cons.1 hp with rfl | hp
        · exact hxp
        · obtain ⟨y, hy, rfl⟩ := mem_paths.1 hp
          exact i3 y hy)
      simp only [pathsE, List.length_cons, List.length_map] at hlen
      rw [if_neg (by omega)]
      refine .inl ⟨rfl, ⟨i1, i2, fun y hy => ?_, fun y hy hd => ?_⟩, Nat.le_refl _⟩
      · rcases (mem_ins21 _ _ _ _).1 hy with hy | hy
        · exact i3 y hy
        · rw [hy]; exact hxp
      · refine (mem_ins21 _ _ _ _).2 ?_
        rcases hd with hd | hd
        · exact .inl (i4 y hy (.inl hd))
        · rcases List.mem_append.1 hd with hd | hd
          · exact .inl (i4 y hy (.inr hd))
          · exact .inr (List.mem_singleton.1 hd)) l0 [] s rfl hg ⟨rfl, rfl, h1, fun x hx hd => h2 x hx (by simpa using hd)⟩
  obtain ⟨hgt, h⟩ := h
  refine ⟨hgt, h.imp (fun ⟨q1, ⟨q2, q3, q4, q5⟩, q6⟩ => ⟨q1, ⟨q2, q3, ?_⟩, q6⟩) id⟩
  exact ents_ext hgt.files hF (fun x hx => q5 x hx (by by_cases h : x ∈ l0; exact .inr h; exact .inl h)) q4
theorem led_users {s : Mach} (hg : GoodM s) {U : List Txt} (hU : Rises U) (hr : ∀ x ∈ U, nameB x = true) (hn : U.length ≤ 16) (l0 : List Txt) (hl0 : ∀ x ∈ l0, x ∈ U) (h1 : ∀ x ∈ s.users, x ∈ U) (h2 : ∀ x ∈ U, x ∉ l0 → x ∈ s.users) : Led s (runM s (l0.map userA)) (fun t => t.files = s.files ∧ t.units = s.units ∧ t.users = U) := by
  have h := led_list l0 userA (fun done t => t.files = s.files ∧ t.units = s.units ∧ (∀ x ∈ t.users, x ∈ U) ∧ (∀ x ∈ U, x ∉ l0 ∨ x ∈ done → x ∈ t.users)) (fun done x rest t hl hgt ⟨i1, i2, i3, i4⟩ => by
    have hx : x ∈ U := hl0 x (by rw [hl]; simp)
    have he : doM t (userA x) = doUser t x := rfl
    rw [he]
    unfold doUser
    rw [if_pos (hr x hx)]
    by_cases hi : t.users[aheadN t.users x]? = some x
    · rw [if_pos hi]
      refine .inl ⟨rfl, ⟨i1, i2, i3, fun y hy hd => ?_⟩, Nat.le_refl _⟩
      rcases hd with hd | hd
      · exact i4 y hy (.inl hd)
      · rcases List.mem_append.1 hd with hd | hd
        · exact i4 y hy (.inr hd)
        · rw [List.mem_singleton.1 hd]
          exact List.mem_iff_getElem?.2 ⟨_, hi⟩
    · rw [if_neg hi]
      have hnp : x ∉ t.users := fun hp => hi (ahead_mem hgt.users hp)
      have hlen := nodup_le (l := x :: t.users) (m := U) (List.nodup_cons.2 ⟨hnp, rises_nodup hgt.users⟩) (fun p hp => by
        rcases List.mem_cons.1 hp with rfl | hp
        · exact hx
        · exact i3 p hp)
      simp only [List.length_cons] at hlen
      rw [if_neg (by omega)]
      refine .inl ⟨rfl, ⟨i1, i2, fun y hy => ?_, fun y hy hd => ?_⟩, Nat.le_refl _⟩
      · rcases (mem_ins21 _ _ _ _).1 hy with hy | hy
        · exact i3 y hy
        · rw [hy]; exact hx
      · refine (mem_ins21 _ _ _ _).2 ?_
        rcases hd with hd | hd
        · exact .inl (i4 y hy (.inl hd))
        · rcases List.mem_append.1 hd with hd | hd
          · exact .inl (i4 y hy (.inr hd))
          · exact .inr (List.mem_singleton.1 hd)) l0 [] s rfl hg ⟨rfl, rfl, h1, fun x hx hd => h2 x hx (by simpa using hd)⟩
  obtain ⟨hgt, h⟩ := h
  refine ⟨hgt, h.imp (fun ⟨q1, ⟨q2, q3, q4, q5⟩, q6⟩ => ⟨q1, ⟨q2, q3, ?_⟩, q6⟩) id⟩
  exact rises_ext hgt.users hU fun x => ⟨q4 x, fun hx => q5 x hx (by by_cases h : x ∈ l0; exact .inr h; exact .inl h)⟩
theorem units_ok_at : ∀ (l acc : List Srv), unitsOk acc l = true → ∀ a x b, l = a ++ x :: b → mayU x = true ∧ hasU (acc ++ a) x.name = false ∧ x.req.all (hasU (acc ++ a)) = true
  | [], acc, h, a, x, b, e => by simp at e
  | u :: l, acc, h, a, x, b, e => by
    simp only [unitsOk, Bool.and_eq_true, Bool.not_eq_true'] at h
    cases a with
    | nil =>
      simp only [List.nil_append, List.cons.injEq] at e
      obtain ⟨rfl, -⟩ := e
      rw [List.append_nil]
      exact ⟨h.1.1.1, h.1.1.2, h.1.2⟩
    | cons v a =>
      simp only [List.cons_append, List.cons.injEq] at e
      obtain ⟨rfl, e⟩ := e
      have := units_ok_at l (acc ++ [u]) h.2 a x b e
      simpa using this
theorem led_starts {s : Mach} (hg : GoodM s) {U : List Srv} (hU : unitsOk [] U = true) (hn : U.length ≤ 24) (k : Nat) (hk : s.units = U.take k) : Led s (runM s ((U.drop k).map startA)) (fun t => t.files = s.files ∧ t.users = s.users ∧ t.units = U) := by
  have h := led_list (U.drop k) startA (fun done t => t.files = s.files ∧ t.users = s.users ∧ t.units = U.take k ++ done) (fun done x rest t hl hgt ⟨i1, i2, i3⟩ => by
    have hs : U = (U.take k ++ done) ++ x :: rest := by
      conv => lhs; rw [← List.take_append_drop k U, hl]
      simp
    obtain ⟨m1, m2, m3⟩ := units_ok_at U [] hU _ x rest hs
    rw [List.nil_append, ← i3] at m2 m3
    have hlen : t.units.length + 1 ≤ U.length := by rw [i3]; have := congrArg List.length hs; simp at this ⊢; omega
    have he : doM t (startA x) = doStart t x.name x := rfl
    rw [he]
    unfold doStart
    rw [if_pos ⟨m1, rfl⟩, if_neg (by rw [m2]; intro h; cases h.1), if_neg (by rw [m3]; decide), if_neg (by rw [m2]; decide), if_neg (by omega)]
    by_cases hf : failsP t.plan = true
    · rw [if_pos hf]
      exact .inr ⟨rfl, badN_fails hf⟩
    · rw [if_neg hf]
      refine .inl ⟨rfl, ⟨i1, i2, ?_⟩, badN_tail _⟩
      show t.units ++ [x] = _
      rw [i3, List.append_assoc]) (U.drop k) [] s rfl hg ⟨rfl, rfl, by simpa using hk⟩
  obtain ⟨hgt, h⟩ := h
  exact ⟨hgt, h.imp (fun ⟨q1, ⟨q2, q3, q4⟩, q6⟩ => ⟨q1, ⟨q2, q3, q4.trans (List.take_append_drop k U)⟩, q6⟩) id⟩

/-! A system, and the steps to it -/
deriving instance DecidableEq for Ent
def linesU (u : Srv) : Txt := [114, 117, 110, 32] ++ u.start ++ [10] ++ u.req.flatMap (fun n => [114, 101, 113, 117, 105, 114, 101, 115, 32] ++ n ++ [10]) ++ u.aft.flatMap (fun n => [97, 102, 116, 101, 114, 32] ++ n ++ [10])
def textS (s : SysP) : Txt := s.users.flatMap (fun n => [117, 115, 101, 114, 32] ++ n ++ [10]) ++ s.units.flatMap (fun u => [117, 110, 105, 116, 32] ++ u.name ++ [10] ++ linesU u) ++ [101, 110, 100, 10]
def laidS (s : SysP) : List Ent := s.files.map (fun x => ⟨[101, 116, 99, 47] ++ x.path, x.kind, x.data⟩) ++ [⟨[115, 121, 115, 116, 101, 109], 1, textS s⟩]
/-- May a system be? -/
def rightS (s : SysP) : Bool := rightB s.files && decide (s.users.length ≤ 16 ∧ s.units.length ≤ 24) && s.users.all nameB && decide (s.users.Pairwise (· < ·)) && unitsOk [] s.units && rightB (laidS s)
def sameN : List Srv → List Srv → Nat
  | a :: l, b :: m => if a = b then sameN l m + 1 else 0
  | _, _ => 0
theorem take_same : ∀ l m : List Srv, l.take (sameN l m) = m.take (sameN l m)
  | [], [] => rfl
  | [], _ :: _ => rfl
  | _ :: _, [] => rfl
  | a :: l, b :: m => by
    unfold sameN
    by_cases h : a = b
    · rw [if_pos h, List.take_succ_cons, List.take_succ_cons, h, take_same l m]
    · rw [if_neg h]; rfl
theorem same_self : ∀ l : List Srv, sameN l l = l.length
  | [] => rfl
  | a :: l => by unfold sameN; rw [if_pos rfl, same_self l]; rfl
def actsS (o s : SysP) : List ActP :=
  (o.units.drop (sameN o.units s.units)).reverse.map stopA ++ ((o.files.filter fun x => decide (x.path ∉ pathsE s.files)).map removeA ++ ((o.users.filter fun n => decide (n ∉ s.users)).map dropA ++
    ((s.files.filter fun x => decide (x ∉ o.files)).map fileA ++ ((s.users.filter fun n => decide (n ∉ o.users)).map userA ++ (s.units.drop (sameN o.units s.units)).map startA))))
def Mach.sys (m : Mach) : SysP := ⟨m.files, m.users, m.units⟩
theorem right_parts {s : SysP} (h : rightS s = true) : rightB s.files = true ∧ s.users.length ≤ 16 ∧ s.units.length ≤ 24 ∧ (∀ n ∈ s.users, nameB n = true) ∧ Rises s.users ∧ unitsOk [] s.units = true ∧ rightB (laidS s) = true := by
  unfold rightS at h
  simp only [Bool.and_eq_true, decide_eq_true_eq, List.all_eq_true] at h
  exact ⟨h.1.1.1.1.1, h.1.1.1.1.2.1, h.1.1.1.1.2.2, h.1.1.1.2, h.1.1.2, h.1.2, h.2⟩
theorem right_fits {l : List Ent} (h : rightB l = true) : l.length ≤ 24 ∧ ∀ (i : Nat) (hi : i < l.length), fitsB l i l[i] = true := by
  unfold rightB at h
  simp only [Bool.and_eq_true, decide_eq_true_eq] at h
  refine ⟨h.1, fun i hi => ?_⟩
  have h2 := h.2
  unfold rightTo at h2
  have h3 := List.all_eq_true.1 h2 i (List.mem_range.2 hi)
  simpa [List.getElem?_eq_getElem hi] using h3
theorem right_rises {l : List Ent} (h : rightB l = true) : Rises (pathsE l) := by
  obtain ⟨_, h2⟩ := right_fits h
  refine List.pairwise_iff_getElem.2 fun i j hi hj hij => ?_
  simp only [pathsE, List.length_map] at hi hj
  have h3 := h2 j hj
  unfold fitsB at h3
  simp only [Bool.and_eq_true] at h3
  have h4 := List.all_eq_true.1 h3.2 l[i] (List.mem_iff_getElem?.2 ⟨i, by rw [List.getElem?_take, if_pos hij, List.getElem?_eq_getElem hi]⟩)
  unfold aheadB at h4
  simp only [Bool.and_eq_true, decide_eq_true_eq] at h4
  simpa [pathsE] using h4.1
theorem right_one {l : List Ent} (h : rightB l = true) {x : Ent} (hx : x ∈ l) : rightB [x] = true := by
  obtain ⟨i, hi, rfl⟩ := List.getElem_of_mem hx
  have h3 := (right_fits h).2 i hi
  unfold fitsB at h3
  simp only [Bool.and_eq_true] at h3
  simp [rightB, rightTo, fitsB, List.range_succ, h3.1]
/-- Led by its steps a machine comes to be the system, or a service failed. -/
theorem led_acts {m : Mach} (hg : GoodM m) {s : SysP} (hs : rightS s = true) : Led m (runM m (actsS m.sys s)) (fun t => t.files = s.files ∧ t.users = s.users ∧ t.units = s.units) := by
  obtain ⟨r1, r2, r3, r4, r5, r6, -⟩ := right_parts hs
  unfold actsS Mach.sys
  dsimp only
  refine Led.append (led_stops hg _) fun t1 g1 ⟨a1, a2, a3⟩ => ?_
  refine Led.append (led_removes g1 _) fun t2 g2 ⟨b1, b2, b3⟩ => ?_
  refine Led.append (led_drops g2 _) fun t3 g3 ⟨c1, c2, c3⟩ => ?_
  rw [a1] at b3
  rw [b1, a2] at c3
  refine Led.append (led_files g3 (right_rises r1) (fun x hx => right_one r1 hx) (right_fits r1).1 _ (fun x hx => (List.mem_filter.1 hx).1) (fun x hx => ?_) (fun x hx hn => ?_)) fun t4 g4 ⟨d1, d2, d3⟩ => ?_
  · rw [c1, b3] at hx
    by_cases hp : x.path ∈ pathsE s.files
    · exact hp
    · exact absurd rfl (hx.2 x (List.mem_filter.2 ⟨hx.1, by simpa using hp⟩))
  · rw [c1, b3]
    refine ⟨?_, fun d hd e => ?_⟩
    · by_cases hm : x ∈ m.files
      · exact hm
      · exact absurd (List.mem_filter.2 ⟨hx, decide_eq_true hm⟩) hn
    · have h1 := (List.mem_filter.1 hd).2
      simp only [decide_eq_true_eq] at h1
      exact h1 (e ▸ mem_paths.2 ⟨x, hx, rfl⟩)
  · refine Led.append (led_users g4 r5 r4 r2 _ (fun x hx => (List.mem_filter.1 hx).1) (fun x hx => ?_) (fun x hx hn => ?_)) fun t5 g5 ⟨e1, e2, e3⟩ => ?_
    · rw [d1, c3] at hx
      by_cases hp : x ∈ s.users
      · exact hp
      · exact absurd (List.mem_filter.2 ⟨hx.1, by simpa using hp⟩) hx.2
    · rw [d1, c3]
      refine ⟨?_, fun hd => ?_⟩
      · by_cases hm : x ∈ m.users
        · exact hm
        · exact absurd (List.mem_filter.2 ⟨hx, decide_eq_true hm⟩) hn
      · have h1 := (List.mem_filter.1 hd).2
        simp only [decide_eq_true_eq] at h1
        exact h1 hx
    · obtain ⟨q0, q⟩ := led_starts g5 r6 r3 (sameN m.units s.units) (by rw [e2, d2, c2, b2, a3]; exact take_same _ _)
      exact ⟨q0, q.imp (fun ⟨w1, ⟨w2, w3, w4⟩, w5⟩ => ⟨w1, ⟨by rw [w2, e1, d3], by rw [w3, e3], w4⟩, w5⟩) id⟩
theorem acts_none (s : SysP) : actsS s s = [] := by
  unfold actsS
  rw [same_self]
  have h1 : (s.files.filter fun x => decide (x.path ∉ pathsE s.files)) = [] := List.filter_eq_nil_iff.2 fun x hx => by simpa using mem_paths.2 ⟨x, hx, rfl⟩
  have h2 : (s.users.filter fun n => decide (n ∉ s.users)) = [] := List.filter_eq_nil_iff.2 fun x hx => by simpa using hx
  have h3 : (s.files.filter fun x => decide (x ∉ s.files)) = [] := List.filter_eq_nil_iff.2 fun x hx => by simpa using hx
  rw [h1, h2, h3, List.drop_length]
  rfl
/-- A machine is led to a system. -/
def toM (m : Mach) (s : SysP) : Mach × Int := if rightS s = true then ((runM m (actsS m.sys s)).1, (runM m (actsS m.sys s)).2.2) else (m, 70)
theorem to_led {m : Mach} (hg : GoodM m) {s : SysP} (hs : rightS s = true) : GoodM (toM m s).1 ∧ (((toM m s).2 = 0 ∧ (toM m s).1.sys = s ∧ badN (toM m s).1.plan ≤ badN m.plan) ∨ ((toM m s).2 = 71 ∧ badN (toM m s).1.plan + 1 ≤ badN m.plan)) := by
  obtain ⟨h1, h2⟩ := led_acts hg hs
  unfold toM
  rw [if_pos hs]
  refine ⟨h1, h2.imp (fun ⟨q1, ⟨q2, q3, q4⟩, q5⟩ => ⟨q1, ?_, q5⟩) id⟩
  show (⟨_, _, _⟩ : SysP) = s
  rw [q2, q3, q4]
theorem to_again {m : Mach} {s : SysP} (hs : rightS s = true) (h : m.sys = s) : toM m s = (m, 0) := by
  unfold toM
  rw [if_pos hs, h, acts_none]
  rfl

/-! What a walk of Right finds: unit by unit -/
theorem units_ok_snoc : ∀ (l acc : List Srv) (u : Srv), unitsOk acc (l ++ [u]) = (unitsOk acc l && (mayU u && !hasU (acc ++ l) u.name && u.req.all (hasU (acc ++ l))))
  | [], acc, u => by simp [unitsOk]
  | v :: l, acc, u => by
    have ih := units_ok_snoc l (acc ++ [v]) u
    simp only [List.cons_append, unitsOk, ih, List.append_assoc, List.nil_append]
    simp only [Bool.and_assoc]
theorem units_ok_left : ∀ (l acc r : List Srv), unitsOk acc (l ++ r) = true → unitsOk acc l = true
  | [], acc, r, _ => rfl
  | v :: l, acc, r, h => by
    simp only [List.cons_append, unitsOk, Bool.and_eq_true] at h ⊢
    exact ⟨h.1, units_ok_left l _ r h.2⟩
theorem start_new {U : List Srv} {u : Srv} (hn : hasU U u.name = false) (hl : U.length < 24) : doM ⟨[], [], U, []⟩ (startA u) = if mayU u && u.req.all (hasU U) then (⟨[], [], U ++ [u], []⟩, 0) else (⟨[], [], U, []⟩, 70) := by
  have he : doM ⟨[], [], U, []⟩ (startA u) = doStart ⟨[], [], U, []⟩ u.name u := rfl
  rw [he]
  unfold doStart
  by_cases hm : mayU u = true
  · rw [if_pos ⟨hm, rfl⟩, if_neg (by show ¬ (hasU U u.name = true ∧ _); rw [hn]; intro h; cases h.1)]
    by_cases hr : u.req.all (hasU U) = true
    · rw [if_neg (by show ¬ u.req.all (hasU U) = false; rw [hr]; decide), if_neg (by show ¬ hasU U u.name = true; rw [hn]; decide), if_neg (by show ¬ U.length = 24; omega), if_neg (by show ¬ failsP [] = true; decide), if_pos (by rw [hm, hr]; rfl)]
      rfl
    · have hr' : u.req.all (hasU U) = false := by simpa using hr
      rw [if_pos hr', if_neg (by rw [hr']; simp)]
  · rw [if_neg (fun h => hm h.1), if_neg (by simp [hm])]
end Go.Proofs.YtibndaianhlcaaaGreatDoor
namespace Go.Proofs
open Go.Shelf
def Tryz.laysGw15_ren : Go.Shelf.Ren := ⟨fun | 15 => 141 | 20 => 160 | n => n, fun | 9 => 9 | 23 => 163 | 3 => 3 | 4 => 4 | 0 => 0 | 21 => 21 | n => n, fun | n => n⟩
theorem Tryz.laysGw15 : Go.Proofs.LaysGw.n15 Tryz.prog Tryz.laysGw15_ren := {
  mixed := by kernel_rfl
  f15 := Tryz.func141.trans (congrArg some (by kernel_rfl))
  f20 := Tryz.func160.trans (congrArg some (by kernel_rfl))
  t0 := Tryz.underlying0
  a0 := Tryz.isAgg0
  z0 := Tryz.sizeOf0
  v0 := Tryz.zeroValue0
  i0 := by kernel_rfl
  t3 := Tryz.underlying3
  a3 := Tryz.isAgg3
  z3 := Tryz.sizeOf3
  v3 := Tryz.zeroValue3
  i3 := by kernel_rfl
  t4 := Tryz.underlying4
  a4 := Tryz.isAgg4
  z4 := Tryz.sizeOf4
  v4 := Tryz.zeroValue4
  i4 := by kernel_rfl
  t9 := Tryz.underlying9
  a9 := Tryz.isAgg9
  z9 := Tryz.sizeOf9
  v9 := Tryz.zeroValue9
  i9 := by kernel_rfl
  t21 := Tryz.underlying21
  a21 := Tryz.isAgg21
  z21 := Tryz.sizeOf21
  v21 := Tryz.zeroValue21
  i21 := by kernel_rfl
  t23 := Tryz.underlying163
  a23 := Tryz.isAgg163
  z23 := Tryz.sizeOf163
  v23 := Tryz.zeroValue163
  i23 := by kernel_rfl }
open Go.RowKit Go.Lib in
theorem Tryz.strings_IndexFunc_runes (g : Nat) (lb : Array Value) (eg : ∀ args w, (callFunc g args).run Tryz.prog w = .ok (.enter g args) w) (p : Nat → Bool) (s : ByteArray) (w : World) (hp : PredAtRunes Tryz.prog g lb p w) :
    Calls Tryz.prog 141 #[.string s, .func (.func g) #[] lb] w fun e w' => e = .returned (.int .i64 (Lib.idxFunc p true s)) ∧ Below w.heap.size w w' := Any.strings_IndexFunc_runes Tryz.laysGw15 g lb eg p s w hp
end Go.Proofs
namespace Go.Proofs.YtibndaianhlcaaaGreatDoor
open Go.RowKit Go.Sort
set_option linter.unusedVariables false
set_option linter.unusedSimpArgs false

/-- append at a step of a region that draws its order, by its run. -/
theorem step_append_eq {P : Program} {ops : Array Oper} {o : Oper} {a : Act} {w w' : World} {K : Act → World → Prop} {Q : Exit → Act → World → Prop} {E : Prop} (hgd : o.guard = none) (s x : Operand) (t : TypeId)
    (ho : o.op = .call { callee := .builtin .append, args := #[s, x], argTypes := #[t, t] }) {v y v' : Value} (hs : a.eval s = v) (hx : a.eval x = y)
    (hrun : (Builtin.append_ #[t, t] o.type #[v, y]).run P w = .ok v' w') (h : K (a.put o.dst v') w') :
    if Region.wanted o (yielded ops a.tmps) = true then Oper.wp P o a w K Q else E := by
  have hw : Region.wanted o (yielded ops a.tmps) = true := by simp [Region.wanted, hgd]
  rw [if_pos hw]
  exact wp_append_run s x t ho hs hx hrun h

theorem step_append_at {P : Program} {ops : Array Oper} {o : Oper} {a : Act} {w w0 w' : World} {K : Act → World → Prop} {Q : Exit → Act → World → Prop} {E : Prop} (hgd : o.guard = none) (s x : Operand) (t : TypeId)
    (ho : o.op = .call { callee := .builtin .append, args := #[s, x], argTypes := #[t, t] }) {v y v' : Value} {ty : TypeId}
    (hrun : (Builtin.append_ #[t, t] ty #[v, y]).run P w0 = .ok v' w') (hw : w = w0) (hty : o.type = ty) (hs : a.eval s = v) (hx : a.eval x = y) (h : K (a.put o.dst v') w') :
    if Region.wanted o (yielded ops a.tmps) = true then Oper.wp P o a w K Q else E := by
  subst hw hty
  exact step_append_eq hgd s x t ho hs hx hrun h

/-- l[k:] as a value: at the end of what it has room for it keeps its address. -/
def tailV (A : Option Addr) (n c k : Nat) : Value := match A with
  | none => .slice none 0 0
  | some a => if k = c then .slice (some a) 0 0 else .slice (some (a.add k)) (n - k) (c - k)
theorem slc_tail {w : World} {B : Nat} {A : Option Addr} {n c : Nat} {xs : List Value} (h : Slc w B 1 A n c xs) {k : Nat} (hk : k ≤ n) : ∃ A' c', tailV A n c k = .slice A' (n - k) c' ∧ Slc w B 1 A' (n - k) c' (xs.drop k) := by
  have hl := h.len
  have hnc := h.le
  have hcm := h.cmax
  unfold tailV
  cases A with
  | none =>
    have h0 : n = 0 := by
      rcases Nat.eq_zero_or_pos n with h0 | h0
      · exact h0
      · obtain ⟨b, off, e, _⟩ := h.at_ h0
        cases e
    refine ⟨none, 0, by simp [h0], ⟨by simp; omega, by omega, Nat.zero_le _, fun hp => by omega⟩⟩
  | some a =>
    by_cases hkc : k = c
    · refine ⟨some a, 0, by simp only [if_pos hkc]; congr 1; omega, ⟨by simp; omega, by omega, Nat.zero_le _, fun hp => by omega⟩⟩
    · simp only [if_neg hkc]
      refine ⟨some (a.add k), c - k, rfl, ⟨by simp; omega, by omega, by omega, fun hp => ?_⟩⟩
      obtain ⟨b, off, e, hb, hc⟩ := h.at_ (by omega)
      injection e with e
      subst e
      refine ⟨b, off + k, by rw [addr_of_add], hb, fun j u hu => ?_⟩
      rw [Nat.add_assoc]
      exact hc (k + j) u (by rwa [List.getElem?_drop] at hu)

theorem ins_one {w W : World} {A : Option Addr} {n c : Nat} {L : List Txt} {B : Nat} (h : Slc w B 1 A n c (L.map encStr)) (hB : B ≤ w.heap.size) {k : Nat} (hk : k ≤ n) (hn : n ≤ 1000000000) {x : Nat} (hb : Below w.heap.size w W) (hx : W.heap[x]? = some (.cells #[] 9 (0, 0))) (hxb : w.heap.size ≤ x) :
    ∃ A1 c1 w1, (Builtin.append_ #[23, 23] 23 #[.slice (some ⟨x, 0, none⟩) 0 0, .slice A k c]).run Tryz.prog W = .ok (.slice A1 k c1) w1 ∧ w1.ownsRow w.heap.size 9 1 (.slice A1 k c1) k ((L.take k).map encStr) ∧ Below w.heap.size w w1 ∧ (∀ y, y < W.heap.size → y ≠ x → w1.heap[y]? = W.heap[y]?) ∧ W.heap.size ≤ w1.heap.size := by
  obtain ⟨i, hi, hz0, hz1, hz2⟩ := info_parts str_info
  have hown : W.ownsRow w.heap.size 9 1 (.slice (some ⟨x, 0, none⟩) 0 0) 0 [] := ⟨rfl, .inr ⟨x, 0, #[], rfl, hxb, hx, Nat.le_refl _, Nat.zero_le _, rfl, rfl⟩⟩
  have hs : Slc W B 1 A k c ((L.map encStr).take k) := (h.below (hb.mono hB)).upto hk
  obtain ⟨A', c', w', h1, h2, h3, h4⟩ := append_slc (P := Tryz.prog) W w.heap.size 23 23 _ i _ 1 16 Tryz.underlying23 hi hz0 hz1 hz2 rfl (by decide) _ 0 [] hown B A k c _ hs (fun u hu => by
    obtain ⟨t, _, rfl⟩ := List.mem_map.1 (List.mem_of_mem_take hu)
    rfl) (by unfold maxLen; omega) (by omega) hb.size
  rw [Nat.zero_add] at h1 h2
  refine ⟨A', c', w', h1, by rw [List.map_take]; exact h2, hb.grown h3 hb.size (fun q hq => by simp [Value.ownBlock] at hq; omega), fun y hy hne => h3.block y hy (fun e => by simp [Value.ownBlock] at e; omega), h3.size⟩
theorem ins_two {w W : World} {A : Option Addr} {n c : Nat} {L : List Txt} {B : Nat} (h : Slc w B 1 A n c (L.map encStr)) (hB : B ≤ w.heap.size) {k : Nat} (hk : k ≤ n) (hn : n ≤ 1000000000) {y : Nat} {s : Txt} {A1 : Option Addr} {c1 : Nat} (hb : Below w.heap.size w W)
    (ho : W.ownsRow w.heap.size 9 1 (.slice A1 k c1) k ((L.take k).map encStr)) (hy : W.heap[y]? = some (.cells #[.string ⟨s.toArray⟩] 9 (0, 0))) :
    ∃ A2 c2 w2 A3 c3 w3, (Builtin.append_ #[23, 23] 23 #[.slice A1 k c1, .slice (some ⟨y, 0, none⟩) 1 1]).run Tryz.prog W = .ok (.slice A2 (k + 1) c2) w2 ∧
      (Builtin.append_ #[23, 23] 23 #[.slice A2 (k + 1) c2, tailV A n c k]).run Tryz.prog w2 = .ok (.slice A3 (n + 1) c3) w3 ∧ w3.ownsRow w.heap.size 9 1 (.slice A3 (n + 1) c3) (n + 1) ((L.take k ++ s :: L.drop k).map encStr) ∧ Below w.heap.size w w3 := by
  obtain ⟨i, hi, hz0, hz1, hz2⟩ := info_parts str_info
  have hB' : Blk W y 9 #[.string ⟨s.toArray⟩] := hy
  have hs : Slc W (y + 1) 1 (some ⟨y, 0, none⟩) 1 1 [encStr s] := by
    have := hB'.slc (sz := 1) (n := 1) (c := 1) (Nat.le_refl _) (Nat.le_refl _) (by decide)
    exact this
  obtain ⟨A2, c2, w2, h1, h2, h3, h4⟩ := append_slc (P := Tryz.prog) W w.heap.size 23 23 _ i _ 1 16 Tryz.underlying23 hi hz0 hz1 hz2 rfl (by decide) _ k _ ho (y + 1) _ 1 1 [encStr s] hs (fun u hu => by rw [List.mem_singleton.1 hu]; rfl) (by unfold maxLen; omega) (by omega) hb.size
  have hb2 := hb.grown h3 hb.size (fun q hq => (ho.lt q hq).1)
  obtain ⟨At, ct, ht, hst⟩ := slc_tail (h.below (hb2.mono hB)) hk
  obtain ⟨A3, c3, w3, g1, g2, g3, g4⟩ := append_slc (P := Tryz.prog) w2 w.heap.size 23 23 _ i _ 1 16 Tryz.underlying23 hi hz0 hz1 hz2 rfl (by decide) _ (k + 1) _ h2 B At (n - k) ct _ hst (fun u hu => by
    obtain ⟨t, _, rfl⟩ := List.mem_map.1 (List.mem_of_mem_drop hu)
    rfl) (by unfold maxLen; omega) (by omega) hb2.size
  rw [show k + 1 + (n - k) = n + 1 by omega] at g1 g2
  refine ⟨A2, c2, w2, A3, c3, w3, h1, by rw [ht]; exact g1, ?_, hb2.grown g3 hb2.size (fun q hq => (h2.lt q hq).1)⟩
  have e : (L.take k).map encStr ++ [encStr s] ++ (L.map encStr).drop k = (L.take k ++ s :: L.drop k).map encStr := by simp
  rwa [e] at g2
/-- The three orders in which the parts may be made. -/
structure Ins3 (w : World) (A : Option Addr) (n c k : Nat) (s : Txt) (L : List Txt) (W : World) (x y : Nat) (A1 : Option Addr) (c1 : Nat) (w1 w1' : World) (A2 : Option Addr) (c2 : Nat) (w2 : World) (A3 : Option Addr) (c3 : Nat) (w3 : World) : Prop where
  r1 : (Builtin.append_ #[23, 23] 23 #[.slice (some ⟨x, 0, none⟩) 0 0, .slice A k c]).run Tryz.prog W = .ok (.slice A1 k c1) w1
  r2 : (Builtin.append_ #[23, 23] 23 #[.slice A1 k c1, .slice (some ⟨y, 0, none⟩) 1 1]).run Tryz.prog w1' = .ok (.slice A2 (k + 1) c2) w2
  r3 : (Builtin.append_ #[23, 23] 23 #[.slice A2 (k + 1) c2, tailV A n c k]).run Tryz.prog w2 = .ok (.slice A3 (n + 1) c3) w3
  own : w3.ownsRow w.heap.size 9 1 (.slice A3 (n + 1) c3) (n + 1) ((L.take k ++ s :: L.drop k).map encStr)
  bel : Below w.heap.size w w3
theorem ins3_a {w : World} {A : Option Addr} {n c : Nat} {L : List Txt} {B : Nat} (h : Slc w B 1 A n c (L.map encStr)) (hB : B ≤ w.heap.size) {k : Nat} (hk : k ≤ n) (hn : n ≤ 1000000000) (s : Txt) :
    ∃ A1 c1 w1 A2 c2 w2 A3 c3 w3, Ins3 w A n c k s L ((w.alloc (.cells #[.string ⟨s.toArray⟩] 9)).alloc (.cells #[] 9)).drew (w.heap.size + 1) w.heap.size A1 c1 w1 w1 A2 c2 w2 A3 c3 w3 := by
  have hb : Below w.heap.size w ((w.drew.alloc (.cells #[.string ⟨s.toArray⟩] 9)).alloc (.cells #[] 9)) := (((Below.refl _ w).drew).alloc (Nat.le_refl _) _).alloc (by simp) _
  obtain ⟨A1, c1, w1, r1, o1, b1, k1, _⟩ := ins_one h hB hk hn (x := w.heap.size + 1) hb (by have := heap_alloc_new (w.drew.alloc (.cells #[.string ⟨s.toArray⟩] 9)) (.cells #[] 9); simpa using this) (by omega)
  have hy : w1.heap[w.heap.size]? = some (.cells #[.string ⟨s.toArray⟩] 9 (0, 0)) := by
    rw [k1 w.heap.size (by simp; omega) (by omega), Below.heap_alloc _ _ _ (by simp)]
    exact heap_alloc_new w.drew _
  obtain ⟨A2, c2, w2, A3, c3, w3, r2, r3, o3, b3⟩ := ins_two h hB hk hn b1 o1 hy
  exact ⟨A1, c1, w1, A2, c2, w2, A3, c3, w3, r1, r2, r3, o3, b3⟩
theorem ins3_b {w : World} {A : Option Addr} {n c : Nat} {L : List Txt} {B : Nat} (h : Slc w B 1 A n c (L.map encStr)) (hB : B ≤ w.heap.size) {k : Nat} (hk : k ≤ n) (hn : n ≤ 1000000000) (s : Txt) :
    ∃ A1 c1 w1 A2 c2 w2 A3 c3 w3, Ins3 w A n c k s L ((w.alloc (.cells #[] 9)).alloc (.cells #[.string ⟨s.toArray⟩] 9)).drew w.heap.size (w.heap.size + 1) A1 c1 w1 w1 A2 c2 w2 A3 c3 w3 := by
  have hb : Below w.heap.size w ((w.drew.alloc (.cells #[] 9)).alloc (.cells #[.string ⟨s.toArray⟩] 9)) := (((Below.refl _ w).drew).alloc (Nat.le_refl _) _).alloc (by simp) _
  obtain ⟨A1, c1, w1, r1, o1, b1, k1, _⟩ := ins_one h hB hk hn (x := w.heap.size) hb (by rw [Below.heap_alloc _ _ _ (by simp)]; exact heap_alloc_new w.drew _) (Nat.le_refl _)
  have hy : w1.heap[w.heap.size + 1]? = some (.cells #[.string ⟨s.toArray⟩] 9 (0, 0)) := by
    rw [k1 (w.heap.size + 1) (by simp) (by omega)]
    have := heap_alloc_new (w.drew.alloc (.cells #[] 9)) (.cells #[.string ⟨s.toArray⟩] 9)
    simpa using this
  obtain ⟨A2, c2, w2, A3, c3, w3, r2, r3, o3, b3⟩ := ins_two h hB hk hn b1 o1 hy
  exact ⟨A1, c1, w1, A2, c2, w2, A3, c3, w3, r1, r2, r3, o3, b3⟩
theorem ins3_c {w : World} {A : Option Addr} {n c : Nat} {L : List Txt} {B : Nat} (h : Slc w B 1 A n c (L.map encStr)) (hB : B ≤ w.heap.size) {k : Nat} (hk : k ≤ n) (hn : n ≤ 1000000000) (s : Txt) :
    ∃ A1 c1 w1 A2 c2 w2 A3 c3 w3, Ins3 w A n c k s L (w.alloc (.cells #[] 9)).drew w.heap.size w1.heap.size A1 c1 w1 (w1.alloc (.cells #[.string ⟨s.toArray⟩] 9)) A2 c2 w2 A3 c3 w3 := by
  have hb : Below w.heap.size w (w.drew.alloc (.cells #[] 9)) := ((Below.refl _ w).drew).alloc (Nat.le_refl _) _
  obtain ⟨A1, c1, w1, r1, o1, b1, k1, _⟩ := ins_one h hB hk hn (x := w.heap.size) hb (heap_alloc_new w.drew _) (Nat.le_refl _)
  have b1' := b1.alloc b1.size (.cells #[.string ⟨s.toArray⟩] 9)
  obtain ⟨A2, c2, w2, A3, c3, w3, r2, r3, o3, b3⟩ := ins_two h hB hk hn b1' (o1.alloc _) (heap_alloc_new w1 (.cells #[.string ⟨s.toArray⟩] 9))
  exact ⟨A1, c1, w1, A2, c2, w2, A3, c3, w3, r1, r2, r3, o3, b3⟩
end Go.Proofs.YtibndaianhlcaaaGreatDoor
