/- activate.more: a line is added to a unit. The system of some entries: plain, with no program in sight. A system while it is read, line by line: what lies in memory. Contracts of the library laid at this dump. strings.Cut at a byte; strings.SplitSeq at "\n": what its iterator gives. -/
import Derived.Test.YtibndaianhlcaaaGreatDoorPart25
import Derived.Test.YtibndaianhlcaaaGreatDoorPart23
import Derived.Test.YtibndaianhlcaaaGreatDoorPart17
import Derived.Test.YtibndaianhlcaaaGreatDoorPart18
import Derived.Shelf.Strings.Search2
import Derived.Shelf.Strings.Prefix
import Derived.Shelf.LaysM
import Derived.Ground.GgwProg
import Derived.Ground.SlgnProg
import Derived.Ground.SlgfProg
import Derived.Test.YtibndaianhlcaaaGreatDoorProg
import Derived.Test.YtibndaianhlcaaaGreatDoorPart4
namespace Go.Proofs.YtibndaianhlcaaaGreatDoor
open Go.RowKit
set_option linter.unusedVariables false
set_option linter.unusedSimpArgs false

set_option maxRecDepth 100000 in
set_option maxHeartbeats 1000000 in
theorem more_run {w : World} {g o : Nat} (r : Txt) {v : Value} (hc : w.cell? ⟨g, o + 1, none⟩ = some v) (hf : w.frozen? ⟨g, o + 1, none⟩ = false) :
    Calls Tryz.prog 67 #[.pointer (some ⟨g, o, none⟩), .string ⟨wRun.toArray⟩, .string ⟨r.toArray⟩] w fun e w' => e = .returned (.bool true) ∧ w' = w.setCell ⟨g, o + 1, none⟩ (.string ⟨r.toArray⟩) := by
  unfold wRun
  go_enter Tryz.func67, Tryz.ntmps67
  go_wp2
  go_ret
  exact ⟨rfl, rfl⟩
set_option maxRecDepth 100000 in
set_option maxHeartbeats 1000000 in
theorem more_req {w w1 : World} {g o : Nat} (r : Txt) {v : Value} {A' : Option Addr} {n' c' : Nat} (hc : w.cell? ⟨g, o + 2, none⟩ = some v) (hr : (Builtin.append_ #[23, 23] 23 #[v, .slice (some ⟨w.heap.size, 0, none⟩) 1 1]).run Tryz.prog (w.alloc (.cells #[.string ⟨r.toArray⟩] 9)) = .ok (.slice A' n' c') w1)
    {x : Value} (hc1 : w1.cell? ⟨g, o + 2, none⟩ = some x) (hf : w1.frozen? ⟨g, o + 2, none⟩ = false) :
    Calls Tryz.prog 67 #[.pointer (some ⟨g, o, none⟩), .string ⟨wReq.toArray⟩, .string ⟨r.toArray⟩] w fun e w' => e = .returned (.bool true) ∧ w' = w1.setCell ⟨g, o + 2, none⟩ (.slice A' n' c') := by
  unfold wReq
  go_enter Tryz.func67, Tryz.ntmps67
  go_wp2_with (at_builtin; refine wpList_append_run rfl _ _ _ rfl rfl rfl hr ?_; clear hr)
  go_ret
  exact ⟨rfl, rfl⟩
set_option maxRecDepth 100000 in
set_option maxHeartbeats 1000000 in
theorem more_aft {w w1 : World} {g o : Nat} (r : Txt) {v : Value} {A' : Option Addr} {n' c' : Nat} (hc : w.cell? ⟨g, o + 3, none⟩ = some v) (hr : (Builtin.append_ #[23, 23] 23 #[v, .slice (some ⟨w.heap.size, 0, none⟩) 1 1]).run Tryz.prog (w.alloc (.cells #[.string ⟨r.toArray⟩] 9)) = .ok (.slice A' n' c') w1)
    {x : Value} (hc1 : w1.cell? ⟨g, o + 3, none⟩ = some x) (hf : w1.frozen? ⟨g, o + 3, none⟩ = false) :
    Calls Tryz.prog 67 #[.pointer (some ⟨g, o, none⟩), .string ⟨wAft.toArray⟩, .string ⟨r.toArray⟩] w fun e w' => e = .returned (.bool true) ∧ w' = w1.setCell ⟨g, o + 3, none⟩ (.slice A' n' c') := by
  unfold wAft
  go_enter Tryz.func67, Tryz.ntmps67
  go_wp2_with (at_builtin; refine wpList_append_run rfl _ _ _ rfl rfl rfl hr ?_; clear hr)
  go_ret
  exact ⟨rfl, rfl⟩
set_option maxRecDepth 100000 in
set_option maxHeartbeats 1000000 in
theorem more_none {w : World} {g o : Nat} (word r : Txt) (h1 : word ≠ wRun) (h2 : word ≠ wReq) (h3 : word ≠ wAft) :
    Calls Tryz.prog 67 #[.pointer (some ⟨g, o, none⟩), .string ⟨word.toArray⟩, .string ⟨r.toArray⟩] w fun e w' => e = .returned (.bool false) ∧ w' = w := by
  have ht : (ByteArray.mk word.toArray).toList = word := Go.ByteArray.toList_eq _
  have e1 : (word == [114, 117, 110]) = false := by rw [beq_eq_false_iff_ne]; exact h1
  have e2 : (word == [114, 101, 113, 117, 105, 114, 101, 115]) = false := by rw [beq_eq_false_iff_ne]; exact h2
  have e3 : (word == [97, 102, 116, 101, 114]) = false := by rw [beq_eq_false_iff_ne]; exact h3
  clear h1 h2 h3
  go_enter Tryz.func67, Tryz.ntmps67
  go_wp2
  go_ret
  exact ⟨rfl, rfl⟩
/-- A line is added to the last unit. -/
theorem more21_any {w : World} {F : Nat → Prop} {g n c : Nat} {m : List SV} {u : SV} (h : BldU w F (some ⟨g, 0, none⟩) n c (m ++ [u])) (word r : Txt) (h1 : u.n ≤ 1000000000) (h2 : u.n2 ≤ 1000000000) :
    Calls Tryz.prog 67 #[.pointer (some ⟨g, m.length * 4, none⟩), .string ⟨word.toArray⟩, .string ⟨r.toArray⟩] w fun e w' => ∃ u' F', e = .returned (.bool (moreU u.srv word r).2) ∧ u'.srv = (moreU u.srv word r).1 ∧ u'.n ≤ u.n + 1 ∧ u'.n2 ≤ u.n2 + 1 ∧
      BldU w' F' (some ⟨g, 0, none⟩) n c (m ++ [u']) ∧ Step w w' F F' ∧ (∀ k, F' k → F k ∨ (w.heap.size ≤ k ∧ k < w'.heap.size)) := by
  obtain ⟨_, g', hg, k1, k2, k3, k4⟩ := h.last
  injection hg with hg
  injection hg with hg
  subst hg
  by_cases e1 : word = wRun
  · subst e1
    refine (more_run r (k3 1 (by decide)) (k4 _)).mono ?_
    rintro e w' ⟨rfl, rfl⟩
    refine ⟨⟨u.name, r, u.req, u.A, u.n, u.c, u.aft, u.A2, u.n2, u.c2⟩, F, rfl, rfl, Nat.le_succ _, Nat.le_succ _, h.start r, (Step.refl w F).setCell (.inl k1) _, fun k hk => .inl hk⟩
  by_cases e2 : word = wReq
  · subst e2
    obtain ⟨A', c', w1, r1, r2, r3, _, r4⟩ := h.req r h1
    obtain ⟨cur, fr, hcu⟩ := row_typed h.own.row g rfl
    have hk := r4 g cur fr _ (by decide) hcu
    refine (more_req r (k3 2 (by decide)) r1 (x := .slice u.A u.n u.c) ?_ ?_).mono ?_
    · rw [World.cell?_of_block (w := w) hk]; exact k3 2 (by decide)
    · rw [World.frozen?_of_block (w := w) hk]; exact k4 _
    · rintro e w' ⟨rfl, rfl⟩
      refine ⟨⟨u.name, u.start, u.req ++ [r], A', u.n + 1, c', u.aft, u.A2, u.n2, u.c2⟩, Fn F w w1, rfl, ?_, Nat.le_refl _, Nat.le_succ _, r2, r3.setCell (.inl k1) _, fun k hk => ?_⟩
      · unfold moreU
        rw [if_neg (by decide), if_pos rfl]
        rfl
      · rcases hk with hk | hk
        · exact .inl hk
        · exact .inr ⟨hk.1, by simpa using hk.2⟩
  by_cases e3 : word = wAft
  · subst e3
    obtain ⟨A', c', w1, r1, r2, r3, _, r4⟩ := h.aft r h2
    obtain ⟨cur, fr, hcu⟩ := row_typed h.own.row g rfl
    have hk := r4 g cur fr _ (by decide) hcu
    refine (more_aft r (k3 3 (by decide)) r1 (x := .slice u.A2 u.n2 u.c2) ?_ ?_).mono ?_
    · rw [World.cell?_of_block (w := w) hk]; exact k3 3 (by decide)
    · rw [World.frozen?_of_block (w := w) hk]; exact k4 _
    · rintro e w' ⟨rfl, rfl⟩
      refine ⟨⟨u.name, u.start, u.req, u.A, u.n, u.c, u.aft ++ [r], A', u.n2 + 1, c'⟩, Fn F w w1, rfl, ?_, Nat.le_succ _, Nat.le_refl _, r2, r3.setCell (.inl k1) _, fun k hk => ?_⟩
      · unfold moreU
        rw [if_neg (by decide), if_neg (by decide), if_pos rfl]
        rfl
      · rcases hk with hk | hk
        · exact .inl hk
        · exact .inr ⟨hk.1, by simpa using hk.2⟩
  · refine (more_none word r e1 e2 e3).mono ?_
    rintro e w' ⟨rfl, hw⟩
    obtain rfl := hw.symm
    have hm : moreU u.srv word r = (u.srv, false) := by unfold moreU; rw [if_neg e1, if_neg e2, if_neg e3]
    rw [hm]
    exact ⟨u, F, rfl, rfl, Nat.le_succ _, Nat.le_succ _, h, Step.refl w F, fun k hk => .inl hk⟩
end Go.Proofs.YtibndaianhlcaaaGreatDoor
namespace Go.Proofs.YtibndaianhlcaaaGreatDoor
set_option linter.unusedVariables false
set_option linter.unusedSimpArgs false

def etcT : Txt := [101, 116, 99, 47]
/-- A path, etc/ taken off. -/
def trimE (p : Txt) : Txt := if etcT.isPrefixOf p = true then p.drop 4 else p
def partE (x : Ent) : Ent := ⟨trimE x.path, x.kind, x.data⟩
def lastD (es : List Ent) : Txt := match es.getLast? with
  | none => []
  | some x => x.data
def partS (es : List Ent) : SysP := sysText ⟨es.dropLast.map partE, [], []⟩ (lastD es)
/-- The system of some entries; none: there is none. -/
def sysR (es : List Ent) : Option SysP := if es ≠ [] ∧ rightS (partS es) = true ∧ laidS (partS es) = es then some (partS es) else none

theorem line_files (s : SysP) (l : Txt) : (sysLine s l).files = s.files := by
  unfold sysLine
  split
  · rfl
  · split <;> rfl
theorem fold_files : ∀ (l : List Txt) (s : SysP), (l.foldl sysLine s).files = s.files
  | [], s => rfl
  | x :: l, s => by rw [List.foldl_cons, fold_files l, line_files]
theorem part_files (es : List Ent) : (partS es).files = es.dropLast.map partE := fold_files _ _
theorem laid_drop (s : SysP) : (laidS s).dropLast = s.files.map (fun x => ⟨[101, 116, 99, 47] ++ x.path, x.kind, x.data⟩) := by
  unfold laidS
  rw [List.dropLast_concat]
theorem laid_lastD (s : SysP) : lastD (laidS s) = textS s := by
  unfold laidS lastD
  rw [List.getLast?_concat]
/-- An entry ahead of the last that does not begin with etc/: no system. -/
theorem sys_bad {es : List Ent} {x : Ent} (hx : x ∈ es.dropLast) (h : etcT.isPrefixOf x.path = false) : sysR es = none := by
  unfold sysR
  rw [if_neg]
  rintro ⟨_, _, h3⟩
  have h4 := congrArg List.dropLast h3
  rw [laid_drop, part_files, List.map_map] at h4
  obtain ⟨i, hi, rfl⟩ := List.getElem_of_mem hx
  have h5 := congrArg (fun l => l[i]?) h4
  simp only [List.getElem?_map, List.getElem?_eq_getElem hi, Option.map_some, Function.comp] at h5
  injection h5 with h5
  have h6 := congrArg Ent.path h5
  simp only at h6
  rw [← h6] at h
  have h7 : etcT.isPrefixOf ([101, 116, 99, 47] ++ (partE es.dropLast[i]).path) = true := by
    rw [List.isPrefixOf_iff_prefix]
    exact List.prefix_append _ _
  rw [h7] at h
  cases h
theorem letter_calm {l : Txt} (h : l.all letterB = true) : (10 : UInt8) ∉ l := fun hm => by
  have := List.all_eq_true.1 h 10 hm
  revert this
  decide
theorem print_calm {l : Txt} (h : l.all printB = true) : (10 : UInt8) ∉ l := fun hm => by
  have := List.all_eq_true.1 h 10 hm
  revert this
  decide
theorem name_calm {l : Txt} (h : nameB l = true) : (10 : UInt8) ∉ l := by
  unfold nameB at h
  rw [Bool.and_eq_true] at h
  exact letter_calm h.2
theorem may_calm {u : Srv} (h : mayU u = true) : Calm u := by
  unfold mayU at h
  simp only [Bool.and_eq_true, List.all_cons, List.all_append, List.all_eq_true, decide_eq_true_eq] at h
  obtain ⟨⟨⟨h1, h2, h3⟩, _⟩, h4⟩ := h
  exact ⟨name_calm h1, print_calm (List.all_eq_true.2 h4), fun n hn => name_calm (h2 n hn), fun n hn => name_calm (h3 n hn)⟩
theorem units_may : ∀ {l acc : List Srv}, unitsOk acc l = true → ∀ u ∈ l, mayU u = true
  | [], _, _, u, hu => by cases hu
  | v :: l, acc, h, u, hu => by
    unfold unitsOk at h
    simp only [Bool.and_eq_true] at h
    rcases List.mem_cons.1 hu with rfl | hu
    · exact h.1.1.1
    · exact units_may h.2 u hu
theorem trim_etc (p : Txt) : trimE ([101, 116, 99, 47] ++ p) = p := by
  unfold trimE
  rw [if_pos (by rw [List.isPrefixOf_iff_prefix]; exact List.prefix_append _ _)]
  rfl
/-- A system's own entries are read as that system. -/
theorem sys_own {s : SysP} (h : rightS s = true) : sysR (laidS s) = some s := by
  have hp := right_parts h
  have e : partS (laidS s) = s := by
    unfold partS
    rw [laid_drop, laid_lastD, sys_back (fun n hn => name_calm (hp.2.2.2.1 n hn)) (fun u hu => may_calm (units_may hp.2.2.2.2.2.1 u hu))]
    have e1 : (s.files.map (fun x => (⟨[101, 116, 99, 47] ++ x.path, x.kind, x.data⟩ : Ent))).map partE = s.files := by
      rw [List.map_map]
      refine (List.map_congr_left (g := id) (fun x _ => ?_)).trans (List.map_id _)
      show (⟨trimE ([101, 116, 99, 47] ++ x.path), x.kind, x.data⟩ : Ent) = x
      rw [trim_etc]
    rw [e1]
  unfold sysR
  rw [e, if_pos ⟨by unfold laidS; simp, h, rfl⟩]
/-- Read line by line, from the front: what is left. -/
theorem text_none (s : SysP) : sysText s [] = s := by
  unfold sysText
  show sysLine s [] = s
  unfold sysLine
  rw [if_neg (by decide), if_neg (by decide)]
  have e4 : (fun u : Srv => (moreU u (wordT []) (behindT [])).1) = fun u => u := by
    funext u
    unfold moreU
    rw [if_neg (by decide), if_neg (by decide), if_neg (by decide)]
  rw [e4, last_id]
theorem text_last (s : SysP) {a : Txt} (h : (10 : UInt8) ∉ a) : sysText s a = sysText (sysLine s a) [] := by
  rw [text_none]
  unfold sysText
  have e : ∀ a : Txt, (10 : UInt8) ∉ a → splitN 10 a = [a] := fun a => by
    induction a with
    | nil => intro _; rfl
    | cons x a ih =>
      intro h
      rw [splitN, if_neg (fun e => h (by rw [e]; exact List.mem_cons_self)), ih (fun hm => h (List.mem_cons_of_mem _ hm))]
  rw [e a h]
  rfl
/-! How much a system's text holds -/
def lenL (l : List Txt) : Nat := (l.map List.length).sum
theorem lenL_cons (a : Txt) (l : List Txt) : lenL (a :: l) = a.length + lenL l := by simp [lenL]
theorem lenL_append (a b : List Txt) : lenL (a ++ b) = lenL a + lenL b := by simp [lenL]
theorem split_len (c : UInt8) : ∀ t : Txt, lenL (splitN c t) ≤ t.length
  | [] => by simp [splitN, lenL]
  | x :: t => by
    have ih := split_len c t
    unfold splitN
    split
    · rw [lenL_cons]; simp; omega
    · split
      · simp [lenL]
      · rename_i p q he
        rw [he, lenL_cons] at ih
        rw [lenL_cons]
        simp only [List.length_cons]
        omega
theorem split_pre {c : UInt8} {t : Txt} {pre : List Txt} (h : pre <+: splitN c t) : lenL pre ≤ t.length := by
  obtain ⟨b, hb⟩ := h
  have := split_len c t
  rw [← hb, lenL_append] at this
  omega
/-- Every list of a system is at most k long, every text at most m. -/
structure CapS (s : SysP) (k m : Nat) : Prop where
  users : s.users.length ≤ k
  units : s.units.length ≤ k
  lists : ∀ u ∈ s.units, u.req.length ≤ k ∧ u.aft.length ≤ k
  texts : ∀ t ∈ s.users, t.length ≤ m
  names : ∀ u ∈ s.units, u.name.length ≤ m ∧ u.start.length ≤ m ∧ (∀ t ∈ u.req, t.length ≤ m) ∧ ∀ t ∈ u.aft, t.length ≤ m
theorem CapS.more {s : SysP} {k k' m : Nat} (h : CapS s k m) (hk : k ≤ k') : CapS s k' m :=
  ⟨Nat.le_trans h.users hk, Nat.le_trans h.units hk, fun u hu => ⟨Nat.le_trans (h.lists u hu).1 hk, Nat.le_trans (h.lists u hu).2 hk⟩, h.texts, h.names⟩
theorem behind_le (l : Txt) : (behindT l).length ≤ l.length := by
  unfold behindT
  rw [List.length_drop]
  have h1 := (List.dropWhile_sublist (fun x => decide (x ≠ 32)) (l := l)).length_le
  omega
theorem CapS.nil (F : List Ent) (m : Nat) : CapS ⟨F, [], []⟩ 0 m := ⟨Nat.le_refl _, Nat.le_refl _, (fun u h => by cases h), (fun u h => by cases h), fun u h => by cases h⟩
theorem CapS.line {s : SysP} {k m : Nat} (h : CapS s k m) {l : Txt} (hl : l.length ≤ m) : CapS (sysLine s l) (k + l.length) m := by
  cases l with
  | nil =>
    have e : sysLine s [] = s := text_none s
    rw [e]
    exact h.more (by simp)
  | cons x l =>
    have hb : (behindT (x :: l)).length ≤ m := Nat.le_trans (behind_le _) hl
    have h1 := h.more (show k ≤ k + (x :: l).length by omega)
    have hk : k + 1 ≤ k + (x :: l).length := by simp
    generalize k + (x :: l).length = k' at *
    unfold sysLine
    generalize behindT (x :: l) = b at *
    split
    · refine ⟨by have := h.users; simp; omega, h1.units, h1.lists, fun t ht => ?_, h1.names⟩
      rcases List.mem_append.1 ht with ht | ht
      · exact h.texts t ht
      · rw [List.mem_singleton.1 ht]; exact hb
    · split
      · refine ⟨h1.users, by have := h.units; simp; omega, fun u hu => ?_, h1.texts, fun u hu => ?_⟩
        · rcases List.mem_append.1 hu with hu | hu
          · exact h1.lists u hu
          · rw [List.mem_singleton.1 hu]; exact ⟨Nat.zero_le _, Nat.zero_le _⟩
        · rcases List.mem_append.1 hu with hu | hu
          · exact h1.names u hu
          · rw [List.mem_singleton.1 hu]; exact ⟨hb, Nat.zero_le _, (fun t ht => by cases ht), fun t ht => by cases ht⟩
      · rcases List.eq_nil_or_concat s.units with e | ⟨M, u, e⟩
        · have e2 : ∀ f, lastU s.units f = s.units := fun f => by rw [e]; rfl
          rw [e2]
          exact ⟨h1.users, h1.units, h1.lists, h1.texts, h1.names⟩
        · rw [List.concat_eq_append] at e
          have hu := h.lists u (by rw [e]; simp)
          have hn := h.names u (by rw [e]; simp)
          have hm : (moreU u (wordT (x :: l)) b).1.req.length ≤ k' ∧ (moreU u (wordT (x :: l)) b).1.aft.length ≤ k' ∧ (moreU u (wordT (x :: l)) b).1.name.length ≤ m ∧ (moreU u (wordT (x :: l)) b).1.start.length ≤ m ∧ (∀ t ∈ (moreU u (wordT (x :: l)) b).1.req, t.length ≤ m) ∧ ∀ t ∈ (moreU u (wordT (x :: l)) b).1.aft, t.length ≤ m := by
            unfold moreU
            split
            · exact ⟨by simp only; omega, by simp only; omega, hn.1, hb, hn.2.2.1, hn.2.2.2⟩
            · split
              · refine ⟨by simp only [List.length_append, List.length_singleton]; omega, by simp only; omega, hn.1, hn.2.1, fun t ht => ?_, hn.2.2.2⟩
                rcases List.mem_append.1 ht with ht | ht
                · exact hn.2.2.1 t ht
                · rw [List.mem_singleton.1 ht]; exact hb
              · split
                · refine ⟨by simp only; omega, by simp only [List.length_append, List.length_singleton]; omega, hn.1, hn.2.1, hn.2.2.1, fun t ht => ?_⟩
                  rcases List.mem_append.1 ht with ht | ht
                  · exact hn.2.2.2 t ht
                  · rw [List.mem_singleton.1 ht]; exact hb
                · exact ⟨by simp only; omega, by simp only; omega, hn.1, hn.2.1, hn.2.2.1, hn.2.2.2⟩
          have e3 := last_app M u (fun u => (moreU u (wordT (x :: l)) b).1)
          rw [← e] at e3
          rw [e3]
          refine ⟨h1.users, ?_, fun v hv => ?_, h1.texts, fun v hv => ?_⟩
          · have := h1.units
            rw [e] at this
            simpa using this
          · rcases List.mem_append.1 hv with hv | hv
            · exact h1.lists v (by rw [e]; exact List.mem_append.2 (.inl hv))
            · rw [List.mem_singleton.1 hv]; exact ⟨hm.1, hm.2.1⟩
          · rcases List.mem_append.1 hv with hv | hv
            · exact h1.names v (by rw [e]; exact List.mem_append.2 (.inl hv))
            · rw [List.mem_singleton.1 hv]; exact hm.2.2
theorem CapS.fold : ∀ (l : List Txt) {s : SysP} {k m : Nat}, CapS s k m → (∀ t ∈ l, t.length ≤ m) → CapS (l.foldl sysLine s) (k + lenL l) m
  | [], s, k, m, h, _ => by simpa [lenL] using h
  | a :: l, s, k, m, h, hl => by
    rw [List.foldl_cons, lenL_cons, ← Nat.add_assoc]
    exact CapS.fold l (h.line (hl a List.mem_cons_self)) (fun t ht => hl t (List.mem_cons_of_mem _ ht))
theorem split_mem {c : UInt8} {t a : Txt} (h : a ∈ splitN c t) : a.length ≤ t.length := by
  have h1 := split_len c t
  obtain ⟨p, q, e⟩ := List.append_of_mem h
  rw [e, lenL_append, lenL_cons] at h1
  omega
/-- A text is cut where its first byte of a kind stands. -/
theorem front_at {c : UInt8} {s : Txt} {k : Nat} (hk : k ≤ s.length) (h : ∀ x ∈ s.take k, x ≠ c) (he : k = s.length ∨ s[k]? = some c) :
    s.takeWhile (fun x => decide (x ≠ c)) = s.take k ∧ (s.dropWhile fun x => decide (x ≠ c)) = s.drop k := by
  have e : s = s.take k ++ s.drop k := (List.take_append_drop k s).symm
  have h1 : ∀ x ∈ s.take k, decide (x ≠ c) = true := fun x hx => decide_eq_true (h x hx)
  have h2 : (s.drop k).takeWhile (fun x => decide (x ≠ c)) = [] ∧ (s.drop k).dropWhile (fun x => decide (x ≠ c)) = s.drop k := by
    cases hd : s.drop k with
    | nil => exact ⟨rfl, rfl⟩
    | cons y t =>
      have hy : y = c := by
        rcases he with he | he
        · rw [he, List.drop_length] at hd; cases hd
        · have h5 : (s.drop k)[0]? = some c := by rw [List.getElem?_drop]; simpa using he
          rw [hd] at h5
          simpa using h5
      subst hy
      exact ⟨by rw [List.takeWhile_cons_of_neg (by simp)], by rw [List.dropWhile_cons_of_neg (by simp)]⟩
  constructor
  · conv => lhs; rw [e]
    rw [List.takeWhile_append_of_pos h1, h2.1, List.append_nil]
  · conv => lhs; rw [e]
    rw [List.dropWhile_append_of_pos h1, h2.2]
end Go.Proofs.YtibndaianhlcaaaGreatDoor
namespace Go.Proofs.YtibndaianhlcaaaGreatDoor
open Go.RowKit Go.Sort
set_option linter.unusedVariables false
set_option linter.unusedSimpArgs false

theorem Step.inner {a b c : World} {F F' G : Nat → Prop} (h : Step a b G G) (k : Step b c F F') (hF : ∀ i, F i → G i ∨ a.heap.size ≤ i) : Step a c G G :=
  ⟨k.os.trans h.os, k.tape.trans h.tape, k.output.trans h.output, Nat.le_trans h.size k.size, fun i hi hn => by
      rw [k.block i (Nat.lt_of_lt_of_le hi h.size) (fun hf => by rcases hF i hf with h1 | h1; exact hn h1; omega), h.block i hi hn], fun i hi => .inl hi⟩
/-- The system's box at sB, its lists above H; below H only blocks of G turn. -/
structure SysI (wL : World) (G : Nat → Prop) (sB H : Nat) (fv : Value) (W : World) (F : Nat → Prop) (A2 : Option Addr) (n2 c2 : Nat) (users : List Txt) (A3 : Option Addr) (n3 c3 : Nat) (us : List SV) : Prop where
  step : Step wL W G G
  box : Blk W sB 26 #[fv, .slice A2 n2 c2, .slice A3 n3 c3]
  users : Row W (fun k => H ≤ k ∧ ¬ F k) 9 1 (.slice A2 n2 c2) n2 (users.map encStr)
  units : BldU W F A3 n3 c3 us
  foot : ∀ k, F k → H ≤ k ∧ k < W.heap.size
  gbox : G sB
  low : sB < wL.heap.size
  high : wL.heap.size ≤ H
section
variable {wL : World} {G : Nat → Prop} {sB H : Nat} {fv : Value} {W W' : World} {F : Nat → Prop} {A2 : Option Addr} {n2 c2 : Nat} {users : List Txt} {A3 : Option Addr} {n3 c3 : Nat} {us : List SV}
theorem SysI.nfoot (h : SysI wL G sB H fv W F A2 n2 c2 users A3 n3 c3 us) : ¬ F sB := fun hf => by
  have := (h.foot _ hf).1
  have := h.low
  have := h.high
  omega
theorem SysI.apart {P : Nat → Prop} (h : SysI wL G sB H fv W F A2 n2 c2 users A3 n3 c3 us) (hs : Step W W' P P) (hP : ∀ k, P k → k ≠ sB ∧ k < H ∧ (G k ∨ wL.heap.size ≤ k)) : SysI wL G sB H fv W' F A2 n2 c2 users A3 n3 c3 us :=
  ⟨h.step.inner hs (fun k hk => (hP k hk).2.2), h.box.step hs (fun hp => (hP _ hp).1 rfl), h.users.step hs (fun k hk hp => by have := (hP k hp).2.1; omega), h.units.keep hs.size (fun k hk hf => hs.block k hk (fun hp => by have := (hP k hp).2.1; have := (h.foot k hf).1; omega)),
    fun k hk => ⟨(h.foot k hk).1, Nat.lt_of_lt_of_le (h.foot k hk).2 hs.size⟩, h.gbox, h.low, h.high⟩
theorem SysI.below (h : SysI wL G sB H fv W F A2 n2 c2 users A3 n3 c3 us) (hb : Below W.heap.size W W') : SysI wL G sB H fv W' F A2 n2 c2 users A3 n3 c3 us :=
  h.apart (Step.of_below hb (fun _ => False)) (fun k hk => hk.elim)
/-- The units have turned. -/
theorem SysI.turn {F' : Nat → Prop} {us' : List SV} {A3' : Option Addr} {n3' c3' : Nat} (h : SysI wL G sB H fv W F A2 n2 c2 users A3 n3 c3 us) (hW : H ≤ W.heap.size) (hu : BldU W' F' A3' n3' c3' us') (hs : Step W W' F F') (hF : ∀ k, F' k → F k ∨ (W.heap.size ≤ k ∧ k < W'.heap.size)) :
    Blk W' sB 26 #[fv, .slice A2 n2 c2, .slice A3 n3 c3] ∧ Step wL W' G G ∧ Row W' (fun k => H ≤ k ∧ ¬ F' k) 9 1 (.slice A2 n2 c2) n2 (users.map encStr) ∧ ∀ k, F' k → H ≤ k ∧ k < W'.heap.size := by
  refine ⟨h.box.step hs h.nfoot, h.step.inner hs (fun k hk => .inr (Nat.le_trans h.high (h.foot k hk).1)), h.users.kept (fun k hk => hs.block k (h.users.lt k hk) (h.users.foot k hk).2) (fun k hk => ⟨(h.users.foot k hk).1, fun hf => ?_⟩), fun k hk => ?_⟩
  · rcases hF k hf with h1 | h1
    · exact (h.users.foot k hk).2 h1
    · have := h.users.lt k hk; omega
  · rcases hF k hk with h1 | h1
    · exact ⟨(h.foot k h1).1, Nat.lt_of_lt_of_le (h.foot k h1).2 hs.size⟩
    · exact ⟨by omega, h1.2⟩
theorem SysI.more {F' : Nat → Prop} {us' : List SV} (h : SysI wL G sB H fv W F A2 n2 c2 users A3 n3 c3 us) (hW : H ≤ W.heap.size) (hu : BldU W' F' A3 n3 c3 us') (hs : Step W W' F F') (hF : ∀ k, F' k → F k ∨ (W.heap.size ≤ k ∧ k < W'.heap.size)) :
    SysI wL G sB H fv W' F' A2 n2 c2 users A3 n3 c3 us' := by
  obtain ⟨h1, h2, h3, h4⟩ := h.turn hW hu hs hF
  exact ⟨h2, h1, h3, hu, h4, h.gbox, h.low, h.high⟩
theorem sys_ne {w : World} {sB : Nat} {cs : Array Value} (hB : Blk w sB 26 cs) {e : TypeId} (he : e ≠ 26) {k : Nat} {cur : Array Value} {fr : Nat × Nat} (h : w.heap[k]? = some (Obj.cells cur e fr)) : k ≠ sB := fun e1 => by
  subst e1
  unfold Blk at hB
  rw [hB] at h
  injection h with h
  injection h with _ h
  exact he h.symm
/-- A user's line. -/
theorem SysI.user (h : SysI wL G sB H fv W F A2 n2 c2 users A3 n3 c3 us) (hW : H ≤ W.heap.size) (r : Txt) (hn : n2 ≤ 1000000000) :
    ∃ A' c' W', (Builtin.append_ #[23, 23] 23 #[.slice A2 n2 c2, .slice (some ⟨W.heap.size, 0, none⟩) 1 1]).run Tryz.prog (W.alloc (.cells #[.string ⟨r.toArray⟩] 9)) = .ok (.slice A' (n2 + 1) c') W' ∧
      W'.cell? ⟨sB, 1, none⟩ = some (.slice A2 n2 c2) ∧ W'.frozen? ⟨sB, 1, none⟩ = false ∧ W.heap.size ≤ W'.heap.size ∧ SysI wL G sB H fv (W'.setCell ⟨sB, 1, none⟩ (.slice A' (n2 + 1) c')) F A' (n2 + 1) c' (users ++ [r]) A3 n3 c3 us ∧ Step W W' (fun k => H ≤ k ∧ ¬ F k) (fun k => H ≤ k ∧ ¬ F k) := by
  obtain ⟨A', c', W', r1, r2, r3, r4, r5⟩ := h.users.appS r hn
  have hlh : sB < H := Nat.lt_of_lt_of_le h.low h.high
  have hst : Step W W' (fun k => H ≤ k ∧ ¬ F k) (fun k => H ≤ k ∧ ¬ F k) := (Step.refl W _).grown r3 (fun k hk => .inl (h.users.foot k hk))
  have hbx := h.box.step hst (fun hx => by omega)
  refine ⟨A', c', W', r1, hbx.cell 1, hbx.frozen 1, r3.size, ⟨?_, hbx.set_ 1 _, ⟨?_, fun k hk => ?_⟩, ?_, fun k hk => ⟨(h.foot k hk).1, by simpa using Nat.lt_of_lt_of_le (h.foot k hk).2 r3.size⟩, h.gbox, h.low, h.high⟩, hst⟩
  · exact (h.step.inner hst (fun k hk => .inr (Nat.le_trans h.high hk.1))).setCell (.inl h.gbox) _
  · refine own_keep r2 (fun k hk => Below.heap_setCell W' _ _ k (fun e1 => ?_))
    simp only at e1
    subst e1
    rcases r5 with r5 | r5
    · rw [r5] at hk; have := (h.users.foot _ hk).1; omega
    · have := r5 _ hk; have := h.box.lt; omega
  · rcases r5 with r5 | r5
    · rw [r5] at hk; exact h.users.foot k hk
    · have h1 := r5 k hk
      exact ⟨by omega, fun hf => by have := (h.foot k hf).2; omega⟩
  · refine h.units.keep (by simpa using r3.size) (fun k hk hf => ?_)
    rw [Below.heap_setCell W' _ _ k (fun e1 => by simp only at e1; have := (h.foot k hf).1; omega)]
    exact hst.block k hk (fun hx => hx.2 hf)
/-- A unit's line. -/
theorem SysI.unit (h : SysI wL G sB H fv W F A2 n2 c2 users A3 n3 c3 us) (hW : H ≤ W.heap.size) (r : Txt) (hn : n3 ≤ 1000000000) :
    ∃ A' c' W', (Builtin.append_ #[24, 24] 24 #[.slice A3 n3 c3, .slice (some ⟨W.heap.size, 0, none⟩) 1 1]).run Tryz.prog (W.alloc (.cells (svArr ⟨r, [], [], none, 0, 0, [], none, 0, 0⟩) 59)) = .ok (.slice A' (n3 + 1) c') W' ∧
      W'.cell? ⟨sB, 2, none⟩ = some (.slice A3 n3 c3) ∧ W'.frozen? ⟨sB, 2, none⟩ = false ∧ W.heap.size ≤ W'.heap.size ∧ SysI wL G sB H fv (W'.setCell ⟨sB, 2, none⟩ (.slice A' (n3 + 1) c')) (Fn F W W') A2 n2 c2 users A' (n3 + 1) c' (us ++ [⟨r, [], [], none, 0, 0, [], none, 0, 0⟩]) ∧ Step W W' F (Fn F W W') := by
  obtain ⟨A', c', W', r1, r2, r3⟩ := h.units.begin r hn
  obtain ⟨h1, h2, h3, h4⟩ := h.turn hW r2 r3 (fun k hk => hk)
  have hlh : sB < H := Nat.lt_of_lt_of_le h.low h.high
  refine ⟨A', c', W', r1, h1.cell 2, h1.frozen 2, r3.size, ⟨h2.setCell (.inl h.gbox) _, h1.set_ 2 _, ?_, ?_, fun k hk => ⟨(h4 k hk).1, by simpa using (h4 k hk).2⟩, h.gbox, h.low, h.high⟩, r3⟩
  · refine h3.kept (fun k hk => Below.heap_setCell W' _ _ k (fun e1 => ?_)) h3.foot
    simp only at e1
    have := (h3.foot k hk).1
    omega
  · refine r2.keep (by simp) (fun k hk hf => Below.heap_setCell W' _ _ k (fun e1 => ?_))
    simp only at e1
    have := (h4 k hf).1
    omega
/-- What is read, as a system in memory. -/
theorem SysI.obs {A : Option Addr} {n c : Nat} (h : SysI wL G sB H (.slice A n c) W F A2 n2 c2 users A3 n3 c3 us) {es : List EV} (hf : EntsAt W W.heap.size A n c es) : ObsAt W W.heap.size ⟨A, n, c, es, A2, n2, c2, users, A3, n3, c3, us⟩ :=
  ⟨hf, h.users.slc', h.units.own.unitsAt⟩
end
end Go.Proofs.YtibndaianhlcaaaGreatDoor
namespace Go.Proofs
open Go.Shelf
def Tryz.lays219_ren : Go.Shelf.Ren := ⟨fun | 219 => 124 | 217 => 144 | 225 => 145 | 224 => 146 | 267 => 147 | 266 => 161 | 314 => 162 | n => n, fun | 9 => 9 | 3 => 3 | 4 => 4 | 5 => 5 | 46 => 159 | 146 => 179 | 51 => 178 | n => n, fun | 1 => 0 | n => n⟩
theorem Tryz.lays219 : Go.Proofs.Lays.n219 Tryz.prog Tryz.lays219_ren := {
  mixed := by kernel_rfl
  f217 := Tryz.func144.trans (congrArg some (by kernel_rfl))
  f219 := Tryz.func124.trans (congrArg some (by kernel_rfl))
  f224 := Tryz.func146.trans (congrArg some (by kernel_rfl))
  f225 := Tryz.func145.trans (congrArg some (by kernel_rfl))
  f266 := Tryz.func161.trans (congrArg some (by kernel_rfl))
  f267 := Tryz.func147.trans (congrArg some (by kernel_rfl))
  f314 := Tryz.func162.trans (congrArg some (by kernel_rfl))
  t3 := Tryz.underlying3
  a3 := Tryz.isAgg3
  z3 := Tryz.sizeOf3
  v3 := Tryz.zeroValue3
  t4 := Tryz.underlying4
  a4 := Tryz.isAgg4
  z4 := Tryz.sizeOf4
  v4 := Tryz.zeroValue4
  t5 := Tryz.underlying5
  a5 := Tryz.isAgg5
  z5 := Tryz.sizeOf5
  v5 := Tryz.zeroValue5
  t9 := Tryz.underlying9
  a9 := Tryz.isAgg9
  z9 := Tryz.sizeOf9
  v9 := Tryz.zeroValue9
  t46 := Tryz.underlying159
  a46 := Tryz.isAgg159
  z46 := Tryz.sizeOf159
  v46 := Tryz.zeroValue159
  t51 := Tryz.underlying178
  a51 := Tryz.isAgg178
  z51 := Tryz.sizeOf178
  v51 := Tryz.zeroValue178
  t146 := Tryz.underlying179
  a146 := Tryz.isAgg179
  z146 := Tryz.sizeOf179
  v146 := Tryz.zeroValue179
  g1 := by kernel_rfl }
open Go.RowKit Go.Lib in
/-- internal/stringslite.Index (what strings.Index calls) AT A substr OF ONE BYTE c: IT RETURNS 'Lib.indexByte s c'; the world is as it was. (LAID: no walk: one application.) -/
theorem Tryz.stringslite_Index_one (s : ByteArray) (c : UInt8) (w : World) :
    Calls Tryz.prog 124 #[.string s, .string ⟨#[c]⟩] w fun e w' => e = .returned (.int .i64 (Lib.indexByte s.data.toList c)) ∧ w' = w := Any.stringslite_Index_one Tryz.lays219 s c w
def Tryz.lays101_ren : Go.Shelf.Ren := ⟨fun | 101 => 64 | 208 => 97 | 206 => 107 | n => n, fun | 9 => 9 | 4 => 4 | 3 => 3 | n => n, fun | n => n⟩
theorem Tryz.lays101 : Go.Proofs.Lays.n101 Tryz.prog Tryz.lays101_ren := {
  mixed := by kernel_rfl
  f101 := Tryz.func64.trans (congrArg some (by kernel_rfl))
  f206 := Tryz.func107.trans (congrArg some (by kernel_rfl))
  f208 := Tryz.func97.trans (congrArg some (by kernel_rfl))
  t3 := Tryz.underlying3
  a3 := Tryz.isAgg3
  z3 := Tryz.sizeOf3
  v3 := Tryz.zeroValue3
  t4 := Tryz.underlying4
  a4 := Tryz.isAgg4
  z4 := Tryz.sizeOf4
  v4 := Tryz.zeroValue4
  t9 := Tryz.underlying9
  a9 := Tryz.isAgg9
  z9 := Tryz.sizeOf9
  v9 := Tryz.zeroValue9 }
open Go.RowKit Go.Lib in
/-- strings.TrimPrefix: "TrimPrefix returns s without the provided leading prefix string. If s doesn't start with prefix, s is returned unchanged.": IT RETURNS 'Lib.trimPrefix s prefix'; the world is as it was. (LAID: no walk: one application.) -/
theorem Tryz.strings_TrimPrefix (s p : ByteArray) (w : World) :
    Calls Tryz.prog 64 #[.string s, .string p] w fun e w' => e = .returned (.string ⟨(Lib.trimPrefix s.data.toList p.data.toList).toArray⟩) ∧ w' = w := Any.strings_TrimPrefix Tryz.lays101 s p w
end Go.Proofs
namespace Go.Proofs.YtibndaianhlcaaaGreatDoor
open Go.RowKit Go.Shelf
set_option linter.unusedVariables false
set_option linter.unusedSimpArgs false

theorem indexB_none (c : UInt8) : ∀ (l : Txt), c ∉ l → Lib.indexByte l c = -1
  | [], _ => by simp [Lib.indexByte]
  | x :: l, h => by
    have h1 : x ≠ c := fun e => h (by rw [e]; exact List.mem_cons_self ..)
    have h2 := indexB_none c l (fun e => h (List.mem_cons_of_mem _ e))
    simp [Lib.indexByte, h1, h2]
theorem indexB_cut (c : UInt8) : ∀ (a b : Txt), c ∉ a → Lib.indexByte (a ++ c :: b) c = (a.length : Int)
  | [], b, _ => by simp [Lib.indexByte]
  | x :: a, b, h => by
    have h1 : x ≠ c := fun e => h (by rw [e]; exact List.mem_cons_self ..)
    have h2 := indexB_cut c a b (fun e => h (List.mem_cons_of_mem _ e))
    show (if x == c then 0 else if Lib.indexByte (a ++ c :: b) c == -1 then -1 else Lib.indexByte (a ++ c :: b) c + 1) = _
    rw [h2, if_neg (by simpa using h1), if_neg (by simp)]
    simp
theorem cutB_of_mem (c : UInt8) : ∀ (l : Txt), c ∈ l → ∃ a b, l = a ++ c :: b ∧ c ∉ a
  | [], h => by cases h
  | x :: l, h => by
    by_cases hx : x = c
    · exact ⟨[], l, by rw [hx]; rfl, by simp⟩
    · obtain ⟨a, b, e, hn⟩ := cutB_of_mem c l (by
        rcases List.mem_cons.1 h with h | h
        · exact absurd h.symm hx
        · exact h)
      refine ⟨x :: a, b, by rw [e]; rfl, fun hm => ?_⟩
      rcases List.mem_cons.1 hm with h1 | h1
      · exact hx h1.symm
      · exact hn h1
theorem front_none {c : UInt8} {l : Txt} (h : c ∉ l) : frontT c l = l ∧ afterT c l = [] := by
  obtain ⟨h1, h2⟩ := front_at (c := c) (Nat.le_refl l.length) (by rw [List.take_length]; exact fun x hx e => h (e ▸ hx)) (.inl rfl)
  unfold frontT afterT
  rw [h1, h2, List.take_length, List.drop_length]
  exact ⟨rfl, rfl⟩
theorem split1_none {l : Txt} (h : (10 : UInt8) ∉ l) : splitN 10 l = [l] := by
  induction l with
  | nil => rfl
  | cons x a ih => rw [splitN, if_neg (fun e => h (by rw [e]; exact List.mem_cons_self)), ih (fun hm => h (List.mem_cons_of_mem _ hm))]
set_option maxRecDepth 100000 in
set_option maxHeartbeats 1000000 in
theorem cutI_any (c : UInt8) (s : Txt) (hs : s.length ≤ 1000000000) (w : World) :
    Calls Tryz.prog 99 #[.string ⟨s.toArray⟩, .string ⟨#[c]⟩] w fun e w' => (∃ b, e = .returned (.tuple #[.string ⟨(frontT c s).toArray⟩, .string ⟨(afterT c s).toArray⟩, .bool b])) ∧ ∃ q, w' = w.drewN q := by
  have hix := Tryz.stringslite_Index_one ⟨s.toArray⟩ c w
  have hd : (ByteArray.mk s.toArray).data.toList = s := rfl
  rw [hd] at hix
  clear hd
  by_cases hmem : c ∈ s
  · obtain ⟨a, b, rfl, hna⟩ := cutB_of_mem c s hmem
    rw [indexB_cut c a b hna] at hix
    obtain ⟨f1, f2⟩ := front_line c a b hna
    rw [f1, f2]
    have hx1 : (ByteArray.mk (a ++ c :: b).toArray).extract 0 a.length = ⟨a.toArray⟩ := by rw [ext0, List.take_left]
    have hx2 : (ByteArray.mk (a ++ c :: b).toArray).extract (a.length + 1) (a.length + (b.length + 1)) = ⟨b.toArray⟩ := by
      have h1 := extN (a ++ c :: b) (a.length + 1)
      rw [show (a ++ c :: b).length = a.length + (b.length + 1) by simp] at h1
      rw [h1]
      congr 2
      rw [show a ++ c :: b = (a ++ [c]) ++ b by simp]
      exact List.drop_left' (by simp)
    have hal : a.length ≤ 1000000000 := by simp at hs; omega
    have hbl : b.length ≤ 1000000000 := by simp at hs; omega
    have hge : decide ((a.length : Int) ≥ 0) = true := decide_eq_true (by omega)
    clear hmem hna f1 f2
    go_enter Tryz.func99, Tryz.ntmps99
    go_wp2_with (go_at_call 124; refine hix.mono ?_; clear hix; rintro e W2 ⟨rfl, hW2⟩; obtain rfl := hW2.symm)
    go_quiet (fail)
    go_wp2_with (fail)
    refine bodyPost_ret (results_tmp3 rfl _ _ _) rfl ?_
    exact ⟨⟨_, rfl⟩, _, rfl⟩
  · rw [indexB_none c s hmem] at hix
    obtain ⟨f1, f2⟩ := front_none hmem
    rw [f1, f2]
    clear hmem f1 f2
    go_enter Tryz.func99, Tryz.ntmps99
    go_wp2_with (go_at_call 124; refine hix.mono ?_; clear hix; rintro e W2 ⟨rfl, hW2⟩; obtain rfl := hW2.symm)
    refine bodyPost_ret (results_tmp3 rfl _ _ _) rfl ?_
    exact ⟨⟨_, rfl⟩, 0, rfl⟩
theorem cutS_any (c : UInt8) (s : Txt) (hs : s.length ≤ 1000000000) (w : World) :
    Calls Tryz.prog 66 #[.string ⟨s.toArray⟩, .string ⟨#[c]⟩] w fun e w' => (∃ b, e = .returned (.tuple #[.string ⟨(frontT c s).toArray⟩, .string ⟨(afterT c s).toArray⟩, .bool b])) ∧ ∃ q, w' = w.drewN q := by
  have hc := cutI_any c s hs w
  go_enter Tryz.func66, Tryz.ntmps66
  go_wp2_with (go_at_call 99; refine hc.mono ?_; clear hc; rintro e W2 ⟨⟨b, rfl⟩, q, rfl⟩)
  refine bodyPost_ret (results_tmp3 rfl _ _ _) rfl ?_
  exact ⟨⟨_, rfl⟩, _, rfl⟩

section
attribute [local go_sem] Oper.semAt_some
set_option maxRecDepth 100000 in
set_option maxHeartbeats 4000000 in
theorem splitseq10_in (m : Nat) (hm : 1 ≤ m) (b1 b2 b3 : Nat) (h12 : b1 ≠ b2) (h13 : b1 ≠ b3) (l0 : Txt) (hlen : l0.length ≤ 1000000000) (W : World)
    (c1 : Blk W b1 9 #[.string ⟨l0.toArray⟩]) (c2 : Blk W b2 9 #[.string ⟨#[10]⟩]) (c3 : Blk W b3 3 #[.int .i64 0]) :
    SeqC Fence.wide m Tryz.prog 121 #[.pointer (some ⟨b2, 0, none⟩), .pointer (some ⟨b1, 0, none⟩), .pointer (some ⟨b3, 0, none⟩)] (fun x : Txt => #[.string ⟨x.toArray⟩]) (Kp3 b1 b2 b3) (fun xs => xs = splitN 10 l0) (fun pre => pre <+: splitN 10 l0) b1 W := by
  intro l J Jx hJc hJd hY h0
  refine callsIn_of_wp Tryz.func121 rfl trivial ?_ rfl
  simp only [Tryz.ntmps121, List.size_toArray, List.length_cons, List.length_nil, Nat.reduceAdd, Nat.reduceSub, Array.replicate_succ, Array.replicate_zero, List.push_toArray, List.append_toArray, List.nil_append, List.cons_append]
  have d2 := c2.cell 0
  have d1 := c1.cell 0
  simp only [List.getElem?_toArray, List.getElem?_cons_zero] at d1 d2
  have C1 := Lib.hid c1
  have C2 := Lib.hid c2
  have C3 := Lib.hid c3
  have HY := Lib.hid hY
  have HJC := Lib.hid hJc
  clear c1 c2 c3 hY hJc
  gi_wp2
  gi_loopw [7] (fun t wr => ∃ (pre : List Txt) (rest : Txt), splitN 10 l0 = pre ++ splitN 10 rest ∧ rest.length ≤ l0.length ∧ Blk wr b1 9 #[.string ⟨rest.toArray⟩] ∧ Blk wr b2 9 #[.string ⟨#[10]⟩] ∧ Blk wr b3 3 #[.int .i64 0] ∧ J pre wr) (fun _ wr => leftC b1 wr)
  case atStart => exact ⟨[], l0, rfl, Nat.le_refl _, C1.out, C2.out, C3.out, h0⟩
  case round =>
    obtain ⟨pre, rest, hsp, hrl, e1, e2, e3, hJ⟩ := hrel
    have f1 := e1.cell 0
    have f2 := e2.cell 0
    have f3 := e3.cell 0
    simp only [List.getElem?_toArray, List.getElem?_cons_zero] at f1 f2 f3
    have hix := callsIn_wide (n := m - 1) |>.2 (Tryz.strings_Index_one ⟨rest.toArray⟩ 10 wr)
    have hd : (ByteArray.mk rest.toArray).data.toList = rest := rfl
    rw [hd] at hix
    clear hd
    have HSP := Lib.hid hsp
    have HRL := Lib.hid hrl
    have HE := Lib.hid (And.intro e1 (And.intro e2 e3))
    clear hsp hrl e1 e2 e3
    by_cases hmem : (10 : UInt8) ∈ rest
    · obtain ⟨a, b, rfl, hna⟩ := cutB_of_mem 10 rest hmem
      rw [indexB_cut 10 a b hna] at hix
      have HSP2 := Lib.hid (show splitN 10 l0 = (pre ++ [a]) ++ splitN 10 b by rw [HSP.out, splitN_line 10 a b hna]; simp)
      have hN : pre ++ [a] <+: splitN 10 l0 := ⟨splitN 10 b, HSP2.out.symm⟩
      obtain ⟨fn, tmps, assign, body, hy, hR⟩ := HY.out pre a wr hJ hN
      have hx1 : (ByteArray.mk (a ++ 10 :: b).toArray).extract 0 a.length = ⟨a.toArray⟩ := by rw [ext0, List.take_left]
      have hx2 : (ByteArray.mk (a ++ 10 :: b).toArray).extract (a.length + 1) (a.length + (b.length + 1)) = ⟨b.toArray⟩ := by
        have h1 := extN (a ++ 10 :: b) (a.length + 1)
        rw [show (a ++ 10 :: b).length = a.length + (b.length + 1) by simp] at h1
        rw [h1]
        congr 2
        rw [show a ++ 10 :: b = (a ++ [10]) ++ b by simp]
        exact List.drop_left' (by simp)
      have HX2 := Lib.hid hx2
      have hal : a.length ≤ 1000000000 := by have := HRL.out; simp at this; omega
      have hbl : b.length ≤ 1000000000 := by have := HRL.out; simp at this; omega
      have HBL := Lib.hid (show b.length ≤ l0.length by have := HRL.out; simp at this; omega)
      clear hx2 hmem hna hN
      gi_wp2_with (refine ⟨trivial, ?_⟩; gi_at_call 123; refine hix.mono ?_; clear hix; rintro e W2 ⟨rfl, hW2⟩; obtain rfl := hW2.symm)
      refine hR.mono ?_
      rintro e W3 (⟨rfl, hJ3, hk3⟩ | ⟨rfl, hJx3⟩)
      · have E1 := Lib.hid (show Blk W3 b1 9 #[.string ⟨(a ++ 10 :: b).toArray⟩] from hk3.k1.trans HE.out.1)
        have E2 := Lib.hid (show Blk W3 b2 9 #[.string ⟨#[10]⟩] from hk3.k2.trans HE.out.2.1)
        have E3 := Lib.hid (show Blk W3 b3 3 #[.int .i64 0] from hk3.k3.trans HE.out.2.2)
        have g1 := E1.out.cell 0
        have g2 := E2.out.cell 0
        have gf := E1.out.frozen 0
        simp only [List.getElem?_toArray, List.getElem?_cons_zero] at g1 g2
        have hx2 := HX2.out
        have hE4 := Lib.hid (And.intro (E1.out.set_ 0 (.string ⟨b.toArray⟩)) (And.intro (E2.out.far (p := ⟨b1, 0, none⟩) (fun e => h12 e.symm) (.string ⟨b.toArray⟩)) (E3.out.far (p := ⟨b1, 0, none⟩) (fun e => h13 e.symm) (.string ⟨b.toArray⟩))))
        have hlt1 := E1.out.lt
        clear f1 f2 f3 hy
        gi_wp2
        go_roundw
        case rel => exact ⟨pre ++ [a], b, HSP2.out, HBL.out, hE4.out.1, hE4.out.2.1, hE4.out.2.2, HJC.out _ _ _ hJ3⟩
        case measure =>
          rw [leftC_of (show Blk (W3.setCell ⟨b1, 0, none⟩ (.string ⟨b.toArray⟩)) b1 9 #[.string ⟨b.toArray⟩] from hE4.out.1), leftC_of HE.out.1]
          simp
          omega
      · gi_wp2
        refine bodyPost_ret (results_none rfl _ _ _) rfl ?_
        exact ⟨⟨_, rfl⟩, .inr ⟨pre ++ [a], ⟨splitN 10 b, HSP2.out.symm⟩, hJx3⟩⟩
    · rw [indexB_none 10 rest hmem] at hix
      have HSP2 := Lib.hid (show splitN 10 l0 = pre ++ [rest] by rw [HSP.out, split1_none hmem])
      have hN : pre ++ [rest] <+: splitN 10 l0 := ⟨[], by rw [HSP2.out]; simp⟩
      obtain ⟨fn, tmps, assign, body, hy, hR⟩ := HY.out pre rest wr hJ hN
      clear hmem hN
      gi_wp2_with (refine ⟨trivial, ?_⟩; gi_at_call 123; refine hix.mono ?_; clear hix; rintro e W2 ⟨rfl, hW2⟩; obtain rfl := hW2.symm)
      refine hR.mono ?_
      rintro e W3 (⟨rfl, hJ3, hk3⟩ | ⟨rfl, hJx3⟩)
      · gi_wp2
        go_end0
        exact ⟨⟨_, rfl⟩, .inl ⟨pre ++ [rest], HSP2.out.symm, hJ3⟩⟩
      · gi_wp2
        go_end0
        exact ⟨⟨_, rfl⟩, .inr ⟨pre ++ [rest], ⟨[], by rw [HSP2.out]; simp⟩, hJx3⟩⟩
end

/-- The world behind SplitSeq: its three cells. -/
def splitW10 (w : World) (s : ByteArray) : World := ((w.alloc (.cells #[.string s] 9)).alloc (.cells #[.string ⟨#[10]⟩] 9)).alloc (.cells #[.int .i64 0] 3)
theorem splitW10_facts (w : World) (s : ByteArray) : Blk (splitW10 w s) w.heap.size 9 #[.string s] ∧ Blk (splitW10 w s) (w.heap.size + 1) 9 #[.string ⟨#[10]⟩] ∧ Blk (splitW10 w s) (w.heap.size + 2) 3 #[.int .i64 0] ∧ Below w.heap.size w (splitW10 w s) ∧ (splitW10 w s).heap.size = w.heap.size + 3 := by
  unfold splitW10
  refine ⟨((Blk.new _ _ _).alloc _).alloc _, ?_, ?_, (((Below.refl _ w).alloc (Nat.le_refl _) _).alloc (by simp) _).alloc (by simp; omega) _, by simp⟩
  · have := Blk.new (w.alloc (.cells #[.string s] 9)) 9 #[.string ⟨#[10]⟩]
    rw [World.size_alloc] at this
    exact this.alloc _
  · have := Blk.new ((w.alloc (.cells #[.string s] 9)).alloc (.cells #[.string ⟨#[10]⟩] 9)) 3 #[.int .i64 0]
    rwa [World.size_alloc, World.size_alloc] at this
theorem split10_any (s : ByteArray) (w : World) : Calls Tryz.prog 65 #[.string s, .string ⟨#[10]⟩] w fun e w' =>
    e = .returned (.func (.func 121) #[] #[.pointer (some ⟨w.heap.size + 1, 0, none⟩), .pointer (some ⟨w.heap.size, 0, none⟩), .pointer (some ⟨w.heap.size + 2, 0, none⟩)]) ∧ w' = splitW10 w s := by
  unfold splitW10
  go_enter Tryz.func65, Tryz.ntmps65
  go_wp2
  go_ret
  exact ⟨rfl, rfl⟩
end Go.Proofs.YtibndaianhlcaaaGreatDoor
