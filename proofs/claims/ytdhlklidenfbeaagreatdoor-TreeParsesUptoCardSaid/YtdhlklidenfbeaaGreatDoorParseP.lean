/- A tree's bytes, line by line: plain facts for Parse. -/
import Derived.Test.YtdhlklidenfbeaaGreatDoorBytes
namespace Go.Proofs.YtdhlklidenfbeaaGreatDoor
set_option linter.unusedVariables false
set_option linter.unusedSimpArgs false

theorem splitS_mem_of : ∀ (l : Txt) (c : UInt8), c ∈ l → c = 47 ∨ ∃ t ∈ splitS l, c ∈ t
  | [], c, h => by cases h
  | x :: l, c, h => by
    by_cases hx : x = 47
    · subst hx
      rcases List.mem_cons.1 h with h | h
      · exact .inl h
      · rcases splitS_mem_of l c h with h | ⟨t, ht, hc⟩
        · exact .inl h
        · exact .inr ⟨t, by rw [splitS_slash]; exact List.mem_cons_of_mem _ ht, hc⟩
    · obtain ⟨p, q, h1, h2⟩ := splitS_other x l hx
      rw [h2]
      rcases List.mem_cons.1 h with h | h
      · exact .inr ⟨x :: p, List.mem_cons_self, by rw [h]; exact List.mem_cons_self⟩
      · rcases splitS_mem_of l c h with h | ⟨t, ht, hc⟩
        · exact .inl h
        · rw [h1] at ht
          rcases List.mem_cons.1 ht with rfl | ht
          · exact .inr ⟨_, List.mem_cons_self, List.mem_cons_of_mem _ hc⟩
          · exact .inr ⟨t, List.mem_cons_of_mem _ ht, hc⟩
theorem nameB_letters {t : Txt} (h : nameB t = true) : ∀ c ∈ t, letterB c = true := by
  unfold nameB at h
  rw [Bool.and_eq_true] at h
  exact List.all_eq_true.1 h.2
/-- A right entry's path has no space and no line's end. -/
theorem path_plainB {x : Ent} (h : entryB x = true) : (32 : UInt8) ∉ x.path ∧ (10 : UInt8) ∉ x.path := by
  have hn : (splitS x.path).all nameB = true := by
    unfold entryB at h
    simp only [Bool.and_eq_true] at h
    exact h.1.2
  have key : ∀ c, letterB c = false → c ≠ 47 → c ∉ x.path := fun c hc h47 hm => by
    rcases splitS_mem_of x.path c hm with h | ⟨t, ht, hct⟩
    · exact h47 h
    · have h1 := nameB_letters (List.all_eq_true.1 hn t ht) c hct
      rw [hc] at h1
      cases h1
  exact ⟨key 32 (by decide) (by decide), key 10 (by decide) (by decide)⟩
theorem decDigits_mem : ∀ (n : Nat) (c : UInt8), c ∈ Lib.decDigits n → 48 ≤ c.toNat ∧ c.toNat ≤ 57 := by
  intro n
  induction n using Nat.strongRecOn with
  | _ n ih =>
    intro c hc
    rw [Lib.decDigits] at hc
    have key : ∀ m, m < 10 → c = UInt8.ofNat (48 + m) → 48 ≤ c.toNat ∧ c.toNat ≤ 57 := fun m hm e => by
      rw [e, UInt8.toNat_ofNat_of_lt' (show 48 + m < 2 ^ 8 by omega)]
      omega
    by_cases h : n < 10
    · rw [dif_pos h, List.mem_singleton] at hc
      exact key n h hc
    · rw [dif_neg h, List.mem_append, List.mem_singleton] at hc
      rcases hc with hc | hc
      · exact ih (n / 10) (by omega) c hc
      · exact key (n % 10) (by omega) hc
theorem itoa_digits (n : Nat) : ∀ c ∈ Lib.itoa (n : Int), 48 ≤ c.toNat ∧ c.toNat ≤ 57 := by
  intro c hc
  unfold Lib.itoa at hc
  rw [if_neg (by omega), Int.toNat_natCast] at hc
  exact decDigits_mem n c hc
theorem itoa_no (n : Nat) {c : UInt8} (h : c.toNat < 48) : c ∉ Lib.itoa (n : Int) := fun hm => by
  have := (itoa_digits n c hm).1
  omega
/-- An entry's first line. -/
def headT (x : Ent) : Txt := kindW x.kind ++ x.path ++ [32] ++ Lib.itoa (x.data.length : Int)
theorem entT_head (x : Ent) : entT x = headT x ++ 10 :: (x.data ++ [10]) := by
  unfold entT headT
  simp
theorem headT_line {x : Ent} (h : entryB x = true) : (10 : UInt8) ∉ headT x := by
  have h1 := (path_plainB h).2
  have h2 : (10 : UInt8) ∉ Lib.itoa (x.data.length : Int) := itoa_no _ (by decide)
  unfold headT kindW
  split <;> simp [h1, h2]
theorem headT_end (x : Ent) : headT x ≠ [101, 110, 100] := by
  unfold headT kindW
  split <;> simp
/-- What is left of a tree's bytes behind k entries. -/
def restT (l : List Ent) (k : Nat) : Txt := (l.drop k).flatMap entT ++ [101, 110, 100, 10]
theorem restT_succ (l : List Ent) (k : Nat) (h : k < l.length) : restT l k = headT l[k] ++ 10 :: (l[k].data ++ 10 :: restT l (k + 1)) := by
  unfold restT
  rw [List.drop_eq_getElem_cons h, List.flatMap_cons, entT_head]
  simp
theorem restT_end (l : List Ent) (k : Nat) (h : l.length ≤ k) : restT l k = [101, 110, 100] ++ 10 :: [] := by
  unfold restT
  rw [List.drop_of_length_le h]
  rfl
theorem bytesB_rest {l : List Ent} (h : rightB l = true) : bytesB l = [116, 114, 101, 101] ++ 10 :: restT l 0 := by
  unfold bytesB entsT restT
  rw [if_pos h, List.take_length, List.drop_zero]
  simp
theorem right_entry {l : List Ent} (h : rightB l = true) {k : Nat} (hk : k < l.length) : entryB l[k] = true := by
  have h1 := (rightB_entry h).2 k hk
  unfold fitsB at h1
  rw [Bool.and_eq_true] at h1
  exact h1.1

/-- The first line of a text: up to its end, what is behind, and whether it ends. -/
def lineB : Txt → Option (Txt × Txt)
  | [] => none
  | c :: l => if c = 10 then some ([], l) else (lineB l).map fun x => (c :: x.1, x.2)
theorem lineB_app : ∀ (a b : Txt), (10 : UInt8) ∉ a → lineB (a ++ 10 :: b) = some (a, b)
  | [], b, _ => by simp [lineB]
  | c :: a, b, h => by
    have hc : c ≠ 10 := fun e => h (by rw [e]; exact List.mem_cons_self)
    rw [List.cons_append, lineB, if_neg hc, lineB_app a b (fun e => h (List.mem_cons_of_mem _ e))]
    rfl
theorem lineB_some : ∀ (l a b : Txt), lineB l = some (a, b) → l = a ++ 10 :: b ∧ (10 : UInt8) ∉ a
  | [], a, b, h => by cases h
  | c :: l, a, b, h => by
    rw [lineB] at h
    by_cases hc : c = 10
    · rw [if_pos hc] at h
      injection h with h
      injection h with h1 h2
      subst h1 h2
      exact ⟨by rw [hc]; rfl, by simp⟩
    · rw [if_neg hc] at h
      cases hl : lineB l with
      | none => rw [hl] at h; cases h
      | some x =>
        rw [hl] at h
        simp only [Option.map_some, Option.some.injEq, Prod.mk.injEq] at h
        obtain ⟨h1, h2⟩ := lineB_some l x.1 x.2 (by rw [hl])
        refine ⟨by rw [h1, ← h.1, ← h.2]; rfl, ?_⟩
        rw [← h.1]
        intro hm
        rcases List.mem_cons.1 hm with hm | hm
        · exact hc hm.symm
        · exact h2 hm
theorem lineB_none : ∀ (l : Txt), lineB l = none → (10 : UInt8) ∉ l
  | [], _ => by simp
  | c :: l, h => by
    rw [lineB] at h
    by_cases hc : c = 10
    · rw [if_pos hc] at h; cases h
    · rw [if_neg hc] at h
      cases hl : lineB l with
      | none =>
        intro hm
        rcases List.mem_cons.1 hm with hm | hm
        · exact hc hm.symm
        · exact lineB_none l hl hm
      | some x => rw [hl] at h; cases h
end Go.Proofs.YtdhlklidenfbeaaGreatDoor
