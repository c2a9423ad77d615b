/- A line's words; what tree.entry reads. -/
import Derived.Test.YtdhlklidenfbeaaGreatDoorParseL
import Derived.Test.YtdhlklidenfbeaaGreatDoorSplit
import Derived.Lib.SplitLaws
import Derived.Lib.AtoiTie
namespace Go.Proofs.YtdhlklidenfbeaaGreatDoor
open Go.RowKit
set_option linter.unusedVariables false
set_option linter.unusedSimpArgs false

theorem index_none32 : ∀ (l : Txt), (32 : UInt8) ∉ l → Lib.indexByte l 32 = -1
  | [], _ => rfl
  | b :: l, h => by
    unfold Lib.indexByte
    have hb : ¬ (b == 32) = true := fun e => h (by rw [beq_iff_eq.1 e]; exact List.mem_cons_self)
    rw [if_neg hb, index_none32 l (fun e => h (List.mem_cons_of_mem _ e))]
    rfl
theorem index_cut32 : ∀ (a b : Txt), (32 : UInt8) ∉ a → Lib.indexByte (a ++ 32 :: b) 32 = (a.length : Int)
  | [], b, _ => by simp [Lib.indexByte]
  | c :: a, b, h => by
    have hc : ¬ (c == 32) = true := fun e => h (by rw [beq_iff_eq.1 e]; exact List.mem_cons_self)
    have ih := index_cut32 a b (fun e => h (List.mem_cons_of_mem _ e))
    rw [List.cons_append, Lib.indexByte, if_neg hc, ih]
    have : ¬ ((a.length : Int) == -1) = true := by rw [beq_iff_eq]; omega
    rw [if_neg this]
    simp
def words (s : Txt) : List Txt := (Lib.splitB ⟨#[32]⟩ 0 (Lib.countB ⟨s.toArray⟩ ⟨#[32]⟩) ⟨s.toArray⟩).map (·.data.toList)
theorem indexB_32 (s : Txt) : Lib.indexB ⟨s.toArray⟩ ⟨#[32]⟩ = Lib.indexByte s 32 := by
  show Lib.index s [32] = _
  rw [Lib.index_one]
theorem words_one {a : Txt} (h : (32 : UInt8) ∉ a) : words a = [a] := by
  have hi : Lib.indexB ⟨a.toArray⟩ ⟨#[32]⟩ = -1 := by rw [indexB_32, index_none32 a h]
  unfold words
  rw [Lib.splitB_miss _ _ _ _ hi]
  rfl
theorem words_cons {a r : Txt} (h : (32 : UInt8) ∉ a) : words (a ++ 32 :: r) = a :: words r := by
  have hi : Lib.indexB ⟨(a ++ 32 :: r).toArray⟩ ⟨#[32]⟩ = (a.length : Int) := by rw [indexB_32, index_cut32 a r h]
  have e1 : (ByteArray.mk (a ++ 32 :: r).toArray).extract (a.length + (⟨#[32]⟩ : ByteArray).size) (ByteArray.mk (a ++ 32 :: r).toArray).size = ⟨r.toArray⟩ := by
    rw [show (ByteArray.mk (a ++ 32 :: r).toArray).size = (a ++ 32 :: r).length from rfl, show (⟨#[32]⟩ : ByteArray).size = 1 from rfl, extN]
    rw [show a ++ 32 :: r = (a ++ [32]) ++ r by simp, List.drop_left' (by simp)]
  unfold words
  rw [Lib.countB_hit _ _ _ (by decide) hi, e1, Nat.add_comm 1, Lib.splitB_hit _ _ _ _ _ hi, e1, Nat.add_zero, ext0, List.take_left' rfl]
  rfl
theorem words_length (s : Txt) : (words s).length = Lib.countB ⟨s.toArray⟩ ⟨#[32]⟩ + 1 := by
  unfold words
  rw [List.length_map, Lib.splitB_all _ (by decide) 0 _ _ rfl]
theorem words_cells (s : Txt) : ((Lib.splitB ⟨#[32]⟩ 0 (Lib.countB ⟨s.toArray⟩ ⟨#[32]⟩) ⟨s.toArray⟩).map Value.string).toArray = ((words s).map encStr).toArray := by
  unfold words
  rw [List.map_map]
  rfl

/-- What tree.entry reads: of the head's three words a kind, a path and a length; so many bytes behind it, and a line's end. -/
def entryR (head b : Txt) : Option (Ent × Txt) :=
  match words head with
  | [k, p, q] => if 4 < q.length then none else match Lib.atoiAll q with
    | .ok v => if v < 0 ∨ (b.length : Int) ≤ v ∨ b[v.toNat]? ≠ some 10 then none else some (⟨p, if k = [108] then 3 else 1, b.take v.toNat⟩, b.drop (v.toNat + 1))
    | _ => none
  | _ => none
theorem itoa_short {m : Nat} (h : m ≤ 2048) : (Lib.itoa (m : Int)).length ≤ 4 := by
  unfold Lib.itoa
  rw [if_neg (by omega), Int.toNat_natCast]
  have h1 : ∀ m, m < 10 → (Lib.decDigits m).length = 1 := fun m hm => by rw [Lib.decDigits, dif_pos hm]; rfl
  have st : ∀ k n, (∀ m, m < k → (Lib.decDigits m).length ≤ n) → ∀ m, m < k * 10 → 10 ≤ k → (Lib.decDigits m).length ≤ n + 1 := fun k n hk m hm _ => by
    rw [Lib.decDigits]
    split
    · simp
    · rw [List.length_append, List.length_singleton]
      have := hk (m / 10) (by omega)
      omega
  have h2 := st 10 1 (fun m hm => by rw [h1 m hm]; exact Nat.le_refl _)
  have h3 := st 100 2 (fun m hm => h2 m (by omega) (by decide))
  have h4 := st 1000 3 (fun m hm => h3 m (by omega) (by decide))
  exact h4 m (by omega) (by decide)
theorem decFrom_snoc : ∀ (l : List UInt8) (a n d : Nat) (b : UInt8), Lib.decFrom a l = some n → Lib.digitVal b = some d → Lib.decFrom a (l ++ [b]) = some (n * 10 + d)
  | [], a, n, d, b, h, hb => by
    simp only [Lib.decFrom, Option.some.injEq] at h
    subst h
    simp [Lib.decFrom, hb]
  | c :: l, a, n, d, b, h, hb => by
    rw [List.cons_append]
    unfold Lib.decFrom at h ⊢
    cases hc : Lib.digitVal c with
    | none => rw [hc] at h; cases h
    | some v =>
      rw [hc] at h
      exact decFrom_snoc l _ n d b h hb
theorem digit_val (d : Nat) (h : d < 10) : Lib.digitVal (UInt8.ofNat (48 + d)) = some d := by
  have : ∀ d : Fin 10, Lib.digitVal (UInt8.ofNat (48 + d.val)) = some d.val := by decide
  exact this ⟨d, h⟩
theorem decFrom_digits : ∀ n : Nat, Lib.decFrom 0 (Lib.decDigits n) = some n := by
  intro n
  induction n using Nat.strongRecOn with
  | _ n ih =>
    rw [Lib.decDigits]
    by_cases h : n < 10
    · rw [dif_pos h]
      unfold Lib.decFrom
      rw [digit_val n h]
      simp [Lib.decFrom]
    · rw [dif_neg h, decFrom_snoc _ 0 (n / 10) (n % 10) _ (ih (n / 10) (by omega)) (digit_val _ (by omega))]
      congr 1
      omega
theorem atoi_itoa {m : Nat} (h : m ≤ 2048) : Lib.atoiAll (Lib.itoa (m : Int)) = .ok (m : Int) := by
  have hl := itoa_short h
  have hd := itoa_digits m
  have hv := decFrom_digits m
  rw [Lib.atoiAll_short _ (by omega)]
  have e : Lib.itoa (m : Int) = Lib.decDigits m := by
    unfold Lib.itoa
    rw [if_neg (by omega), Int.toNat_natCast]
  rw [e] at hl hd ⊢
  cases hq : Lib.decDigits m with
  | nil =>
    have h1 : 1 ≤ (Lib.decDigits m).length := by
      rw [Lib.decDigits]
      split <;> simp
    rw [hq] at h1
    simp at h1
  | cons b r =>
    rw [hq] at hd hv
    have hb := hd b List.mem_cons_self
    have n1 : ¬ (b == 45) = true := fun e => by rw [beq_iff_eq.1 e] at hb; simp at hb
    have n2 : ¬ (b == 43) = true := fun e => by rw [beq_iff_eq.1 e] at hb; simp at hb
    have e2 : Lib.decNat (b :: r) = some m := hv
    unfold Lib.atoi
    simp only
    rw [if_neg n1, if_neg n2, e2]
    rfl
theorem entry_back {x : Ent} (h : entryB x = true) (r : Txt) : entryR (headT x) (x.data ++ 10 :: r) = some (x, r) := by
  obtain ⟨hp, _⟩ := path_plainB h
  have hk := entryB_kind h
  have hlen := entryB_len h
  have hi : (32 : UInt8) ∉ Lib.itoa (x.data.length : Int) := itoa_no _ (by decide)
  have hw : words (headT x) = [if x.kind = 3 then [108] else [102], x.path, Lib.itoa (x.data.length : Int)] := by
    have e : headT x = (if x.kind = 3 then [108] else [102]) ++ 32 :: (x.path ++ 32 :: Lib.itoa (x.data.length : Int)) := by
      unfold headT kindW
      split <;> simp
    rw [e, words_cons (by split <;> decide), words_cons hp, words_one hi]
  unfold entryR
  rw [hw]
  simp only
  rw [if_neg (by have := itoa_short hlen.2; omega), atoi_itoa hlen.2]
  simp only [Int.toNat_natCast]
  rw [if_neg]
  · rw [List.take_left' rfl, show x.data ++ 10 :: r = (x.data ++ [10]) ++ r by simp, List.drop_left' (by simp)]
    obtain ⟨p, k, d⟩ := x
    simp only at hk ⊢
    rcases hk with rfl | rfl <;> rfl
  · rintro (h1 | h1 | h1)
    · omega
    · simp at h1; omega
    · exact h1 (by simp)
end Go.Proofs.YtdhlklidenfbeaaGreatDoor
