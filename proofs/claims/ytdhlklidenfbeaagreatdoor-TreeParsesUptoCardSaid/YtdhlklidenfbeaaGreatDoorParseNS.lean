/- tree.Parse, line by line: plain. tree.Parse: an entry appended, whatever it is. A tree's bytes tell the tree; what the reference reads of an entry: plain. tree.Parse: the entry that was read is put behind the others. -/
import Derived.Test.YtdhlklidenfbeaaGreatDoorParseG
namespace Go.Proofs.YtdhlklidenfbeaaGreatDoor
open Go.RowKit Go.Shelf
set_option linter.unusedVariables false
set_option linter.unusedSimpArgs false

theorem lineR_app {a b : Txt} (h : (10 : UInt8) ∉ a) : lineR (a ++ 10 :: b) = (a, b, true) := by
  unfold lineR
  rw [lineB_app a b h]
/-- Where the reading of a right list's bytes stands behind k entries, a line read. -/
def Stand (l : List Ent) (k : Nat) (line rest : Txt) (ok : Bool) : Prop :=
  k ≤ l.length ∧ ok = true ∧ if h : k < l.length then line = headT l[k] ∧ rest = l[k].data ++ 10 :: restT l (k + 1) else line = [101, 110, 100] ∧ rest = []
theorem stand_line {l : List Ent} (h : rightB l = true) {k : Nat} (hk : k ≤ l.length) : Stand l k (lineR (restT l k)).1 (lineR (restT l k)).2.1 (lineR (restT l k)).2.2 := by
  by_cases hlt : k < l.length
  · rw [restT_succ l k hlt, lineR_app (headT_line (right_entry h hlt))]
    refine ⟨hk, rfl, ?_⟩
    rw [dif_pos hlt]
    exact ⟨rfl, rfl⟩
  · rw [restT_end l k (by omega), lineR_app (by decide)]
    refine ⟨hk, rfl, ?_⟩
    rw [dif_neg hlt]
    exact ⟨rfl, rfl⟩
/-- The first line of a right list's bytes. -/
theorem stand_head {l : List Ent} (h : rightB l = true) : lineR (bytesB l) = ([116, 114, 101, 101], restT l 0, true) := by
  rw [bytesB_rest h, lineR_app (by decide)]
/-- A round on the way: an entry more. -/
theorem stand_entry {l : List Ent} (h : rightB l = true) {k : Nat} {line rest : Txt} {ok : Bool} (hs : Stand l k line rest ok) (hne : line ≠ [101, 110, 100]) :
    ∃ hk : k < l.length, entryR line rest = some (l[k], restT l (k + 1)) ∧ l.take (k + 1) = l.take k ++ [l[k]] := by
  obtain ⟨h1, _, h3⟩ := hs
  by_cases hk : k < l.length
  · rw [dif_pos hk] at h3
    refine ⟨hk, ?_, List.take_succ_eq_append_getElem hk⟩
    rw [h3.1, h3.2]
    exact entry_back (right_entry h hk) _
  · rw [dif_neg hk] at h3
    exact absurd h3.1 hne
theorem stand_end {l : List Ent} {k : Nat} {line rest : Txt} {ok : Bool} (hs : Stand l k line rest ok) (he : line = [101, 110, 100]) : l.take k = l ∧ rest = [] := by
  obtain ⟨h1, _, h3⟩ := hs
  by_cases hk : k < l.length
  · rw [dif_pos hk] at h3
    exact absurd (h3.1.symm.trans he) (headT_end l[k])
  · rw [dif_neg hk] at h3
    exact ⟨List.take_of_length_le (by omega), h3.2⟩
end Go.Proofs.YtdhlklidenfbeaaGreatDoor
namespace Go.Proofs.YtdhlklidenfbeaaGreatDoor
open Go.RowKit Go.Shelf
set_option linter.unusedVariables false
set_option linter.unusedSimpArgs false

theorem append_raw {w : World} {base : Nat} {v : Value} {n : Nat} {es : List EV} (h : w.ownsRow base 73 3 v n (es.flatMap evCells)) (p : Txt) (k : Int) (A : Option Addr) (m c : Nat) (hn : n ≤ 1000000000) (hbase : base ≤ w.heap.size) :
    ∃ A' c' w', (Builtin.append_ #[35, 35] 35 #[v, .slice (some ⟨w.heap.size, 0, none⟩) 1 1]).run Tryz.prog (w.alloc (.cells #[.string ⟨p.toArray⟩, .int .i64 k, .slice A m c] 73)) = .ok (.slice A' (n + 1) c') w' ∧
      (w.alloc (.cells #[.string ⟨p.toArray⟩, .int .i64 k, .slice A m c] 73)).grownBy w' v.ownBlock := by
  obtain ⟨i, hi, hz0, hz1, hz2⟩ := info_parts ent_info
  have hs := slc_new w 73 (0, 0) #[.string ⟨p.toArray⟩, .int .i64 k, .slice A m c] (sz := 3) (n := 1) (c := 1) rfl (Nat.le_refl _) (by decide)
  obtain ⟨A', c', w', h1, h2, h3, h4⟩ := append_slc (P := Tryz.prog) (w.alloc (.cells #[.string ⟨p.toArray⟩, .int .i64 k, .slice A m c] 73)) base 35 35 73 i _ 3 48 Tryz.underlying35 hi hz0 hz1 hz2 rfl (by decide) v n (es.flatMap evCells) (h.alloc _) _ _ 1 1 [.string ⟨p.toArray⟩, .int .i64 k, .slice A m c] hs (fun u hu => evCells_one [⟨p, k, [], A, m, c⟩] u (by simpa [evCells] using hu)) (by unfold maxLen; omega) (by omega) (by simp; omega)
  exact ⟨A', c', w', h1, h3⟩
end Go.Proofs.YtdhlklidenfbeaaGreatDoor
namespace Go.Proofs.YtdhlklidenfbeaaGreatDoor
open Go.RowKit Go.Shelf
set_option linter.unusedVariables false
set_option linter.unusedSimpArgs false

theorem rest_end_ne {l : List Ent} (h : rightB l = true) {k : Nat} (hk : k < l.length) : restT l k ≠ [101, 110, 100, 10] := fun e => by
  have h1 := lineR_app (b := l[k].data ++ 10 :: restT l (k + 1)) (headT_line (right_entry h hk))
  rw [← restT_succ l k hk, e] at h1
  have h2 : lineR [101, 110, 100, 10] = ([101, 110, 100], [], true) := lineR_app (a := [101, 110, 100]) (b := []) (by decide)
  rw [h2] at h1
  injection h1 with h1
  exact headT_end _ h1.symm
theorem rest_inj {a b : List Ent} (ha : rightB a = true) (hb : rightB b = true) : ∀ d k, k + d = a.length → restT a k = restT b k → k ≤ b.length → a.drop k = b.drop k
  | 0, k, hd, h, hk => by
    rcases Nat.lt_or_ge k b.length with hlt | hge
    · rw [restT_end a k (by omega)] at h
      exact absurd h.symm (rest_end_ne hb hlt)
    · rw [List.drop_of_length_le (by omega), List.drop_of_length_le hge]
  | d + 1, k, hd, h, hk => by
    have hka : k < a.length := by omega
    rcases Nat.lt_or_ge k b.length with hlt | hge
    · have h1 := lineR_app (b := a[k].data ++ 10 :: restT a (k + 1)) (headT_line (right_entry ha hka))
      have h2 := lineR_app (b := b[k].data ++ 10 :: restT b (k + 1)) (headT_line (right_entry hb hlt))
      rw [← restT_succ a k hka, h] at h1
      rw [← restT_succ b k hlt, h1] at h2
      injection h2 with h2 h3
      injection h3 with h3 _
      have e1 := entry_back (right_entry ha hka) (restT a (k + 1))
      have e2 := entry_back (right_entry hb hlt) (restT b (k + 1))
      rw [h2, h3, e2] at e1
      injection e1 with e1
      injection e1 with e1 e3
      rw [List.drop_eq_getElem_cons hka, List.drop_eq_getElem_cons hlt, e1, rest_inj ha hb d (k + 1) (by omega) e3.symm hlt]
    · rw [restT_end b k hge] at h
      exact absurd h (rest_end_ne ha hka)
theorem bytes_inj {a b : List Ent} (ha : rightB a = true) (hb : rightB b = true) (h : bytesB a = bytesB b) : a = b := by
  have h1 := stand_head ha
  rw [h, stand_head hb] at h1
  injection h1 with _ h1
  injection h1 with h1 _
  have := rest_inj ha hb a.length 0 (by omega) h1.symm (Nat.zero_le _)
  simpa using this

/-- Up to a byte, or to the end. -/
def upto (c : UInt8) : Txt → Txt
  | [] => []
  | x :: l => if x = c then [] else x :: upto c l
theorem upto_app (c : UInt8) : ∀ (a b : Txt), c ∉ a → upto c (a ++ c :: b) = a
  | [], b, _ => by simp [upto]
  | x :: a, b, h => by
    have hx : x ≠ c := fun e => h (by rw [e]; exact List.mem_cons_self)
    rw [List.cons_append, upto, if_neg hx, upto_app c a b (fun e => h (List.mem_cons_of_mem _ e))]
theorem upto_len (c : UInt8) : ∀ l : Txt, (upto c l).length ≤ l.length
  | [] => Nat.le_refl _
  | x :: l => by
    unfold upto
    split
    · exact Nat.zero_le _
    · have := upto_len c l
      simp
      omega
theorem upto_at (c : UInt8) : ∀ (l : Txt) (i : Nat), i ≤ l.length → (∀ j (hj : j < l.length), j < i → l[j] ≠ c) → (∀ hi : i < l.length, l[i] = c) → upto c l = l.take i
  | [], i, h, _, _ => by simp [upto]
  | x :: l, 0, _, _, h => by
    have := h (by simp)
    simp at this
    simp [upto, this]
  | x :: l, i + 1, hl, h1, h2 => by
    have hx : x ≠ c := h1 0 (by simp) (by omega)
    rw [upto, if_neg hx, upto_at c l i (by simp at hl; omega) (fun j hj hji => by have := h1 (j + 1) (by simp; omega) (by omega); simpa using this) (fun hi => by have := h2 (by simp; omega); simpa using this)]
    rfl
def numQ (l : Txt) : Nat := (l.take 5).foldl (fun n c => 10 * n + c.toNat % 16) 0
theorem digit_mod {c : UInt8} {d : Nat} (h : Lib.digitVal c = some d) : c.toNat % 16 = d := by
  unfold Lib.digitVal at h
  split at h
  · rename_i h1
    injection h with h
    have h2 : 48 ≤ c.toNat ∧ c.toNat ≤ 57 := by simpa [UInt8.le_iff_toNat_le] using h1
    omega
  · cases h
theorem decFrom_fold : ∀ (l : Txt) (a v : Nat), Lib.decFrom a l = some v → l.foldl (fun n c => 10 * n + c.toNat % 16) a = v
  | [], a, v, h => by simpa [Lib.decFrom] using h
  | c :: l, a, v, h => by
    unfold Lib.decFrom at h
    cases hc : Lib.digitVal c with
    | none => rw [hc] at h; cases h
    | some d =>
      rw [hc] at h
      rw [List.foldl_cons, digit_mod hc, show 10 * a + d = a * 10 + d by omega]
      exact decFrom_fold l _ v h
theorem numQ_itoa {m : Nat} (h : m ≤ 2048) : numQ (Lib.itoa (m : Int)) = m := by
  have hl := itoa_short h
  unfold numQ
  rw [List.take_of_length_le (by omega)]
  have e : Lib.itoa (m : Int) = Lib.decDigits m := by
    unfold Lib.itoa
    rw [if_neg (by omega), Int.toNat_natCast]
  rw [e]
  exact decFrom_fold _ 0 m (decFrom_digits m)
/-- What the reference reads of a text as an entry, and how far it goes. -/
def kindQ (s : Txt) : Txt := upto 32 s
def n1Q (s : Txt) : Nat := min ((kindQ s).length + 1) s.length
def pathQ (s : Txt) : Txt := upto 32 (s.drop (n1Q s))
def n2Q (s : Txt) : Nat := min (n1Q s + (pathQ s).length + 1) s.length
def sizeQ (s : Txt) : Txt := upto 10 (s.drop (n2Q s))
def n3Q (s : Txt) : Nat := n2Q s + (sizeQ s).length + 1
def entryQ (s : Txt) : Option (Ent × Nat) :=
  if 4 < (sizeQ s).length ∨ s.length < n3Q s ∨ s.length - n3Q s < numQ (sizeQ s) then none
  else some (⟨pathQ s, if kindQ s = [108] then 3 else 1, (s.drop (n3Q s)).take (numQ (sizeQ s))⟩, n3Q s + numQ (sizeQ s) + 1)
theorem entryQ_back {x : Ent} (h : entryB x = true) (r : Txt) : entryQ (headT x ++ 10 :: (x.data ++ 10 :: r)) = some (x, (headT x).length + x.data.length + 2) := by
  obtain ⟨hp, _⟩ := path_plainB h
  have hk := entryB_kind h
  have hlen := entryB_len h
  have hi : (10 : UInt8) ∉ Lib.itoa (x.data.length : Int) := itoa_no _ (by decide)
  obtain ⟨kw, hkw, hkw2⟩ : ∃ kw : UInt8, kw ≠ 32 ∧ kindW x.kind = [kw, 32] ∧ (if [kw] = [108] then (3 : Int) else 1) = x.kind := by
    rcases hk with e | e <;> rw [e]
    · exact ⟨108, by decide, rfl, rfl⟩
    · exact ⟨102, by decide, rfl, rfl⟩
  obtain ⟨hkw2, hkw3⟩ := hkw2
  generalize hT : Lib.itoa (x.data.length : Int) = T at *
  have hh : headT x = kw :: 32 :: (x.path ++ 32 :: T) := by
    unfold headT
    rw [hkw2, hT]
    simp
  generalize hs : headT x ++ 10 :: (x.data ++ 10 :: r) = s
  have e0 : s = [kw] ++ 32 :: (x.path ++ 32 :: (T ++ 10 :: (x.data ++ 10 :: r))) := by rw [← hs, hh]; simp
  have hsl : s.length = 2 + x.path.length + 1 + T.length + 1 + x.data.length + 1 + r.length := by rw [e0]; simp; omega
  have k1 : kindQ s = [kw] := by
    unfold kindQ
    rw [e0, upto_app 32 [kw] _ (by simpa using fun e => hkw e.symm)]
  have m1 : n1Q s = 2 := by unfold n1Q; rw [k1, hsl]; simp; omega
  have k2 : pathQ s = x.path := by
    unfold pathQ
    rw [m1, e0, show [kw] ++ 32 :: (x.path ++ 32 :: (T ++ 10 :: (x.data ++ 10 :: r))) = [kw, 32] ++ (x.path ++ 32 :: (T ++ 10 :: (x.data ++ 10 :: r))) by simp, List.drop_left' (show [kw, 32].length = 2 from rfl), upto_app 32 _ _ hp]
  have m2 : n2Q s = 3 + x.path.length := by unfold n2Q; rw [m1, k2, hsl]; omega
  have k3 : sizeQ s = T := by
    unfold sizeQ
    rw [m2, e0, show [kw] ++ 32 :: (x.path ++ 32 :: (T ++ 10 :: (x.data ++ 10 :: r))) = ([kw, 32] ++ x.path ++ [32]) ++ (T ++ 10 :: (x.data ++ 10 :: r)) by simp, List.drop_left' (by simp; omega), upto_app 10 _ _ hi]
  have m3 : n3Q s = 4 + x.path.length + T.length := by unfold n3Q; rw [m2, k3]; omega
  have hq : numQ T = x.data.length := by rw [← hT]; exact numQ_itoa hlen.2
  have ht4 : T.length ≤ 4 := by rw [← hT]; exact itoa_short hlen.2
  have hhl : (headT x).length = 3 + x.path.length + T.length := by rw [hh]; simp; omega
  unfold entryQ
  rw [k1, k2, k3, m3, hq, if_neg (by omega)]
  have d3 : s.drop (4 + x.path.length + T.length) = x.data ++ 10 :: r := by
    rw [e0, show [kw] ++ 32 :: (x.path ++ 32 :: (T ++ 10 :: (x.data ++ 10 :: r))) = ([kw, 32] ++ x.path ++ [32] ++ T ++ [10]) ++ (x.data ++ 10 :: r) by simp, List.drop_left' (by simp; omega)]
  rw [d3, List.take_left' rfl, hkw3, hhl]
  congr 2
  omega
theorem restT_drop {l : List Ent} {k : Nat} (hk : k < l.length) : (restT l k).drop ((headT l[k]).length + l[k].data.length + 2) = restT l (k + 1) := by
  rw [restT_succ l k hk, show headT l[k] ++ 10 :: (l[k].data ++ 10 :: restT l (k + 1)) = (headT l[k] ++ [10] ++ l[k].data ++ [10]) ++ restT l (k + 1) by simp, List.drop_left' (by simp; omega)]
theorem restT_ne (l : List Ent) (k : Nat) : restT l k ≠ [] := by
  unfold restT
  simp
end Go.Proofs.YtdhlklidenfbeaaGreatDoor
namespace Go.Proofs.YtdhlklidenfbeaaGreatDoor
open Go.RowKit Go.Shelf
set_option linter.unusedVariables false
set_option linter.unusedSimpArgs false

theorem cut32 : ∀ (s : Txt), (32 : UInt8) ∈ s → ∃ a r, (32 : UInt8) ∉ a ∧ s = a ++ 32 :: r
  | [], h => by cases h
  | c :: s, h => by
    by_cases hc : c = 32
    · subst hc
      exact ⟨[], s, by simp, rfl⟩
    · have h2 : (32 : UInt8) ∈ s := by
        rcases List.mem_cons.1 h with h | h
        · exact absurd h.symm hc
        · exact h
      obtain ⟨a, r, ha, rfl⟩ := cut32 s h2
      refine ⟨c :: a, r, fun hm => ?_, rfl⟩
      rcases List.mem_cons.1 hm with hm | hm
      · exact hc hm.symm
      · exact ha hm
theorem words_len : ∀ (n : Nat) (s : Txt), s.length ≤ n → ∀ t ∈ words s, t.length ≤ s.length := by
  intro n
  induction n with
  | zero =>
    intro s hs t ht
    obtain rfl : s = [] := List.eq_nil_of_length_eq_zero (by omega)
    rw [words_one (by simp)] at ht
    rw [List.mem_singleton.1 ht]
    exact Nat.le_refl _
  | succ n ih =>
    intro s hs t ht
    by_cases h : (32 : UInt8) ∈ s
    · obtain ⟨a, r, ha, rfl⟩ := cut32 s h
      rw [words_cons ha] at ht
      simp only [List.length_append, List.length_cons] at hs ⊢
      rcases List.mem_cons.1 ht with rfl | ht
      · omega
      · have := ih r (by omega) t ht
        omega
    · rw [words_one h] at ht
      rw [List.mem_singleton.1 ht]
      exact Nat.le_refl _
theorem entryR_path {head b : Txt} {x : Ent} {r : Txt} (h : entryR head b = some (x, r)) : x.path.length ≤ head.length ∧ r.length ≤ b.length := by
  unfold entryR at h
  split at h
  · rename_i k p q hw
    have hp := words_len head.length head (Nat.le_refl _) p (by rw [hw]; simp)
    split at h
    · cases h
    · split at h
      · split at h
        · cases h
        · injection h with h
          injection h with h1 h2
          subst h1 h2
          exact ⟨hp, by simp⟩
      · cases h
  · cases h
theorem parse_append {w wr w2 w5 : World} {A1 : Option Addr} {m c1 : Nat} {es : List EV} (hown : OwnEnts wr w.heap.size (.slice A1 m c1) m es) (hb : Below w.heap.size w wr) (hb2 : Below wr.heap.size wr w2)
    (hb5 : Below (w2.heap.size + 1) (w2.alloc (.cells #[.string ⟨#[]⟩, .int .i64 0, .slice none 0 0] 73)) w5) (hm : m ≤ 2000000) (p : Txt) (k : Int) (d : Txt) (Ae : Option Addr) (ne ce : Nat) (ok4 : Bool)
    (hc : ok4 = true → (∃ g, Ae = some ⟨g, 0, none⟩ ∧ w2.heap.size + 1 ≤ g ∧ g < w5.heap.size ∧ FreeB w5 g) ∧ Slc w5 w5.heap.size 1 Ae ne ce (d.map bv)) :
    ∃ A' c' w6, (Builtin.append_ #[35, 35] 35 #[.slice A1 m c1, .slice (some ⟨w5.heap.size, 0, none⟩) 1 1]).run Tryz.prog
        ((((w5.setCell ⟨w2.heap.size, 0, none⟩ (.string ⟨p.toArray⟩)).setCell ⟨w2.heap.size, 1, none⟩ (.int .i64 k)).setCell ⟨w2.heap.size, 2, none⟩ (.slice Ae ne ce)).alloc (.cells #[.string ⟨p.toArray⟩, .int .i64 k, .slice Ae ne ce] 73)) = .ok (.slice A' (m + 1) c') w6 ∧
      Below w.heap.size w w6 ∧ (∀ B, B ≤ w.heap.size → Below B w5 w6) ∧ (ok4 = true → OwnEnts w6 w.heap.size (.slice A' (m + 1) c') (m + 1) (es ++ [⟨p, k, d, Ae, ne, ce⟩])) := by
  obtain ⟨V, hV⟩ : ∃ V, V = (((w5.setCell ⟨w2.heap.size, 0, none⟩ (.string ⟨p.toArray⟩)).setCell ⟨w2.heap.size, 1, none⟩ (.int .i64 k)).setCell ⟨w2.heap.size, 2, none⟩ (.slice Ae ne ce)) := ⟨_, rfl⟩
  rw [← hV]
  have hsz : V.heap.size = w5.heap.size := by rw [hV]; simp [World.setCell]
  have hz5 : w2.heap.size + 1 ≤ w5.heap.size := by have := hb5.size; simpa using this
  have s1 := hb.size
  have s2 := hb2.size
  have hb25 : Below w2.heap.size w2 w5 := ((Below.refl _ w2).alloc (Nat.le_refl _) _).trans (hb5.mono (by omega))
  have hwr5 : Below wr.heap.size wr w5 := hb2.trans (hb25.mono s2)
  have hbw5 : Below w.heap.size w w5 := hb.trans (hwr5.mono s1)
  have hset : ∀ B, B ≤ w2.heap.size → Below B w5 V := fun B hB => by
    rw [hV]
    exact (((Below.mono (Below.refl w5.heap.size w5) (by omega)).setCell (p := ⟨w2.heap.size, 0, none⟩) hB _).setCell (p := ⟨w2.heap.size, 1, none⟩) hB _).setCell (p := ⟨w2.heap.size, 2, none⟩) hB _
  have hO5 := hown.below hwr5
  have hob : (Value.slice A1 m c1).ownBlock ≠ some w2.heap.size := fun e => by have := (hown.own.lt _ e).2; omega
  have hod : ∀ e ∈ es, ∀ g, e.A = some ⟨g, 0, none⟩ → g ≠ w2.heap.size := fun e he g hg => by
    obtain ⟨g', h1, _, h5, _⟩ := hown.data e he
    rw [hg] at h1
    injection h1 with h1
    injection h1 with h1
    omega
  have hOV : OwnEnts V w.heap.size (.slice A1 m c1) m es := by
    rw [hV]
    exact ((hO5.set_ (p := ⟨w2.heap.size, 0, none⟩) hob hod _).set_ (p := ⟨w2.heap.size, 1, none⟩) hob hod _).set_ (p := ⟨w2.heap.size, 2, none⟩) hob hod _
  have fin : ∀ w6, (V.alloc (.cells #[.string ⟨p.toArray⟩, .int .i64 k, .slice Ae ne ce] 73)).grownBy w6 (Value.slice A1 m c1).ownBlock → ∀ B, B ≤ w.heap.size → Below B w5 w6 := fun w6 hg B hB =>
    ((hset B (by omega)).alloc (by rw [hsz]; omega) _).grown hg (by simp; omega) (fun q hq => by have := (hown.own.lt _ hq).1; omega)
  cases ok4 with
  | true =>
    obtain ⟨⟨g, rfl, hg1, hg2, hf⟩, hS⟩ := hc rfl
    have hSV : Slc V V.heap.size 1 (some ⟨g, 0, none⟩) ne ce (d.map bv) := by
      rw [hV]
      exact slc_far (slc_far (slc_far hS (by simp; omega) _) (by simp; omega) _) (by simp; omega) _
    have hfV : FreeB V g := by rw [hV]; exact ((hf.set_ _ _).set_ _ _).set_ _ _
    have hog : (Value.slice A1 m c1).ownBlock ≠ some g := fun e => by have := (hown.own.lt _ e).2; omega
    obtain ⟨A', c', w6, h1, h2, h3, _⟩ := hOV.append ⟨p, k, d, some ⟨g, 0, none⟩, ne, ce⟩ hSV ⟨g, rfl, by omega, by omega, hog⟩ (fun g' hg' => by injection hg' with hg'; injection hg' with hg'; subst hg'; exact hfV) (by omega) (by omega)
    rw [hsz] at h1
    exact ⟨A', c', w6, h1, hbw5.trans (fin w6 h3 _ (Nat.le_refl _)), fin w6 h3, fun _ => h2⟩
  | false =>
    obtain ⟨A', c', w6, h1, h3⟩ := append_raw hOV.own p k Ae ne ce (by omega) (by omega)
    rw [hsz] at h1
    exact ⟨A', c', w6, h1, hbw5.trans (fin w6 h3 _ (Nat.le_refl _)), fin w6 h3, fun e => by cases e⟩
end Go.Proofs.YtdhlklidenfbeaaGreatDoor
