/- Menus in memory; the walks of boot.stored, boot.at, boot.own. -/
import Derived.Test.YtdhlklidenfbeaaGreatDoorTreeRefs
import Derived.Test.YtdhlklidenfbeaaGreatDoorBootP
import Derived.Shelf.SlicesQ.Load
namespace Go.Proofs.YtdhlklidenfbeaaGreatDoor
open Go.RowKit Go.Sort
set_option linter.unusedVariables false
set_option linter.unusedSimpArgs false

def genCells (g : Gen) : List Value := [.int .i64 g.num, .string ⟨g.path.toArray⟩]
theorem genCells_length (g : Gen) : (genCells g).length = 2 := rfl
/-- A list of generations in memory, below block B. -/
structure GensAt (w : World) (B : Nat) (A : Option Addr) (n c : Nat) (l : List Gen) : Prop where
  slc : Slc w B 2 A n c (l.flatMap genCells)
  len : l.length = n
theorem GensAt.below {w w' : World} {B : Nat} {A : Option Addr} {n c : Nat} {l : List Gen} (h : GensAt w B A n c l) (hb : Below B w w') : GensAt w' B A n c l := ⟨h.slc.below hb, h.len⟩
theorem GensAt.more {w : World} {B B' : Nat} {A : Option Addr} {n c : Nat} {l : List Gen} (h : GensAt w B A n c l) (hB : B ≤ B') : GensAt w B' A n c l := ⟨h.slc.more hB, h.len⟩
theorem GensAt.at_ {w : World} {B : Nat} {A : Option Addr} {n c : Nat} {l : List Gen} (h : GensAt w B A n c l) {k : Nat} (hk : k < n) :
    ∃ b off, A = some ⟨b, off, none⟩ ∧ b < B ∧ ∃ hl : k < l.length, w.cell? ⟨b, off + k * 2, none⟩ = some (.int .i64 l[k].num) ∧ w.cell? ⟨b, off + k * 2 + 1, none⟩ = some (.string ⟨l[k].path.toArray⟩) := by
  obtain ⟨b, off, e, hb, hc⟩ := h.slc.at_ (by omega)
  have hl : k < l.length := by rw [h.len]; exact hk
  have g : ∀ j u, j < 2 → (genCells l[k])[j]? = some u → w.cell? ⟨b, off + k * 2 + j, none⟩ = some u := fun j u hj hu => by
    have := hc (k * 2 + j) u (by rw [flatMap_get genCells 2 l (fun o _ => genCells_length o) k j hl hj]; exact hu)
    rwa [← Nat.add_assoc] at this
  exact ⟨b, off, e, hb, hl, g 0 _ (by decide) rfl, g 1 _ (by decide) rfl⟩
/-- A menu's value. -/
def menuV (m : Menu) (A : Option Addr) (n c : Nat) : Value := .agg #[.int .i64 m.last, .int .i64 m.def_, .int .i64 m.next, .int .i64 m.trial, .slice A n c]

theorem own_one {w : World} {base : Nat} {A : Option Addr} {n c : Nat} {q : Txt} (h : w.ownsRow base 9 1 (.slice A n c) n ([q].map encStr)) :
    n = 1 ∧ ∃ g, A = some ⟨g, 0, none⟩ ∧ w.cell? ⟨g, 0, none⟩ = some (.string ⟨q.toArray⟩) := by
  have h1 : n = 1 := by have := h.1; simp at this; omega
  subst h1
  rcases h.2 with ⟨h2, _⟩ | ⟨g, cap, cur, e, _⟩
  · cases h2
  · injection e with e1 e2 e3
    subst e1 e3
    exact ⟨rfl, g, rfl, h.cellAt 0 (by decide)⟩
theorem mem_refsAll_one (p : Txt) : refsAll [p] = refsOne p := by simp [refsAll]
theorem stored_plain (p : Txt) : (∃ q, addAll [] (refsOne p) = [q] ∧ q = p) ↔ pathB p = true := by
  constructor
  · rintro ⟨q, h, rfl⟩
    have : q ∈ addAll [] (refsOne q) := by rw [h]; exact List.mem_singleton_self q
    rw [mem_addAll] at this
    rcases this with h1 | h1
    · cases h1
    · exact path_of_refs q h1
  · intro h
    refine ⟨p, ?_, rfl⟩
    rw [refsOne_path p h]
    rfl

set_option maxRecDepth 100000 in
set_option maxHeartbeats 1000000 in
theorem stored_any (p : Txt) (w : World) (hp : p.length ≤ 1000000000) :
    Calls Tryz.prog 29 #[.string ⟨p.toArray⟩] w fun e w' => e = .returned (.bool (pathB p)) ∧ Below w.heap.size w w' := by
  have hsz : (ByteArray.mk p.toArray).size = p.length := by simp [ByteArray.size]
  obtain ⟨cap, w1, hcv, hb1, hz1, hS⟩ := convert_string Tryz.underlying9 Tryz.underlying32 Tryz.underlying5 w ⟨p.toArray⟩ (by rw [hsz]; unfold maxLen; omega)
  rw [hsz] at hcv hS
  change Slc w1 (w.heap.size + 1) 1 (some ⟨w.heap.size, 0, none⟩) p.length cap (p.map bv) at hS
  obtain ⟨e, he⟩ : ∃ e : EV, e = ⟨[], 0, p, some ⟨w.heap.size, 0, none⟩, p.length, cap⟩ := ⟨_, rfl⟩
  have hE : EntsAt (w1.alloc (.cells #[.string .empty, .int .i64 0, .slice (some ⟨w.heap.size, 0, none⟩) p.length cap] 73)) (w1.heap.size + 1) (some ⟨w1.heap.size, 0, none⟩) 1 1 [e] := by
    refine ⟨?_, rfl, fun x hx => ?_⟩
    · have := slc_new w1 73 (0, 0) #[.string .empty, .int .i64 0, .slice (some ⟨w.heap.size, 0, none⟩) p.length cap] (sz := 3) (n := 1) (c := 1) rfl (Nat.le_refl _) (by decide)
      rw [he]
      exact this
    · rw [List.mem_singleton.1 hx, he]
      exact (hS.below ((Below.refl _ w1).alloc (by omega) _)).more (by omega)
  have hrf := refs_any hE (by simp) (by
    rw [he]
    show (refsAll [p]).length ≤ _
    rw [mem_refsAll_one]
    exact Nat.le_trans (refsTo_length p p.length) hp)
  have hd : [e].map (·.data) = [p] := by rw [he]; rfl
  rw [hd, mem_refsAll_one] at hrf
  have HZ := Lib.hid hz1
  have HB1 := Lib.hid hb1
  have HS := Lib.hid (stored_plain p)
  generalize hT : addAll [] (refsOne p) = T at *
  clear he hE hd hT hS hz1 hb1
  have hbase : Below w.heap.size w (w1.alloc (.cells #[.string .empty, .int .i64 0, .slice (some ⟨w.heap.size, 0, none⟩) p.length cap] 73)) := HB1.out.alloc (by have := HZ.out; omega) _
  have HBASE := Lib.hid hbase
  clear hbase
  rcases T with _ | ⟨q, _ | ⟨r, T⟩⟩
  · have hF : pathB p = false := by
      cases h : pathB p with
      | false => rfl
      | true => obtain ⟨q, h1, _⟩ := HS.out.2 h; cases h1
    have HF := Lib.hid hF
    clear hF
    go_enter Tryz.func29, Tryz.ntmps29
    go_wp2_with (go_at_call 37; refine hrf.mono ?_; clear hrf; rintro e2 w2 ⟨A2, n2, c2, rfl, ho2, hb2⟩; obtain rfl : n2 = 0 := by (have := ho2.1; simp at this; omega))
    go_ret
    exact ⟨by rw [HF.out]; rfl, HBASE.out.trans (hb2.mono HBASE.out.size)⟩
  · by_cases hqp : q = p
    · have hF : pathB p = true := HS.out.1 ⟨q, rfl, hqp⟩
      have HF := Lib.hid hF
      clear hF
      subst hqp
      go_enter Tryz.func29, Tryz.ntmps29
      go_wp2_with (go_at_call 37; refine hrf.mono ?_; clear hrf; rintro e2 w2 ⟨A2, n2, c2, rfl, ho2, hb2⟩; obtain ⟨rfl, g2, rfl, hc2⟩ := own_one ho2)
      go_ret
      exact ⟨by rw [HF.out]; rfl, HBASE.out.trans (hb2.mono HBASE.out.size)⟩
    · have hF : pathB p = false := by
        cases h : pathB p with
        | false => rfl
        | true => obtain ⟨q', h1, h2⟩ := HS.out.2 h; injection h1 with h1; exact absurd (h1.trans h2) hqp
      have HF := Lib.hid hF
      clear hF
      have hne : (q == p) = false := by simpa using hqp
      go_enter Tryz.func29, Tryz.ntmps29
      go_wp2_with (go_at_call 37; refine hrf.mono ?_; clear hrf; rintro e2 w2 ⟨A2, n2, c2, rfl, ho2, hb2⟩; obtain ⟨rfl, g2, rfl, hc2⟩ := own_one ho2)
      go_ret
      exact ⟨by rw [HF.out]; rfl, HBASE.out.trans (hb2.mono HBASE.out.size)⟩
  · have hF : pathB p = false := by
      cases h : pathB p with
      | false => rfl
      | true => obtain ⟨q', h1, h2⟩ := HS.out.2 h; cases h1
    have HF := Lib.hid hF
    clear hF
    go_enter Tryz.func29, Tryz.ntmps29
    go_wp2_with (go_at_call 37; refine hrf.mono ?_; clear hrf; rintro e2 w2 ⟨A2, n2, c2, rfl, ho2, hb2⟩; have hn2 : 2 ≤ n2 := by (have := ho2.1; simp at this; omega))
    go_ret
    exact ⟨by rw [HF.out]; rfl, HBASE.out.trans (hb2.mono HBASE.out.size)⟩

/-- Is a generation's number the one that the cell holds? -/
theorem pred_any (g : Gen) (num : Int) (bn : Nat) (w : World) (hbn : w.cell? ⟨bn, 0, none⟩ = some (.int .i64 num)) :
    Calls Tryz.prog 54 #[.agg #[.int .i64 g.num, .string ⟨g.path.toArray⟩], .pointer (some ⟨bn, 0, none⟩)] w fun e w' => e = .returned (.bool (decide (g.num = num))) ∧ Below w.heap.size w w' := by
  have hlt : bn < w.heap.size := World.block_lt_of_cell? _ _ hbn
  have hb := (Below.refl w.heap.size w).alloc (Nat.le_refl _) (.cells #[.int .i64 g.num, .string ⟨g.path.toArray⟩] 61)
  by_cases h : g.num = num
  · have h' := h
    subst h'
    go_enter Tryz.func54, Tryz.ntmps54
    go_wp2
    go_ret
    exact ⟨by simp, hb⟩
  · have H := Lib.hid h
    have hne : (g.num == num) = false := by simpa using h
    go_enter Tryz.func54, Tryz.ntmps54
    go_wp2
    go_ret
    exact ⟨by rw [decide_eq_false H.out]; rfl, hb⟩

def atI (l : List Gen) (n : Int) : Int := if hasB l n = true then (atG l n : Int) else -1
theorem atG_eq : ∀ (l : List Gen) (n : Int) (k : Nat) (hk : k < l.length), l[k].num = n → (∀ i (hi : i < l.length), i < k → l[i].num ≠ n) → atG l n = k ∧ hasB l n = true := by
  intro l n k hk h h1
  refine ⟨?_, hasB_iff.2 ⟨l[k], List.getElem_mem hk, h⟩⟩
  unfold atG
  induction l generalizing k with
  | nil => cases hk
  | cons g l ih =>
    cases k with
    | zero =>
      simp only [List.getElem_cons_zero] at h
      rw [List.takeWhile_cons, if_neg (by simp [h])]
      rfl
    | succ k =>
      have h2 : g.num ≠ n := h1 0 (by simp) (by omega)
      rw [List.takeWhile_cons, if_pos (by simpa using h2), List.length_cons, ih k (by simpa using hk) (by simpa using h) (fun i hi hik => by
        have := h1 (i + 1) (by simpa using hi) (by omega)
        simpa using this)]
theorem hasB_false {l : List Gen} {n : Int} (h : ∀ i (hi : i < l.length), l[i].num ≠ n) : hasB l n = false := by
  cases hb : hasB l n with
  | false => rfl
  | true =>
    obtain ⟨g, hg, e⟩ := hasB_iff.1 hb
    obtain ⟨i, hi, rfl⟩ := List.mem_iff_getElem.1 hg
    exact absurd e (h i hi)

set_option maxRecDepth 100000 in
set_option maxHeartbeats 1000000 in
theorem idx_any {w : World} {B : Nat} {A : Option Addr} {n c : Nat} {l : List Gen} (h : GensAt w B A n c l) (hB : B ≤ w.heap.size) (num : Int) (bn : Nat) (hbn : w.cell? ⟨bn, 0, none⟩ = some (.int .i64 num)) :
    Calls Tryz.prog 53 #[.slice A n c, .func (.func 54) #[] #[.pointer (some ⟨bn, 0, none⟩)]] w fun e w' => e = .returned (.int .i64 (atI l num)) ∧ Below w.heap.size w w' := by
  have hn62 : n ≤ 9223372036854775807 := by have := h.slc.le; have := h.slc.cmax; unfold maxLen at this; omega
  have hbl : bn < w.heap.size := World.block_lt_of_cell? _ _ hbn
  have H := Lib.hid h
  clear h
  go_enter Tryz.func53, Tryz.ntmps53
  go_wp2_with (fail)
  go_loopw [8] (fun i wr => ∃ k : Nat, k ≤ n ∧ i = .int .i64 (k : Int) ∧ Aside (∀ i (hi : i < l.length), i < k → l[i].num ≠ num) ∧ Aside (Below w.heap.size w wr)) (fun i _ => n - (intOf i).toNat)
  case atStart => exact ⟨0, Nat.zero_le _, rfl, fun i _ h => absurd h (Nat.not_lt_zero _), Below.refl _ _⟩
  case round =>
    obtain ⟨k, hk, rfl, hno, hb⟩ := hrel
    by_cases hlt : k < n
    · obtain ⟨b, off, rfl, hbB, hl, c0, c1⟩ := (H.out.below (hb.out.mono hB)).at_ hlt
      have hp := pred_any l[k] num bn wr ((hb.out.cell (p := ⟨bn, 0, none⟩) hbl).trans hbn)
      by_cases hhit : l[k].num = num
      · have HA := Lib.hid (atG_eq l num k hl hhit (fun i hi hik => hno.out i hi hik))
        rw [decide_eq_true hhit] at hp
        clear hhit
        generalize l[k] = g at *
        go_wp2_with (go_at_call 54; refine hp.mono ?_; clear hp; rintro e2 w2 ⟨rfl, hb2⟩)
        go_ret
        exact ⟨by unfold atI; rw [if_pos HA.out.2, HA.out.1]; rfl, hb.out.trans (hb2.mono hb.out.size)⟩
      · have HN := Lib.hid (show ∀ i (hi : i < l.length), i < k + 1 → l[i].num ≠ num from fun i hi hik => by
          rcases Nat.lt_or_ge i k with h1 | h1
          · exact hno.out i hi h1
          · obtain rfl : i = k := by omega
            exact hhit)
        rw [decide_eq_false hhit] at hp
        clear hhit
        generalize l[k] = g at *
        go_wp2_with (go_at_call 54; refine hp.mono ?_; clear hp; rintro e2 w2 ⟨rfl, hb2⟩)
        exact ⟨⟨k + 1, by omega, by go_num, HN.out, hb.out.trans (hb2.mono hb.out.size)⟩, by simp [intOf]; omega⟩
    · have HF := Lib.hid (hasB_false (l := l) (n := num) fun i hi => hno.out i hi (by have := H.out.len; omega))
      go_wp2_with (fail)
      go_ret
      exact ⟨by unfold atI; rw [if_neg (by rw [HF.out]; decide)]; rfl, hb.out⟩

set_option maxRecDepth 100000 in
theorem at_any {w : World} {B : Nat} {A : Option Addr} {n c : Nat} {m : Menu} (h : GensAt w B A n c m.gens) (hB : B ≤ w.heap.size) (num : Int) :
    Calls Tryz.prog 30 #[menuV m A n c, .int .i64 num] w fun e w' => e = .returned (.int .i64 (atI m.gens num)) ∧ Below w.heap.size w w' := by
  obtain ⟨w1, hw1⟩ : ∃ w1, w1 = (w.alloc (.cells #[.int .i64 m.last, .int .i64 m.def_, .int .i64 m.next, .int .i64 m.trial, .slice A n c] 24)).alloc (.cells #[.int .i64 num] 3) := ⟨_, rfl⟩
  have hb1 : Below w.heap.size w w1 := by rw [hw1]; exact ((Below.refl _ w).alloc (Nat.le_refl _) _).alloc (by simp) _
  have hx := idx_any (h.below (hb1.mono hB)) (Nat.le_trans hB hb1.size) num (w.heap.size + 1) (by
    rw [hw1]
    simp)
  have HB1 := Lib.hid hb1
  rw [hw1] at hx
  subst hw1
  clear hb1 h
  unfold menuV
  go_enter Tryz.func30, Tryz.ntmps30
  go_wp2_with (go_at_call 53; refine hx.mono ?_; clear hx; rintro e2 w2 ⟨rfl, hb2⟩)
  go_ret
  exact ⟨rfl, HB1.out.trans (hb2.mono HB1.out.size)⟩

theorem own_set {w : World} {base : Nat} {e : TypeId} {size : Nat} {v : Value} {n : Nat} {xs : List Value} (h : w.ownsRow base e size v n xs) {p : Addr} (hp : v.ownBlock ≠ some p.block) (u : Value) : (w.setCell p u).ownsRow base e size v n xs := by
  refine h.kept (row := some p.block) ⟨rfl, rfl, rfl, by simp [World.setCell], fun k hk hne => Below.heap_setCell w p u k (fun e => hne (by rw [e]))⟩ ?_
  exact .inr hp
/-- A variable that is a struct, read whole. -/
theorem load_agg {P : Program} {T U : TypeId} {k : Nat} (ha : ∀ w, (isAgg T).run P w = .ok true w) (hz : ∀ w, (Go.sizeOf T).run P w = .ok k w) {w : World} {g : Nat} {cs : Array Value} (hcs : cs.size = k) (hb : Blk w g U cs) :
    (loadVar T ⟨g, 0, none⟩).run P w = .ok (.agg cs) w := by
  have hl := run_loadCells_list (P := P) (w := w) ⟨g, 0, none⟩ cs.toList (fun i v hi => by rw [addr_of_add, Nat.zero_add, hb.cell]; simpa using hi)
  rw [Array.length_toList, hcs] at hl
  simp [loadVar, ha, hz, hl]
theorem results_agg {P : Program} {fn : Func} {t : Tmp} {T U : TypeId} {g k : Nat} {cs : Array Value} {w : World} {tmps : Array Value} (h : fn.results = #[.cell t T]) (ht : tmps.getD t undef = .pointer (some ⟨g, 0, none⟩))
    (ha : ∀ w, (isAgg T).run P w = .ok true w) (hz : ∀ w, (Go.sizeOf T).run P w = .ok k w) (hcs : cs.size = k) (hb : Blk w g U cs) : (results fn tmps).run P w = .ok (.agg cs) w := by
  have hl := load_agg ha hz hcs hb
  simp only [Array.getD_eq_getD_getElem?] at ht
  simp [results, h, ht, asAddr, hl]
theorem results_agg2 {P : Program} {fn : Func} {t u : Tmp} {T U : TypeId} {g k : Nat} {cs : Array Value} {w : World} {tmps : Array Value} (h : fn.results = #[.cell t T, .tmp u]) (ht : tmps.getD t undef = .pointer (some ⟨g, 0, none⟩))
    (ha : ∀ w, (isAgg T).run P w = .ok true w) (hz : ∀ w, (Go.sizeOf T).run P w = .ok k w) (hcs : cs.size = k) (hb : Blk w g U cs) : (results fn tmps).run P w = .ok (.tuple #[.agg cs, tmps.getD u undef]) w := by
  have hl := load_agg ha hz hcs hb
  simp only [Array.getD_eq_getD_getElem?] at ht
  simp [results, h, ht, asAddr, hl]
theorem results_agg3 {P : Program} {fn : Func} {t u v : Tmp} {T U : TypeId} {g k : Nat} {cs : Array Value} {w : World} {tmps : Array Value} (h : fn.results = #[.cell t T, .tmp u, .tmp v]) (ht : tmps.getD t undef = .pointer (some ⟨g, 0, none⟩))
    (ha : ∀ w, (isAgg T).run P w = .ok true w) (hz : ∀ w, (Go.sizeOf T).run P w = .ok k w) (hcs : cs.size = k) (hb : Blk w g U cs) : (results fn tmps).run P w = .ok (.tuple #[.agg cs, tmps.getD u undef, tmps.getD v undef]) w := by
  have hl := load_agg ha hz hcs hb
  simp only [Array.getD_eq_getD_getElem?] at ht
  simp [results, h, ht, asAddr, hl]

theorem gen_info : (Tryz.prog.info? 61).map (fun i => (i.zero, i.size, i.bytes)) = some (some (.agg #[.int .i64 0, .string .empty]), 2, 24) := by kernel_rfl
theorem genCells_one (l : List Gen) : ∀ u ∈ l.flatMap genCells, u.oneCell' = true := by
  intro u hu
  obtain ⟨g, _, hu⟩ := List.mem_flatMap.1 hu
  unfold genCells at hu
  rcases List.mem_cons.1 hu with rfl | hu
  · rfl
  · rw [List.mem_singleton.1 hu]; rfl
/-- append of generations onto a row of the call's own. -/
theorem append_gens (w : World) (base : Nat) (v : Value) (n : Nat) (l : List Gen) (hown : w.ownsRow base 61 2 v n (l.flatMap genCells)) {B : Nat} {A : Option Addr} {m c : Nat} {k : List Gen} (hk : GensAt w B A m c k)
    (hb : n + m ≤ 2000000000) (hbase : base ≤ w.heap.size) :
    ∃ A' c' w', (Builtin.append_ #[22, 22] 22 #[v, .slice A m c]).run Tryz.prog w = .ok (.slice A' (n + m) c') w' ∧ w'.ownsRow base 61 2 (.slice A' (n + m) c') (n + m) ((l ++ k).flatMap genCells) ∧ w.grownBy w' v.ownBlock ∧
      ((Value.slice A' (n + m) c').ownBlock = v.ownBlock ∨ (Value.slice A' (n + m) c').ownBlock = some w.heap.size) := by
  obtain ⟨i, hi, hz0, hz1, hz2⟩ := info_parts gen_info
  rw [List.flatMap_append]
  exact append_slc (P := Tryz.prog) w base 22 22 _ i _ 2 24 Tryz.underlying22 hi hz0 hz1 hz2 rfl (by decide) v n _ hown B A m c _ hk.slc (genCells_one k) (by unfold maxLen; omega) (by omega) hbase
theorem own_gens {w : World} {base : Nat} {A : Option Addr} {n c : Nat} {l : List Gen} (h : w.ownsRow base 61 2 (.slice A n c) n (l.flatMap genCells)) : GensAt w w.heap.size A n c l := by
  refine ⟨own_slc_of h, ?_⟩
  have := h.1
  rw [flatMap_len genCells 2 l (fun o _ => genCells_length o)] at this
  omega

set_option maxRecDepth 100000 in
theorem own_any {w : World} {B : Nat} {A : Option Addr} {n c : Nat} {m : Menu} (h : GensAt w B A n c m.gens) (hB : B ≤ w.heap.size) (hn : n ≤ 1000000000) :
    Calls Tryz.prog 48 #[menuV m A n c] w fun e w' => ∃ A' c', e = .returned (menuV m A' n c') ∧ w'.ownsRow w.heap.size 61 2 (.slice A' n c') n (m.gens.flatMap genCells) ∧ Below w.heap.size w w' := by
  unfold menuV
  obtain ⟨W3, hW3⟩ : ∃ W3, W3 = ((w.alloc (.cells #[.int .i64 m.last, .int .i64 m.def_, .int .i64 m.next, .int .i64 m.trial, .slice A n c] 24)).alloc (.cells #[.int .i64 0, .int .i64 0, .int .i64 0, .int .i64 0, .slice none 0 0] 24)).alloc (.cells #[] 61) := ⟨_, rfl⟩
  have hb3 : Below w.heap.size w W3 := by rw [hW3]; exact (((Below.refl _ w).alloc (Nat.le_refl _) _).alloc (by simp) _).alloc (by simp; omega) _
  have hz3 : W3.heap.size = w.heap.size + 1 + 1 + 1 := by rw [hW3]; simp
  have hM3 : Blk W3 w.heap.size 24 #[.int .i64 m.last, .int .i64 m.def_, .int .i64 m.next, .int .i64 m.trial, .slice A n c] := by rw [hW3]; exact ((Blk.new _ _ _).alloc _).alloc _
  have hR3 : Blk W3 (w.heap.size + 1) 24 #[.int .i64 0, .int .i64 0, .int .i64 0, .int .i64 0, .slice none 0 0] := by
    rw [hW3]
    have := Blk.new (w.alloc (.cells #[.int .i64 m.last, .int .i64 m.def_, .int .i64 m.next, .int .i64 m.trial, .slice A n c] 24)) 24 #[.int .i64 0, .int .i64 0, .int .i64 0, .int .i64 0, .slice none 0 0]
    rw [World.size_alloc] at this
    exact this.alloc _
  have ho3 : W3.ownsRow w.heap.size 61 2 (.slice (some ⟨w.heap.size + 1 + 1, 0, none⟩) 0 0) 0 (([] : List Gen).flatMap genCells) := by
    rw [hW3]
    have := World.ownsRow_made (base := w.heap.size) (e := 61) (size := 2) ((w.alloc (.cells #[.int .i64 m.last, .int .i64 m.def_, .int .i64 m.next, .int .i64 m.trial, .slice A n c] 24)).alloc (.cells #[.int .i64 0, .int .i64 0, .int .i64 0, .int .i64 0, .slice none 0 0] 24)) #[] 0 (by simp; omega) (by decide) rfl
    simpa using this
  obtain ⟨A4, c4, w4, hrun, ho4, hg4, hv4⟩ := append_gens W3 w.heap.size _ 0 [] ho3 (h.below (hb3.mono hB)) (by omega) (by omega)
  rw [Nat.zero_add] at hrun ho4 hv4
  rw [List.nil_append] at ho4
  have hrow : ∀ q, (Value.slice (some ⟨w.heap.size + 1 + 1, 0, none⟩) 0 0).ownBlock = some q → w.heap.size ≤ q := fun q hq => (ho3.lt q hq).1
  have hb4 := hb3.grown hg4 hb3.size hrow
  have hM4 := hM3.grown hg4 (by simp [Value.ownBlock]; omega)
  have hR4 := hR3.grown hg4 (by simp [Value.ownBlock])
  have hne : ∀ q, (Value.slice A4 n c4).ownBlock = some q → w.heap.size + 1 + 1 ≤ q := by
    intro q hq
    rcases hv4 with hv4 | hv4
    · rw [hv4] at hq; simp only [Value.ownBlock, Option.some.injEq] at hq; omega
    · rw [hv4] at hq; simp only [Option.some.injEq] at hq; omega
  have m0 := hM4.cell 0
  have m1 := hM4.cell 1
  have m2 := hM4.cell 2
  have m3 := hM4.cell 3
  have m4 := hM4.cell 4
  have mf := hM4.frozen
  have r0 := hR4.cell 0
  have r1 := hR4.cell 1
  have r2 := hR4.cell 2
  have r3 := hR4.cell 3
  have r4 := hR4.cell 4
  have rf := hR4.frozen
  simp at m0 m1 m2 m3 m4 r0 r1 r2 r3 r4
  have HO := Lib.hid ho4
  have HB4 := Lib.hid hb4
  have HNE := Lib.hid hne
  have HMR := Lib.hid (And.intro hM4 hR4)
  clear ho4 hb4 hne hM4 hR4 hM3 hR3 ho3 hg4 hv4 hrow hb3 hz3 h
  rw [hW3] at hrun
  clear hW3
  go_enter Tryz.func48, Tryz.ntmps48
  go_wp2_with (at_builtin; refine wpList_append_run rfl _ _ _ rfl rfl rfl hrun ?_; clear hrun)
  refine bodyPost_ret (results_agg (t := 2) (g := w.heap.size + 1) rfl rfl Tryz.isAgg24 Tryz.sizeOf24 rfl ((((((HMR.out.2.far (by simp) _).set_ 0 _).set_ 1 _).set_ 2 _).set_ 3 _).set_ 4 _)) rfl ⟨A4, c4, rfl, ?_, ?_⟩
  · have h0 : ∀ k, k < 2 → (Value.slice A4 n c4).ownBlock ≠ some (w.heap.size + k) := fun k hk e => by have := HNE.out _ e; omega
    exact own_set (own_set (own_set (own_set (own_set (own_set HO.out (h0 0 (by omega)) _) (h0 1 (by omega)) _) (h0 1 (by omega)) _) (h0 1 (by omega)) _) (h0 1 (by omega)) _) (h0 1 (by omega)) _
  · exact (((((HB4.out.setCell (Nat.le_refl _) _).setCell (by simp) _).setCell (by simp) _).setCell (by simp) _).setCell (by simp) _).setCell (by simp) _
end Go.Proofs.YtdhlklidenfbeaaGreatDoor
