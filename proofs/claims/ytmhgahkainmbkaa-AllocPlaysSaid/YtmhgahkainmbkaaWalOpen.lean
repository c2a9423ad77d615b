/- The walk of Open. -/
import Derived.Test.YtmhgahkainmbkaaWalRows
import Derived.Test.YtmhgahkainmbkaaWalFormat
import Derived.Deep.DeepCutAuto
namespace Go.Proofs.Ytmhgahkainmbkaa
open Go.RowKit
set_option linter.unusedVariables false
set_option linter.unusedSimpArgs false

def field (c : List UInt8) (a n : Nat) : Nat := ofLe ((c.drop a).take n)
def roomOf (D : DiskM) (base u : Nat) : List (List UInt8) := (List.range u).map fun i => D.now.getD (base + 1 + i) []
def logOf (D : DiskM) (base n : Nat) (u : Nat) (o : SecMap) : LogM :=
  { base := base, n := n, epoch := field (D.now.getD base []) 8 8, used := field (D.now.getD base []) 16 2, sum := (updAll begin64 (roomOf D base u).flatten).toNat, over := o, staged := [], dead := false }
/-- Open: the error, and the log. -/
def openR (N : Nat) (D : DiskM) (base n : Nat) : Int × Option LogM :=
  if D.up = false then (40, none)
  else if D.now.getD base [] ≠ ctl (field (D.now.getD base []) 8 8) (field (D.now.getD base []) 16 2) (field (D.now.getD base []) 18 8) ∨ n - 1 < field (D.now.getD base []) 16 2 then (46, none)
  else if (logOf D base n (field (D.now.getD base []) 16 2) []).sum ≠ field (D.now.getD base []) 18 8 then (46, none)
  else match rowsM N (logOf D base n (field (D.now.getD base []) 16 2) []) (field (D.now.getD base []) 16 2) (roomOf D base (field (D.now.getD base []) 16 2)) [] with
    | none => (46, none)
    | some o => (0, some (logOf D base n (field (D.now.getD base []) 16 2) o))
def OpenEnd (w : World) (pd N : Nat) (r : Int × Option LogM) (e : Ending) (w' : World) : Prop :=
  Below w.heap.size w w' ∧ (r.2 = none → e = .returned (.tuple #[.pointer none, .int .i64 r.1])) ∧
    ∀ L, r.2 = some L → ∃ p go gs, e = .returned (.tuple #[.pointer (some ⟨p, 0, none⟩), .int .i64 r.1]) ∧ LogAt w' p go gs pd N L ∧ ∀ k, Foot p go gs k → w.heap.size ≤ k
theorem OpenEnd.no {w w' : World} {pd N : Nat} {E : Int} (hb : Below w.heap.size w w') : OpenEnd w pd N (E, none) (.returned (.tuple #[.pointer none, .int .i64 E])) w' :=
  ⟨hb, fun _ => rfl, fun _ h => by cases h⟩
theorem get_field {w : World} {g : Nat} {t : TypeId} {cb : List UInt8} (h : Blk w g t (cb.map bv).toArray) {lo n c : Nat} (hle : lo + n ≤ cb.length) (hnc : n ≤ c) (hc : c ≤ maxLen) (h8 : n ≤ 8) :
    Calls Try.prog 63 #[.slice (some ⟨g, lo, none⟩) n c] w fun e w' => e = .returned (.int .u64 (field cb lo n : Int)) ∧ w = w' := get_any w (h.sub hle hnc hc) h8
theorem wsec_info : (Try.prog.info? 80).map (fun i => (i.zero.map (·.cells.size), i.size, i.bytes)) = some (some 128, 128, 128) := by kernel_rfl
theorem list_wsector_mark (n : Nat) (parts : Array (Nat × Value)) : Instr.buildSlice 86 n parts = ListS 86 n parts := rfl
theorem list_wsector {cs : Array Value} (hc : cs.size = 128) (w : World) : Sem.run Try.prog (ListS 86 1 #[(0, .agg cs)]) w = .ok (.slice (some ⟨w.heap.size, 0, none⟩) 1 1) (w.alloc (.cells cs 80)) := by
  cases hi : Try.prog.info? 80 with
  | none => have := wsec_info; rw [hi] at this; cases this
  | some i =>
    have h := wsec_info
    rw [hi] at h
    simp only [Option.map_some, Option.some.injEq, Prod.mk.injEq] at h
    cases hz : i.zero with
    | none => rw [hz] at h; simp at h
    | some z =>
      rw [hz] at h
      simp only [Option.map_some, Option.some.injEq] at h
      exact ListS.one Try.underlying86 hi hz h.2.1 h.1 (by decide) (by decide) hc w
/-- append of one sector. -/
theorem append_wsector (w : World) (v : Value) (n : Nat) (l : List (List UInt8)) (hown : w.ownsRow 0 80 128 v n (flat l)) (x : List UInt8)
    {B : Nat} {A : Option Addr} (hr : Slc w B 128 A 1 1 (x.map bv)) (hb : n ≤ 1000000) :
    ∃ A' c' w', (AppendS #[86, 86] 86 #[v, .slice A 1 1]).run Try.prog w = .ok (.slice A' (n + 1) c') w' ∧ w'.ownsRow 0 80 128 (.slice A' (n + 1) c') (n + 1) (flat (l ++ [x])) ∧ w.grownBy w' v.ownBlock ∧
      ((Value.slice A' (n + 1) c').ownBlock = v.ownBlock ∨ (Value.slice A' (n + 1) c').ownBlock = some w.heap.size) := by
  cases hi : Try.prog.info? 80 with
  | none => have := wsec_info; rw [hi] at this; cases this
  | some i =>
    have h := wsec_info
    rw [hi] at h
    simp only [Option.map_some, Option.some.injEq, Prod.mk.injEq] at h
    cases hz : i.zero with
    | none => rw [hz] at h; simp at h
    | some z =>
      rw [hz] at h
      simp only [Option.map_some, Option.some.injEq] at h
      have := append_slc (P := Try.prog) w 0 86 86 80 i z 128 128 Try.underlying86 hi hz h.2.1 h.2.2 h.1 (by decide) v n _ hown B A 1 1 _ hr (bvs_one x) (by unfold maxLen; omega) (by omega) (Nat.zero_le _)
      rw [flat_append, show flat [x] = x.map bv by simp [flat]]
      exact this
theorem roomOf_succ (D : DiskM) (base i : Nat) : roomOf D base (i + 1) = roomOf D base i ++ [D.now.getD (base + 1 + i) []] := by simp [roomOf, List.range_succ]
def logUp (D : DiskM) (base n i : Nat) (e u : Nat) : LogM := { base := base, n := n, epoch := e, used := u, sum := (updAll begin64 (roomOf D base i).flatten).toNat, over := [], staged := [], dead := false }
theorem sum_up (D : DiskM) (base i : Nat) : updAll begin64 (roomOf D base (i + 1)).flatten = updAll (updAll begin64 (roomOf D base i).flatten) (D.now.getD (base + 1 + i) []) := by
  rw [roomOf_succ, List.flatten_append, updAll_append]; simp
theorem LogAt.reHead' {w wi : World} {p go gs pd N : Nat} {L : LogM} (h : LogAt w p go gs pd N L) (hk : ∀ k, Foot p go gs k → wi.heap[k]? = w.heap[k]?) : LogAt wi p go gs pd N L :=
  ⟨h.ok, (hk p (.inl rfl)).trans h.head, h.over.kept (hk go (.inr (.inl rfl))), h.staged.kept (hk gs (.inr (.inr rfl))), h.apart, h.overOk, h.stagedOk⟩
def openTail (L : LogM) : Option SecMap → Int × Option LogM
  | none => (46, none)
  | some o => (0, some { L with over := o })
theorem open_made (W : World) (hd : Array Value) : Blk (((W.alloc (.map #[] 0)).alloc (.map #[] 0)).alloc (.cells hd 77)).drew (W.heap.size + 1 + 1) 77 hd ∧
    MapAt (((W.alloc (.map #[] 0)).alloc (.map #[] 0)).alloc (.cells hd 77)).drew W.heap.size [] ∧ MapAt (((W.alloc (.map #[] 0)).alloc (.map #[] 0)).alloc (.cells hd 77)).drew (W.heap.size + 1) [] ∧
    Below W.heap.size W (((W.alloc (.map #[] 0)).alloc (.map #[] 0)).alloc (.cells hd 77)).drew := by
  have h1 := MapAt.new W
  have h2 := MapAt.new (W.alloc (.map #[] 0))
  have h3 := Blk.new ((W.alloc (.map #[] 0)).alloc (.map #[] 0)) 77 hd
  rw [World.size_alloc] at h2
  rw [World.size_alloc, World.size_alloc] at h3
  have b1 := (Below.refl W.heap.size W).alloc (Nat.le_refl _) (.map #[] 0)
  have b2 := (Below.refl (W.alloc (.map #[] 0)).heap.size (W.alloc (.map #[] 0))).alloc (Nat.le_refl _) (.map #[] 0)
  have b3 := (Below.refl ((W.alloc (.map #[] 0)).alloc (.map #[] 0)).heap.size ((W.alloc (.map #[] 0)).alloc (.map #[] 0))).alloc (Nat.le_refl _) (.cells hd 77)
  refine ⟨h3.drew, ((h1.below b2 (by rw [World.size_alloc]; omega)).below b3 (by rw [World.size_alloc, World.size_alloc]; omega)).kept rfl, (h2.below b3 (by rw [World.size_alloc, World.size_alloc]; omega)).kept rfl, ?_⟩
  exact ((b1.alloc (by rw [World.size_alloc]; omega) _).alloc (by rw [World.size_alloc, World.size_alloc]; omega) _).drew
theorem llen_of {w : World} {p n : Nat} {a0 a1 a3 a4 a5 a6 a7 a8 : Value} (h : Blk w p 77 #[a0, a1, .int .i64 (n : Int), a3, a4, a5, a6, a7, a8]) (h4 : 4 ≤ n) (h5 : n ≤ 255) :
    Calls Try.prog 40 #[.pointer (some ⟨p, 0, none⟩)] w fun e w' => e = .returned (.int .i64 ((n : Int) - 1)) ∧ w' = w := by
  obtain ⟨c0, c1, c2, c3, c4, c5, c6, c7, c8, fz⟩ := log_cells h
  clear h
  go_enter Try.func40, Try.ntmps40
  go_wp2
  go_ret
  exact ⟨rfl, rfl⟩
theorem there_new (W : World) (c : Array Value) (t : TypeId) {n : Nat} (h : n ≤ c.size) : (W.alloc (.cells c t)).there W.heap.size 0 n := fun j hj => by
  have hB := Blk.new W t c
  rw [Nat.zero_add]
  exact ⟨by rw [hB.cell, Array.getElem?_eq_getElem (by omega)]; rfl, hB.frozen j⟩
theorem there_below {W w2 : World} {g n B : Nat} (h : W.there g 0 n) (hb : Below B W w2) (hg : g < B) : w2.there g 0 n := fun j hj => by
  have h1 := h j hj
  rw [Nat.zero_add] at h1 ⊢
  exact ⟨by rw [hb.cell (p := ⟨g, j, none⟩) hg]; exact h1.1, by rw [hb.frozen (p := ⟨g, j, none⟩) hg]; exact h1.2⟩
def OpenS (gc g : Nat) (cb : List UInt8) (hd : Array Value) (W : World) : Prop := Blk W gc 113 (cb.map bv).toArray ∧ Blk W g 77 hd
theorem OpenS.and_left {gc g : Nat} {cb : List UInt8} {hd : Array Value} {W : World} (h : OpenS gc g cb hd W) : Blk W gc 113 (cb.map bv).toArray := h.1
theorem OpenS.alloc {gc g : Nat} {cb : List UInt8} {hd : Array Value} {W : World} (h : OpenS gc g cb hd W) (o : Obj) : OpenS gc g cb hd (W.alloc o) := ⟨h.1.alloc o, h.2.alloc o⟩
theorem OpenS.below {gc g : Nat} {cb : List UInt8} {hd : Array Value} {W w2 : World} (h : OpenS gc g cb hd W) (hb : Below W.heap.size W w2) : OpenS gc g cb hd w2 := ⟨h.1.below hb h.1.lt, h.2.below hb h.2.lt⟩
theorem OpenS.full {gc g : Nat} {cb : List UInt8} {W : World} {a0 a1 a2 a3 a4 a5 a6 a7 a8 : Value} (h : OpenS gc g cb #[a0, a1, a2, a3, a4, a5, a6, a7, a8] W) : OpenS gc g cb #[a0, a1, a2, a3, a4, a5, a6, a7, a8] W ∧ W.cell? ⟨g, 3, none⟩ = some a3 ∧ W.cell? ⟨g, 4, none⟩ = some a4 := ⟨h, h.2.cell 3, h.2.cell 4⟩
theorem setCells_far (b : Nat) {k : Nat} (h : k ≠ b) : ∀ (vs : List Value) (o : Nat) (W : World), (W.setCells b o vs).heap[k]? = W.heap[k]? := by
  intro vs
  induction vs with
  | nil => intro o W; rfl
  | cons v vs ih => intro o W; unfold World.setCells; rw [ih, heap_set_far _ _ _ _ _ h]
theorem blk_setCells {g : Nat} {t : TypeId} : ∀ (vs : List Value) (o : Nat) (W : World) (c : Array Value), Blk W g t c → o + vs.length ≤ c.size → Blk (W.setCells g o vs) g t (c.toList.take o ++ vs ++ c.toList.drop (o + vs.length)).toArray := by
  intro vs
  induction vs with
  | nil => intro o W c h _; simp only [World.setCells, List.append_nil, List.length_nil, Nat.add_zero, List.take_append_drop, Array.toArray_toList]; exact h
  | cons v vs ih =>
    intro o W c h hl
    simp only [List.length_cons] at hl
    have h1 := ih (o + 1) _ _ (h.set_ o v) (by simp; omega)
    unfold World.setCells
    have hk : o < c.toList.length := by simp; omega
    have e : (c.setIfInBounds o v).toList = c.toList.take o ++ v :: c.toList.drop (o + 1) := by
      rw [Array.toList_setIfInBounds, List.set_eq_take_append_cons_drop, if_pos hk]
    rw [e] at h1
    have e1 : (c.toList.take o ++ v :: c.toList.drop (o + 1)).take (o + 1) = c.toList.take o ++ [v] := by
      rw [List.take_append, List.take_of_length_le (by simp; omega)]
      rw [show o + 1 - (c.toList.take o).length = 1 by rw [List.length_take]; omega]
      rfl
    have e2 : (c.toList.take o ++ v :: c.toList.drop (o + 1)).drop (o + 1 + vs.length) = c.toList.drop (o + 1 + vs.length) := by
      rw [List.drop_append, List.drop_of_length_le (by simp; omega), List.nil_append]
      rw [show o + 1 + vs.length - (c.toList.take o).length = vs.length + 1 by rw [List.length_take]; omega, List.drop_succ_cons, List.drop_drop]
    rw [e1, e2] at h1
    simpa [Nat.add_assoc, Nat.add_comm 1] using h1
theorem below_setCells {B g : Nat} {w : World} (hg : B ≤ g) : ∀ (vs : List Value) (o : Nat) (W : World), Below B w W → Below B w (W.setCells g o vs) := by
  intro vs
  induction vs with
  | nil => intro o W h; exact h
  | cons v vs ih => intro o W h; unfold World.setCells; exact ih _ _ (h.setCell hg v)
theorem blk_whole {g : Nat} {t : TypeId} {W : World} {f : List UInt8} (h : Blk W g t (zbytes 128)) (hf : f.length = 128) : Blk (W.setCells g 0 (f.map bv)) g t (f.map bv).toArray := by
  have := blk_setCells (f.map bv) 0 W _ h (by simp [zbytes_size, hf])
  rwa [List.take_zero, List.nil_append, List.drop_of_length_le (by simp [zbytes_size, hf]), List.append_nil] at this
theorem OpenS.cells {gc g gk o : Nat} {cb : List UInt8} {hd : Array Value} {W : World} {vs : List Value} (h : OpenS gc g cb hd W) (h1 : gc ≠ gk) (h2 : g ≠ gk) : OpenS gc g cb hd (W.setCells gk o vs) :=
  ⟨(setCells_far gk h1 vs o W).trans h.1, (setCells_far gk h2 vs o W).trans h.2⟩
section
attribute [local go_sem ↓] load_wsector_mark store_wsector_mark alloc_wsector_mark appendS_mark list_wsector_mark
attribute [local go_sem] alloc_wsector arrayAt_sector
variable {w : World} {pd N : Nat} {F : Nat → Prop} {D : DiskM}
set_option maxRecDepth 100000 in
set_option maxHeartbeats 4000000 in
theorem open_any (h : Disk w F pd N D) (base n : Nat) (hm : mayB N (base : Int) (n : Int) = true) :
    Calls Try.prog 28 #[.pointer (some ⟨pd, 0, none⟩), .int .i64 (base : Int), .int .i64 (n : Int)] w (OpenEnd w pd N (openR N D base n)) := by
  have hN := h.ok.most
  have hmb : 4 ≤ n ∧ n ≤ 255 ∧ base + n ≤ N := by unfold mayB at hm; rw [decide_eq_true_eq] at hm; omega
  obtain ⟨hn4, hn255, hfit⟩ := hmb
  have hMay := may2_any h (base : Int) (n : Int) (by omega) (by omega)
  rw [hm] at hMay
  have HM := Lib.hid hMay
  have H := Lib.hid h
  obtain ⟨R, hR⟩ : ∃ R, R = openR N D base n := ⟨_, rfl⟩
  rw [← hR]
  have HR := Lib.hid hR
  clear hMay hm hR
  cases hu : D.up with
  | false =>
    have hRR : R = (40, none) := by rw [HR.out]; unfold openR; rw [if_pos hu]
    have hE : D.mayE N (base : Int) = 40 := by unfold DiskM.mayE; rw [if_pos hu]
    have hRd := readE_any h.2.choose_spec.choose_spec.choose_spec (base : Int) (by rw [hE]; decide)
    rw [hE] at hRd
    have HRR := Lib.hid hRR
    have HRD := Lib.hid hRd
    clear hu hRR hE hRd h
    go_enter Try.func28, Try.ntmps28
    go_wp2_with fail
    refine HM.out.mono ?_
    rintro e w1 ⟨rfl, rfl⟩
    go_wp2_with fail
    refine HRD.out.mono ?_
    rintro e w1 ⟨rfl, rfl⟩
    go_wp2_with fail
    go_ret2
    rw [HRR.out]
    exact OpenEnd.no (Below.refl _ _)
  | true =>
    have HUP := Lib.hid hu
    have hE : D.mayE N (base : Int) = 0 := by unfold DiskM.mayE; rw [if_neg (by simp [hu]), if_pos (by omega)]
    have hRd := read_any h.2.choose_spec.choose_spec.choose_spec (base : Int) hE
    rw [Int.toNat_natCast] at hRd
    obtain ⟨cb, hcb⟩ : ∃ cb, cb = D.now.getD base [] := ⟨_, rfl⟩
    rw [← hcb] at hRd
    have hcl : cb.length = 128 := by
      have hj : base < D.now.length := by rw [h.ok.nowLen]; omega
      rw [hcb, List.getD_eq_getElem?_getD, List.getElem?_eq_getElem hj]
      exact h.ok.now _ (List.getElem_mem hj)
    have hep2 : field cb 8 8 < 18446744073709551616 := by exact ofLe_lt8 (List.length_take_le _ _)
    have hto2 : field cb 18 8 < 18446744073709551616 := by exact ofLe_lt8 (List.length_take_le _ _)
    have hus2 : field cb 16 2 < 65536 := by
      have h1 := ofLe_lt ((cb.drop 16).take 2)
      have h2 : 256 ^ ((cb.drop 16).take 2).length ≤ 256 ^ 2 := Nat.pow_le_pow_right (by decide) (List.length_take_le _ _)
      have h3 : (256 : Nat) ^ 2 = 65536 := by decide
      unfold field; omega
    have hR3 : R = if cb ≠ ctl (field cb 8 8) (field cb 16 2) (field cb 18 8) ∨ n - 1 < field cb 16 2 then ((46 : Int), none) else if (logOf D base n (field cb 16 2) []).sum ≠ field cb 18 8 then ((46 : Int), none) else match rowsM N (logOf D base n (field cb 16 2) []) (field cb 16 2) (roomOf D base (field cb 16 2)) [] with
        | none => ((46 : Int), none)
        | some o => ((0 : Int), some (logOf D base n (field cb 16 2) o)) := by
      rw [HR.out]; unfold openR; rw [if_neg (by simp [hu]), ← hcb]
    have HR3 := Lib.hid hR3
    have HRD := Lib.hid hRd
    have HF := Lib.hid (And.intro hcb hcl)
    clear hu hE hRd hcb hcl hR3 HR h
    go_enter Try.func28, Try.ntmps28
    go_wp2_with fail
    refine HM.out.mono ?_
    rintro e w1 ⟨rfl, rfl⟩
    go_wp2_with fail
    refine HRD.out.mono ?_
    rintro e w1 ⟨gc, rfl, hgc, hBc, hb1⟩
    have hgl := hBc.lt
    have HB1 := Lib.hid hb1
    have HBC := Lib.hid hBc
    clear hb1 hBc
    have HBCD := Lib.hid HBC.out.drew
    have hmm := fun W : World => run_makeMap (P := Try.prog) 75 W
    go_upto_region 6 with (fail)
    go_cut [10] (fun s10 wx => ∃ g go gs : Nat, s10 = .pointer (some ⟨g, 0, none⟩) ∧ Blk wx g 77 #[.pointer (some ⟨pd, 0, none⟩), .int .i64 (base : Int), .int .i64 (n : Int), .int .u64 (field cb 8 8 : Int), .int .i64 (field cb 16 2 : Int), .int .u64 0, .map (some go), .map (some gs), .bool false] ∧ MapAt wx go [] ∧ MapAt wx gs [] ∧ go ≠ gs ∧
      w1.heap.size ≤ g ∧ w1.heap.size ≤ go ∧ w1.heap.size ≤ gs ∧ Below w1.heap.size w1 wx)
    case first =>
      have hwrap : IntKind.i64.wrap (field cb 16 2 : Int) = (field cb 16 2 : Int) := IntWalk.i64_in _ (by omega)
      go_region_held (fun W => Blk W gc 113 (cb.map bv).toArray) (first | exact HBCD.out | assumption | exact Blk.alloc (by assumption) _)
        ((go_at_call 63; refine (get_field (by assumption) (by rw [HF.out.2]; decide) (by decide) (by decide) (by decide)).mono ?_; rintro e w2 ⟨rfl, rfl⟩))
      all_goals
        go_wp2_with fail
        go_meet
        case rel =>
          clear hwrap
          first
            | exact ⟨_, _, _, rfl, (open_made w1 _).1, (open_made w1 _).2.1, (open_made w1 _).2.2.1, by omega, by omega, by omega, by omega, (open_made w1 _).2.2.2⟩
            | exact ⟨_, _, _, rfl, (open_made w1 _).1, (open_made w1 _).2.2.1, (open_made w1 _).2.1, by omega, by omega, by omega, by omega, (open_made w1 _).2.2.2⟩
    case rest =>
      obtain ⟨wa, rfl⟩ : ∃ wa, wa = wc := ⟨_, rfl⟩
      obtain ⟨g, go, gs, rfl, hG, hgo, hgs, hne, hg1, hgo1, hgs1, hbc⟩ := hcut
      have hBC2 := HBC.out.below hbc HBC.out.lt
      obtain ⟨c0, c1, c2, c3, c4, c5, c6, c7, c8, fz⟩ := log_cells hG
      have HG := Lib.hid (And.intro hG (And.intro hgo (And.intro hgs hne)))
      have HBCW := Lib.hid hbc
      have HBC2 := Lib.hid hBC2
      clear hG hgo hgs hne hbc hBC2
      obtain ⟨f, hf⟩ : ∃ f, f = ctl (field cb 8 8) (field cb 16 2) (field cb 18 8) := ⟨_, rfl⟩
      have hfl : f.length = 128 := by rw [hf]; exact ctl_length _ _ _
      have HFL := Lib.hid hfl
      have HFF := Lib.hid hf
      clear hf hfl
      go_upto_region 7 with (fail)
      go_cut [11] (fun s11 wx => ∃ gk : Nat, s11 = .pointer (some ⟨gk, 0, none⟩) ∧ wa.heap.size ≤ gk ∧ Blk wx gk 80 (f.map bv).toArray ∧ Below wa.heap.size wa wx)
      case first =>
        obtain ⟨hd, hhd⟩ : ∃ hd : Array Value, hd = #[.pointer (some ⟨pd, 0, none⟩), .int .i64 (base : Int), .int .i64 (n : Int), .int .u64 (field cb 8 8 : Int), .int .i64 (field cb 16 2 : Int), .int .u64 0, .map (some go), .map (some gs), .bool false] := ⟨_, rfl⟩
        have hfull : ∀ W, OpenS gc g cb hd W → OpenS gc g cb hd W ∧ W.cell? ⟨g, 3, none⟩ = some (.int .u64 (field cb 8 8 : Int)) ∧ W.cell? ⟨g, 4, none⟩ = some (.int .i64 (field cb 16 2 : Int)) := fun W hW => by
          rw [hhd] at hW ⊢; exact hW.full
        have hS0 : OpenS gc g cb hd wa.drew := by rw [hhd]; exact ⟨HBC2.out.drew, HG.out.1.drew⟩
        have hf := HFF.out
        have hfl := HFL.out
        have hi71 : (Try.prog.info? 80).map (·.size) = some (List.map bv f).length := by rw [List.length_map, hfl]; exact i_wsector
        have hone : ∀ v, v ∈ List.map bv f → v.oneCell' = true := bvs_one f
        have hctl : ∀ W : World, Calls Try.prog 64 #[.int .u64 (field cb 8 8 : Int), .int .i64 (field cb 16 2 : Int), .int .u64 (field cb 18 8 : Int)] W fun e' w' => e' = .returned (.agg (f.map bv).toArray) ∧ Below W.heap.size W w' := fun W => by rw [hf]; exact control_any _ _ _ hep2 hus2 hto2 W
        have hlf : (List.map bv f).length ≤ (zbytes 128).size := by rw [List.length_map, hfl]; decide
        have HBA := Lib.hid (show ∀ w2, Below wa.drew.heap.size wa.drew w2 → OpenS gc g cb hd w2 ∧ (w2.alloc (Obj.cells (zbytes 128) 80)).there w2.heap.size 0 (List.map bv f).length ∧ True ∧ wa.heap.size ≤ w2.heap.size from fun w2 hb => ⟨hS0.below hb, there_new w2 _ _ hlf, trivial, hb.size⟩)
        have HBB := Lib.hid (show ∀ w2, Below (wa.alloc (Obj.cells (zbytes 128) 80)).drew.heap.size (wa.alloc (Obj.cells (zbytes 128) 80)).drew w2 → OpenS gc g cb hd w2 ∧ (w2.alloc (Obj.cells (zbytes 128) 80)).there w2.heap.size 0 (List.map bv f).length ∧ w2.there wa.heap.size 0 (List.map bv f).length ∧ wa.heap.size ≤ w2.heap.size from fun w2 hb =>
          ⟨OpenS.below (W := (wa.alloc (Obj.cells (zbytes 128) 80)).drew) (hS0.alloc _) hb, there_new w2 _ _ hlf, there_below (W := (wa.alloc (Obj.cells (zbytes 128) 80)).drew) ((World.there_drew _ _ _ _).2 (there_new wa _ 80 hlf)) hb (by show wa.heap.size < (wa.alloc _).heap.size; simp), Nat.le_trans (by show wa.heap.size ≤ (wa.alloc _).heap.size; simp) hb.size⟩)
        have HFULL := Lib.hid hfull
        have HS0 := Lib.hid hS0
        have HCTL := Lib.hid hctl
        clear hhd hfull hS0 hctl hfl hf c0 c1 c2 c3 c4 c5 c6 c7 c8 fz
        have HS1 := Lib.hid (show OpenS gc g cb hd (wa.alloc (Obj.cells (zbytes 128) 80)).drew from HS0.out.alloc _)
        have HGET := Lib.hid (show ∀ W, OpenS gc g cb hd W → Calls Try.prog 63 #[.slice (some ⟨gc, 18, none⟩) 8 110] W fun e w' => e = .returned (.int .u64 (field cb 18 8 : Int)) ∧ W = w' from fun W hW => get_field hW.1 (by rw [HF.out.2]; decide) (by decide) (by decide) (by decide))
        have HBK := Lib.hid (show ∀ w2, Below wa.drew.heap.size wa.drew w2 → Below wa.heap.size wa w2 from fun w2 hb => (Below.refl _ wa).drew.trans hb)
        have HBK2 := Lib.hid (show ∀ w2, Below (wa.alloc (Obj.cells (zbytes 128) 80)).drew.heap.size (wa.alloc (Obj.cells (zbytes 128) 80)).drew w2 → Below wa.heap.size wa w2 from fun w2 hb => ((Below.refl _ wa).alloc (Nat.le_refl _) _).drew.trans (hb.mono (by show wa.heap.size ≤ (wa.alloc _).heap.size; simp)))
        have HBN2 := Lib.hid (show ∀ w2, Below (wa.alloc (Obj.cells (zbytes 128) 80)).drew.heap.size (wa.alloc (Obj.cells (zbytes 128) 80)).drew w2 → Blk w2 wa.heap.size 80 (zbytes 128) from fun w2 hb => Blk.below (w := (wa.alloc (Obj.cells (zbytes 128) 80)).drew) (Blk.new wa _ _).drew hb (by show wa.heap.size < (wa.alloc (Obj.cells (zbytes 128) 80)).heap.size; simp))
        have HLT := Lib.hid (And.intro HBC2.out.lt HG.out.1.lt)
        go_region_held (fun W => OpenS gc g cb hd W ∧ W.cell? ⟨g, 3, none⟩ = some (.int .u64 (field cb 8 8 : Int)) ∧ W.cell? ⟨g, 4, none⟩ = some (.int .i64 (field cb 16 2 : Int)))
          (first | exact HFULL.out _ HS0.out | exact HFULL.out _ HS1.out | exact HFULL.out _ (by assumption) | exact HFULL.out _ (OpenS.alloc (by assumption) _) | exact HFULL.out _ (OpenS.cells (OpenS.alloc (by assumption) _) (Nat.ne_of_lt (Nat.lt_of_lt_of_le HLT.out.1 HSZ)) (Nat.ne_of_lt (Nat.lt_of_lt_of_le HLT.out.2 HSZ))) | exact HFULL.out _ (OpenS.cells (by assumption) (Nat.ne_of_lt HLT.out.1) (Nat.ne_of_lt HLT.out.2)))
          ((first | (go_at_call 63; refine (HGET.out _ (by first | exact HS0.out | exact HS1.out)).mono ?_; rintro e w2 ⟨rfl, rfl⟩) | (go_at_call 64; refine (HCTL.out _).mono ?_; rintro e w2 ⟨rfl, hbk⟩; (first | have hs2 := HBA.out w2 hbk | have hs2 := HBB.out w2 hbk); have hth1 := hs2.2.1; have hth2 := hs2.2.2.1; have HSZ := hs2.2.2.2; have hs3 := hs2.1)))
        all_goals
          go_wp2_with fail
          go_meet
          case rel =>
            first
              | exact ⟨_, rfl, HSZ, blk_whole (Blk.new _ _ _) HFL.out, below_setCells HSZ _ _ _ ((HBK.out _ hbk).alloc HSZ _)⟩
              | exact ⟨_, rfl, Nat.le_refl _, blk_whole (HBN2.out _ hbk) HFL.out, below_setCells (Nat.le_refl _) _ _ _ (HBK2.out _ hbk)⟩
      case rest =>
        obtain ⟨wb, rfl⟩ : ∃ wb, wb = wc := ⟨_, rfl⟩
        obtain ⟨gk, rfl, hgk, hBk, hbb⟩ := hcut
        have hBc3 := HBC2.out.below hbb HBC2.out.lt
        have hG3 := HG.out.1.below hbb HG.out.1.lt
        have hgo3 := HG.out.2.1.below hbb HG.out.2.1.lt
        have hgs3 := HG.out.2.2.1.below hbb HG.out.2.2.1.lt
        have hlen := fun W : World => fun (hW : Blk W g 77 #[.pointer (some ⟨pd, 0, none⟩), .int .i64 (base : Int), .int .i64 (n : Int), .int .u64 (field cb 8 8 : Int), .int .i64 (field cb 16 2 : Int), .int .u64 0, .map (some go), .map (some gs), .bool false]) => llen_of hW hn4 hn255
        have hSc := hBc3.sub (lo := 0) (n := 128) (c := 128) (by rw [HF.out.2]; decide) (by decide) (by decide)
        rw [List.drop_zero, List.take_of_length_le (by rw [HF.out.2]; decide)] at hSc
        have hSk := hBk.sub (lo := 0) (n := 128) (c := 128) (by rw [HFL.out]; decide) (by decide) (by decide)
        rw [List.drop_zero, List.take_of_length_le (by rw [HFL.out]; decide)] at hSk
        have hcv1 := fun m : Nat => convert_bytes (P := Try.prog) Try.underlying39 Try.underlying5 (hSc.below (below_drewN _ wb m)) 9 Try.underlying9
        have hcv2 := fun m : Nat => convert_bytes (P := Try.prog) Try.underlying39 Try.underlying5 (hSk.below (below_drewN _ wb m)) 9 Try.underlying9
        have HG3 := Lib.hid (And.intro hG3 (And.intro hgo3 (And.intro hgs3 hBc3)))
        have HBB := Lib.hid hbb
        have HLEN := Lib.hid (fun m : Nat => (hlen (wb.drewN m) (hG3.drewN m)))
        obtain ⟨c0, c1, c2, c3, c4, c5, c6, c7, c8, fz⟩ := log_cells hG3
        have hbw : Below w.heap.size w wb := (HB1.out.trans (HBCW.out.mono HB1.out.size)).trans (hbb.mono (Nat.le_trans HB1.out.size HBCW.out.size))
        have HBW := Lib.hid hbw
        clear hBk hBc3 hG3 hgo3 hgs3 hlen hSc hSk hbb hbw
        by_cases hcf : cb = f
        · obtain ⟨s1, hs1⟩ : ∃ s1 : ByteArray, s1 = ⟨cb.toArray⟩ := ⟨_, rfl⟩
          rw [← hs1] at hcv1
          rw [← hcf, ← hs1] at hcv2
          have HCF := Lib.hid hcf
          clear hs1 hcf
          by_cases hbig : n - 1 < field cb 16 2
          · have hRR : R = (46, none) := by rw [HR3.out, if_pos (.inr hbig)]
            have HRR := Lib.hid hRR
            have e2 : decide ((n : Int) - 1 < (field cb 16 2 : Int)) = true := decide_eq_true (by omega)
            clear hRR hbig
            go_upto_region 8 with (fail)
            go_quiet ((go_at_call 40; exact Calls.quiet_of_same (HLEN.out _)))
            go_wp2
            go_ret2
            rw [HRR.out]
            exact OpenEnd.no (HBW.out.trans (below_drewN _ wb _))
          · have e2 : decide ((n : Int) - 1 < (field cb 16 2 : Int)) = false := decide_eq_false (by omega)
            have HUS := Lib.hid hbig
            have hus3 : field cb 16 2 < n := by omega
            clear hbig
            go_upto_region 8 with (fail)
            go_quiet ((go_at_call 40; exact Calls.quiet_of_same (HLEN.out _)))
            rename_i nq
            obtain ⟨wd, hwd⟩ : ∃ wd, wd = wb.drewN nq := ⟨_, rfl⟩
            have hbd : Below wb.heap.size wb wd := by rw [hwd]; exact below_drewN _ wb _
            rw [← hwd]
            have hG4 := HG3.out.1.below hbd HG3.out.1.lt
            have hgo4 := HG3.out.2.1.below hbd HG3.out.2.1.lt
            have hgs4 := HG3.out.2.2.1.below hbd HG3.out.2.2.1.lt
            obtain ⟨c0, c1, c2, c3, c4, c5, c6, c7, c8, fz⟩ := log_cells hG4
            have HG4 := Lib.hid (And.intro hG4 (And.intro hgo4 hgs4))
            have HBD := Lib.hid hbd
            clear hwd hG4 hgo4 hgs4 hbd hcv1 hcv2 e2
            go_wp2_with fail
            refine (sum_nil wd).mono ?_
            rintro e w5 ⟨rfl, rfl⟩
            go_wp2_with fail
            obtain ⟨we, hwe⟩ : ∃ we, we = wd.setCell ⟨g, 5, none⟩ (.int .u64 (begin64.toNat : Int)) := ⟨_, rfl⟩
            rw [← hwe]
            have hgw : w.heap.size ≤ g ∧ w.heap.size ≤ go ∧ w.heap.size ≤ gs := by
              have := HB1.out.size
              omega
            have hLe : LogAt we g go gs pd N (logUp D base n 0 (field cb 8 8) (field cb 16 2)) := by
              rw [hwe]
              exact ⟨⟨hN, hn4, hn255, hfit, hep2, hus3, UInt64.toNat_lt _⟩, HG4.out.1.set_ 5 _, HG4.out.2.1.kept (heap_set_far _ _ _ _ _ (HG4.out.2.1.far HG4.out.1)), HG4.out.2.2.kept (heap_set_far _ _ _ _ _ (HG4.out.2.2.far HG4.out.1)), HG.out.2.2.2, (fun x hx => by cases hx), (fun x hx => by cases hx)⟩
            have hbe : Below w.heap.size w we := by
              rw [hwe]; exact (HBW.out.trans (HBD.out.mono HBW.out.size)).setCell hgw.1 _
            have hcd : gc ≠ g := by omega
            have hBce : Blk we gc 113 (cb.map bv).toArray := by
              rw [hwe]; exact (HG3.out.2.2.2.below HBD.out HG3.out.2.2.2.lt).far hcd _
            have HLE := Lib.hid hLe
            have HBE := Lib.hid hbe
            have HBCE := Lib.hid hBce
            have hgcl : gc < we.heap.size := hBce.lt
            have hgl2 : g < we.heap.size := hLe.head.lt
            have hcg := hcd
            clear hwe hLe hbe hBce c0 c1 c2 c3 c4 c5 c6 c7 c8 fz hcd
            go_loopw [12, 78] (fun s12 s78 wr => ∃ (i : Nat) (v12 : Value), v12 = s12 ∧ i ≤ field cb 16 2 ∧ s78 = .int .i64 (i : Int) ∧ Row wr (fun x => we.heap.size ≤ x) 80 128 v12 i (flat (roomOf D base i)) ∧ LogAt wr g go gs pd N (logUp D base n i (field cb 8 8) (field cb 16 2)) ∧ Blk wr gc 113 (cb.map bv).toArray ∧ Below w.heap.size w wr ∧ we.heap.size ≤ wr.heap.size) (fun _ s78 _ => field cb 16 2 - (intOf s78).toNat)
            case atStart => exact ⟨0, _, rfl, Nat.zero_le _, rfl, Row.nil_ _ _ _ _, HLE.out, HBCE.out, HBE.out, Nat.le_refl _⟩
            case round =>
              obtain ⟨i, v12, rfl, hi, rfl, hrow, hL, hBc, hbw, hsz⟩ := hrel
              by_cases hlt : i < field cb 16 2
              · obtain ⟨q, hq⟩ : ∃ q, q = updAll begin64 (roomOf D base i).flatten := ⟨_, rfl⟩
                have hc5 : wr.cell? ⟨g, 5, none⟩ = some (.int .u64 (q.toNat : Int)) := by rw [hq]; exact hL.head.cell 5
                have hfz5 := hL.head.frozen 5
                have hE : D.mayE N ((base : Int) + 1 + (i : Int)) = 0 := by
                  unfold DiskM.mayE; rw [if_neg (by rw [HUP.out]; simp), if_pos (by omega)]
                have hRd := read_any (H.out.free hbw).2.choose_spec.choose_spec.choose_spec ((base : Int) + 1 + (i : Int)) hE
                rw [show ((base : Int) + 1 + (i : Int)).toNat = base + 1 + i by omega] at hRd
                obtain ⟨sc, hsc⟩ : ∃ sc, sc = D.now.getD (base + 1 + i) [] := ⟨_, rfl⟩
                have hscl : sc.length = 128 := by
                  have hj : base + 1 + i < D.now.length := by rw [H.out.ok.nowLen]; omega
                  rw [hsc, List.getD_eq_getElem?_getD, List.getElem?_eq_getElem hj]
                  exact H.out.ok.now _ (List.getElem_mem hj)
                rw [← hsc] at hRd
                have HRD2 := Lib.hid hRd
                have HQ := Lib.hid (And.intro hq (And.intro hsc hscl))
                have HROW := Lib.hid hrow
                have HL := Lib.hid hL
                have HBC5 := Lib.hid hBc
                have HBW5 := Lib.hid hbw
                clear hq hsc hscl hE hRd hrow hL hBc hbw
                go_wp2_with fail
                refine HRD2.out.mono ?_
                rintro e w6 ⟨gb, rfl, hgb, hBb, hb6⟩
                obtain ⟨hq, hsc, hscl⟩ := HQ.out
                obtain ⟨q2, hq2⟩ : ∃ q2, q2 = updAll q sc := ⟨_, rfl⟩
                have hgb2 : gb ≠ g := by have := HL.out.head.lt; omega
                have hc56 : w6.cell? ⟨g, 5, none⟩ = some (.int .u64 (q.toNat : Int)) := (hb6.cell (p := ⟨g, 5, none⟩) HL.out.head.lt).trans hc5
                have hfz56 : w6.frozen? ⟨g, 5, none⟩ = false := (hb6.frozen (p := ⟨g, 5, none⟩) HL.out.head.lt).trans hfz5
                have hSb := hBb.slc (sz := 1) (n := 128) (c := 128) (by simp [hscl]) (Nat.le_refl _) (by decide)
                rw [Nat.mul_one, List.take_of_length_le (by simp [hscl])] at hSb
                have hupd := update_any q (some ⟨gb, 0, none⟩) 128 128 _ sc w6 hSb
                rw [← hq2] at hupd
                obtain ⟨w7, hw7⟩ : ∃ w7, w7 = w6.setCell ⟨g, 5, none⟩ (.int .u64 (q2.toNat : Int)) := ⟨_, rfl⟩
                have hBb7 : Blk w7 gb 113 (sc.map bv).toArray := by rw [hw7]; exact hBb.far hgb2 _
                have hld7 := LoadS.of_blk (P := Try.prog) (o := 0) (n := 128) hBb7 u_wsector rfl i_wsector (by simp [hscl])
                rw [show (sc.map bv).toArray.extract 0 (0 + 128) = (sc.map bv).toArray by apply Array.ext'; simp only [Array.toList_extract, List.extract_eq_take_drop, List.drop_zero]; rw [List.take_of_length_le (by simp [hscl])]] at hld7
                have hli := fun W : World => list_wsector (cs := (sc.map bv).toArray) (by simp [hscl]) W
                obtain ⟨w8, hw8⟩ : ∃ w8, w8 = w7.alloc (.cells (sc.map bv).toArray 80) := ⟨_, rfl⟩
                have hrow8 : Row w8 (fun x => we.heap.size ≤ x) 80 128 v12 i (flat (roomOf D base i)) := by
                  refine HROW.out.kept (fun x hx => ?_) HROW.out.foot
                  have hxl := HROW.out.lt x hx
                  have hxw := HROW.out.foot x hx
                  rw [hw8, Below.heap_alloc w7 _ x (by rw [hw7]; simp only [World.setCell, Array.size_modify]; have := hb6.size; omega), hw7, heap_set_far _ _ _ _ _ (by omega)]
                  exact hb6.block x hxl
                have hS8 : Slc w8 (w7.heap.size + 1) 128 (some ⟨w7.heap.size, 0, none⟩) 1 1 (sc.map bv) := by
                  rw [hw8]; have := slc_new w7 80 (0, 0) (sc.map bv).toArray (sz := 128) (n := 1) (c := 1) (by simp [hscl]) (Nat.le_refl _) (by decide); simpa using this
                obtain ⟨A9, c9, w9, happ, hown9, hg9, hat9⟩ := append_wsector w8 v12 i _ hrow8.own sc hS8 (by omega)
                have hL7 : LogAt w7 g go gs pd N (logUp D base n (i + 1) (field cb 8 8) (field cb 16 2)) := by
                  have h6 := HL.out.free hb6
                  refine h6.reHead (fun x hx => by rw [hw7]; exact heap_set_far _ _ _ _ _ hx) ⟨hN, hn4, hn255, hfit, hep2, hus3, UInt64.toNat_lt _⟩ rfl rfl rfl rfl ?_
                  rw [hw7]
                  have := h6.head.set_ 5 (.int .u64 (q2.toNat : Int))
                  rw [hq2, hq, hsc, ← sum_up] at this
                  rw [hq2, hq, hsc, ← sum_up]
                  exact this
                have hL8 : LogAt w8 g go gs pd N (logUp D base n (i + 1) (field cb 8 8) (field cb 16 2)) := by rw [hw8]; exact hL7.free ((Below.refl _ _).alloc (Nat.le_refl _) _)
                have hgmax : ∀ k, Foot g go gs k → k < we.heap.size := HLE.out.lt
                have h89 : ∀ k, k < we.heap.size → w9.heap[k]? = w8.heap[k]? := fun k hk => by
                  refine hg9.block k ?_ (fun e => ?_)
                  · have h1 : w6.heap.size ≤ w8.heap.size := by rw [hw8, hw7]; simp [World.setCell]
                    have := hb6.size; omega
                  · have := hrow8.foot k e.symm; omega
                have hL9 : LogAt w9 g go gs pd N (logUp D base n (i + 1) (field cb 8 8) (field cb 16 2)) :=
                  hL8.reHead' (fun k hk => h89 k (hgmax k hk))
                have hBc9 : Blk w9 gc 113 (cb.map bv).toArray := by
                  refine (h89 gc hgcl).trans ?_
                  rw [hw8]; refine Blk.alloc ?_ _; rw [hw7]
                  exact (HBC5.out.below hb6 (by omega)).far hcg _
                have hb8 : Below w.heap.size w w8 := by
                  rw [hw8, hw7]
                  exact (((HBW5.out.trans (hb6.mono HBW5.out.size)).setCell hgw.1 _).alloc (by simp only [World.setCell, Array.size_modify]; have := hb6.size; have := HBW5.out.size; omega) _)
                have hb9 : Below w.heap.size w w9 := hb8.grown hg9 hb8.size (fun k hk => by have := hrow8.foot k hk; have := HBE.out.size; omega)
                have hrow9 : Row w9 (fun x => we.heap.size ≤ x) 80 128 (.slice A9 (i + 1) c9) (i + 1) (flat (roomOf D base (i + 1))) := by
                  refine ⟨by rw [roomOf_succ, ← hsc]; exact hown9, fun k hk => ?_⟩
                  rcases hat9 with h9 | h9
                  · exact hrow8.foot k (by rw [← h9]; exact hk)
                  · rw [h9] at hk; injection hk with hk
                    have h1 : w6.heap.size ≤ w8.heap.size := by rw [hw8, hw7]; simp [World.setCell]
                    have := hb6.size; omega
                have hsz9 : we.heap.size ≤ w9.heap.size := by
                  have h1 : w6.heap.size ≤ w8.heap.size := by rw [hw8, hw7]; simp [World.setCell]
                  have := hb6.size; have := hg9.size; omega
                have HUPD := Lib.hid hupd
                have HFIN := Lib.hid (And.intro hrow9 (And.intro hL9 (And.intro hBc9 hb9)))
                have hz7 : w7.heap.size = w6.heap.size := by rw [hw7]; simp [World.setCell]
                rw [hw8, hz7, hw7] at happ
                rw [hw7] at hld7
                have HW7 := Lib.hid hw7
                clear hz7
                clear hq hsc hscl hq2 hgb2 hSb hupd hBb7 hw8 hrow8 hS8 hown9 hg9 hat9 hL7 hL8 hgmax h89 hL9 hBc9 hb8 hb9 hrow9 hBb hgb hc5 hfz5 hw7 hb6
                go_wp2_with fail
                refine HUPD.out.mono ?_
                rintro e w10 ⟨rfl, rfl⟩
                go_wp2_with fail
                exact ⟨⟨i + 1, _, rfl, by omega, by go_num, HFIN.out.1, HFIN.out.2.1, HFIN.out.2.2.1, HFIN.out.2.2.2, hsz9⟩, by simp [intOf]; omega⟩
              · obtain rfl : i = field cb 16 2 := by omega
                obtain ⟨q, hq⟩ : ∃ q, q = updAll begin64 (roomOf D base (field cb 16 2)).flatten := ⟨_, rfl⟩
                obtain ⟨c0, c1, c2, c3, c4, c5, c6, c7, c8, fz⟩ := log_cells hL.head
                have hc5 : wr.cell? ⟨g, 5, none⟩ = some (.int .u64 (q.toNat : Int)) := by rw [hq]; exact hL.head.cell 5
                clear c5
                have hlg : ∀ o, logOf D base n (field cb 16 2) o = { logUp D base n (field cb 16 2) (field cb 8 8) (field cb 16 2) with over := o } := fun o => by
                  unfold logOf logUp; rw [← HF.out.1]
                have hgetW := fun m : Nat => get_field (hBc.drewN m) (lo := 18) (n := 8) (c := 110) (by rw [HF.out.2]; decide) (by decide) (by decide) (by decide)
                have HGW := Lib.hid (fun m : Nat => (hgetW m).mono fun _ _ h => (⟨h.1, h.2.symm⟩ : _ ∧ _))
                have HROW := Lib.hid hrow
                have HL := Lib.hid hL
                have HBW5 := Lib.hid hbw
                have HQ := Lib.hid hq
                have HLG := Lib.hid hlg
                clear hgetW hrow hL hbw hq hlg hBc
                by_cases hs : q.toNat = field cb 18 8
                · have hno : ¬ (cb ≠ ctl (field cb 8 8) (field cb 16 2) (field cb 18 8) ∨ n - 1 < field cb 16 2) := by
                    rintro (h | h)
                    · exact h (by rw [← HFF.out]; exact HCF.out)
                    · exact HUS.out h
                  obtain ⟨r, hr⟩ : ∃ r, r = rowsM N (logUp D base n (field cb 16 2) (field cb 8 8) (field cb 16 2)) (field cb 16 2) (roomOf D base (field cb 16 2)) [] := ⟨_, rfl⟩
                  have hl0 : logOf D base n (field cb 16 2) [] = logUp D base n (field cb 16 2) (field cb 8 8) (field cb 16 2) := (HLG.out []).trans rfl
                  have hRR : R = openTail (logUp D base n (field cb 16 2) (field cb 8 8) (field cb 16 2)) r := by
                    rw [HR3.out, if_neg hno, if_neg (by rw [hl0]; intro h; apply h; exact (congrArg UInt64.toNat HQ.out).symm.trans hs), hr, hl0]
                    cases rowsM N (logUp D base n (field cb 16 2) (field cb 8 8) (field cb 16 2)) (field cb 16 2) (roomOf D base (field cb 16 2)) [] with
                    | none => rfl
                    | some o => show ((0 : Int), some (logOf D base n (field cb 16 2) o)) = _; rw [HLG.out o]; rfl
                  obtain ⟨A12, c12, rfl, hs12⟩ := HROW.out.slc
                  have hwal : Wal wr.drew F g go gs pd N (logUp D base n (field cb 16 2) (field cb 8 8) (field cb 16 2)) D :=
                    ⟨HL.out.free (Below.refl _ wr).drew, H.out.free (HBW5.out.drew), fun k hk hf => by
                      have h1 := H.out.1 k hf
                      rcases hk with rfl | rfl | rfl <;> omega⟩
                  have hrows := rows_any hwal (hs12.drew) (fun s hs => by
                      obtain ⟨j, hj, rfl⟩ := List.mem_map.1 hs
                      have hj2 := List.mem_range.1 hj
                      have hjl : base + 1 + j < D.now.length := by rw [H.out.ok.nowLen]; omega
                      rw [List.getD_eq_getElem?_getD, List.getElem?_eq_getElem hjl]
                      exact H.out.ok.now _ (List.getElem_mem hjl)) (by simp [roomOf]) (by omega) (fun a ha hb => by
                      have h1 := HROW.out.foot a.block (by rw [ha]; rfl)
                      rcases hb with hb | hb
                      · have h2 := H.out.1 _ hb; have := HBE.out.size; omega
                      · have := HLE.out.lt _ hb; omega)
                  rw [show (logUp D base n (field cb 16 2) (field cb 8 8) (field cb 16 2)).over = [] from rfl, ← hr] at hrows
                  have HROWS := Lib.hid hrows
                  have HRR := Lib.hid hRR
                  have HGD := Lib.hid (HGW.out 1)
                  have e2 : (q.toNat != field cb 18 8) = false := by simpa using hs
                  have e3 : (q.toNat == field cb 18 8) = true := by simpa using hs
                  clear hno hr hl0 hRR hs12 hwal hrows
                  go_upto_region 21 with (fail)
                  refine region_tail 11 (by kernel_rfl) (by kernel_rfl) ?_
                  simp only [List.take_succ_cons, List.take_zero, List.drop_succ_cons, List.drop_zero]
                  obtain ⟨wz, hwz⟩ : ∃ wz, wz = wr.drew := ⟨_, rfl⟩
                  have HGZ := HGD.out
                  have HRZ := HROWS.out
                  rw [show wr.drewN 1 = wr.drew from rfl, ← hwz] at HGZ
                  rw [← hwz] at HRZ
                  have hc10 : wz.cell? ⟨g, 5, none⟩ = some (.int .u64 (q.toNat : Int)) := by rw [hwz]; exact hc5
                  have hbz : Below w.heap.size w wz := by rw [hwz]; exact HBW5.out.drew
                  rw [← hwz]
                  have HFT := Lib.hid (show ∀ k, Foot g go gs k → w.heap.size ≤ k from by rintro k (rfl | rfl | rfl) <;> omega)
                  have HGZ := Lib.hid HGZ
                  have HRZ := Lib.hid HRZ
                  have HBZ := Lib.hid hbz
                  clear hwz hc5 hbz HGD HROWS c0 c1 c2 c3 c4 c6 c7 c8 fz
                  still_step
                  still_step
                  still_step
                  still_step
                  still_step
                  still_step
                  still_call HGZ.out
                  still_step
                  still_step
                  still_step
                  still_step
                  refine wpStill_nil ?_
                  clear hs
                  cases r with
                  | none =>
                    go_wp2_with fail
                    refine HRZ.out.mono ?_
                    rintro e w11 hend
                    obtain ⟨rfl, o, hws⟩ := hend.2 rfl
                    have HWS := Lib.hid hws
                    clear hend hws
                    go_wp2_with fail
                    go_ret2
                    rw [show R = (46, none) from HRR.out]
                    exact OpenEnd.no (HBZ.out.trans (HWS.out.step.below HBZ.out.size HFT.out))
                  | some o =>
                    go_wp2_with fail
                    refine HRZ.out.mono ?_
                    rintro e w11 hend
                    obtain ⟨rfl, hws⟩ := hend.1 o rfl
                    have HWS := Lib.hid hws
                    clear hend hws
                    go_wp2_with fail
                    go_ret2
                    rw [show R = (0, some { logUp D base n (field cb 16 2) (field cb 8 8) (field cb 16 2) with over := o }) from HRR.out]
                    exact ⟨HBZ.out.trans (HWS.out.step.below HBZ.out.size HFT.out), (fun h => by cases h), fun L hL => by injection hL with hL; subst hL; exact ⟨g, go, gs, rfl, HWS.out.wal.log, HFT.out⟩⟩
                · have hRR : R = (46, none) := by
                    have hno : ¬ (cb ≠ ctl (field cb 8 8) (field cb 16 2) (field cb 18 8) ∨ n - 1 < field cb 16 2) := by
                      rintro (h | h)
                      · exact h (by rw [← HFF.out]; exact HCF.out)
                      · exact HUS.out h
                    rw [HR3.out, if_neg hno, if_pos (by rw [HLG.out]; intro h; apply hs; rw [HQ.out]; exact h)]
                  have HRR := Lib.hid hRR
                  have e1 : ((q.toNat : Int) != (field cb 18 8 : Int)) = true := by simp; omega
                  have e2 : (q.toNat != field cb 18 8) = true := by simpa using hs
                  have e3 : (q.toNat == field cb 18 8) = false := by simpa using hs
                  clear hRR hs
                  go_upto_region 21 with (fail)
                  go_quiet ((go_at_call 63; exact Calls.quiet_of_same (HGW.out _)))
                  go_wp2
                  go_ret2
                  rw [HRR.out]
                  exact OpenEnd.no (HBW5.out.trans (below_drewN _ wr _))
        · have hRR : R = (46, none) := by rw [HR3.out, if_pos (.inl (by rw [← HFF.out]; exact hcf))]
          have HRR := Lib.hid hRR
          obtain ⟨s1, hs1⟩ : ∃ s1 : ByteArray, s1 = ⟨cb.toArray⟩ := ⟨_, rfl⟩
          obtain ⟨s2, hs2⟩ : ∃ s2 : ByteArray, s2 = ⟨f.toArray⟩ := ⟨_, rfl⟩
          have hs12 : s1.toList ≠ s2.toList := by
            rw [hs1, hs2, ByteArray.toList_eq, ByteArray.toList_eq]; simpa using hcf
          have e1 : (s1.toList == s2.toList) = false := by simpa using hs12
          rw [← hs1] at hcv1
          rw [← hs2] at hcv2
          clear hRR hcf hs1 hs2
          go_upto_region 8 with (fail)
          go_quiet (fail)
          go_wp2
          go_ret2
          rw [HRR.out]
          exact OpenEnd.no (HBW.out.trans (below_drewN _ wb _))
end
end Go.Proofs.Ytmhgahkainmbkaa
