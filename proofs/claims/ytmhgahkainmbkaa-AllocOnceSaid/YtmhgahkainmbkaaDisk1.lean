/- The walks of the disk's small methods. -/
import Derived.Test.YtmhgahkainmbkaaDiskM
namespace Go.Proofs.Ytmhgahkainmbkaa
open Go.RowKit
set_option linter.unusedVariables false
set_option linter.unusedSimpArgs false

section
variable {w : World} {F : Nat → Prop} {p N : Nat} {D : DiskM} {vs vn vl : Value}

theorem len_any (h : DiskAt w F p N D vs vn vl) :
    Calls Try.prog 69 #[.pointer (some ⟨p, 0, none⟩)] w fun e w' => e = .returned (.int .i64 (N : Int)) ∧ w = w' := by
  obtain ⟨c0, c1, c2, c3, c4, c5, c6, c7, fz⟩ := head_cells h.head
  obtain ⟨gn, cap, cur, rfl, _, _, _, hnc, _⟩ := h.now.form h.ok.pos
  clear h
  go_enter Try.func69, Try.ntmps69
  go_wp2
  go_ret
  exact ⟨rfl, rfl⟩

/-- Why a sector can't be reached. -/
def DiskM.mayE (D : DiskM) (N : Nat) (i : Int) : Int := if D.up = false then 40 else if 0 ≤ i ∧ i < N then 0 else 43

theorem may_any (h : DiskAt w F p N D vs vn vl) (i : Int) :
    Calls Try.prog 70 #[.pointer (some ⟨p, 0, none⟩), .int .i64 i] w fun e w' => e = .returned (.int .i64 (D.mayE N i)) ∧ w = w' := by
  obtain ⟨c0, c1, c2, c3, c4, c5, c6, c7, fz⟩ := head_cells h.head
  obtain ⟨gn, cap, cur, rfl, _, _, _, hnc, _⟩ := h.now.form h.ok.pos
  clear h
  cases hu : D.up with
  | false =>
    have hE : D.mayE N i = 40 := by unfold DiskM.mayE; rw [if_pos hu]
    rw [hu] at c3
    rw [hE]
    clear hE hu
    go_enter Try.func70, Try.ntmps70
    go_wp2
    go_ret
    exact ⟨rfl, rfl⟩
  | true =>
    rw [hu] at c3
    by_cases h0 : i < 0
    · have hE : D.mayE N i = 43 := by unfold DiskM.mayE; rw [if_neg (by simp [hu]), if_neg (by omega)]
      rw [hE]
      clear hE hu
      go_enter Try.func70, Try.ntmps70
      go_wp2
      go_ret
      exact ⟨rfl, rfl⟩
    · by_cases h1 : i < N
      · have hE : D.mayE N i = 0 := by unfold DiskM.mayE; rw [if_neg (by simp [hu]), if_pos (by omega)]
        rw [hE]
        clear hE hu
        go_enter Try.func70, Try.ntmps70
        go_wp2
        go_ret
        exact ⟨rfl, rfl⟩
      · have hE : D.mayE N i = 43 := by unfold DiskM.mayE; rw [if_neg (by simp [hu]), if_neg (by omega)]
        rw [hE]
        clear hE hu
        go_enter Try.func70, Try.ntmps70
        go_wp2
        go_ret
        exact ⟨rfl, rfl⟩

end

theorem u_sector : Try.prog.underlying 113 = some (.array 128 5) := by kernel_rfl
theorem i_sector : (Try.prog.info? 113).map (·.size) = some 128 := by kernel_rfl
theorem i_loose : (Try.prog.info? 119).map (·.size) = some 129 := by kernel_rfl

theorem load_sector_mark (x : Value) : Instr.loadAt 113 x = LoadS 113 x := rfl
theorem store_sector_mark (x v : Value) : Instr.storeAt 113 x v = StoreS 113 x v := rfl
theorem alloc_sector_mark : Instr.alloc 113 true (.tuple #[]) = AllocS 113 := rfl
theorem alloc_sector (w : World) : Sem.run Try.prog (AllocS 113) w = .ok (.pointer (some ⟨w.heap.size, 0, none⟩)) (w.alloc (.cells (zbytes 128) 113)) := by kernel_rfl

section
attribute [local go_sem ↓] load_sector_mark store_sector_mark alloc_sector_mark
attribute [local go_sem] alloc_sector
variable {w : World} {F : Nat → Prop} {p N : Nat} {D : DiskM} {vs vn vl : Value}

set_option maxRecDepth 100000 in
theorem read_any (h : DiskAt w F p N D vs vn vl) (i : Int) (hi : D.mayE N i = 0) :
    Calls Try.prog 37 #[.pointer (some ⟨p, 0, none⟩), .int .i64 i] w fun e w' => ∃ g, e = .returned (.tuple #[.slice (some ⟨g, 0, none⟩) 128 128, .int .i64 0]) ∧ w.heap.size ≤ g ∧ Blk w' g 113 ((D.now.getD i.toNat []).map bv).toArray ∧ Below w.heap.size w w' := by
  obtain ⟨c0, c1, c2, c3, c4, c5, c6, c7, fz⟩ := head_cells h.head
  obtain ⟨gn, cap, cur, rfl, _, _, hB, hnc, hcm, hcs, hcur⟩ := h.now.form h.ok.pos
  have hin : 0 ≤ i ∧ i < N := by
    unfold DiskM.mayE at hi
    split at hi
    · omega
    · split at hi
      · assumption
      · omega
  obtain ⟨j, rfl⟩ : ∃ j : Nat, i = (j : Int) := ⟨i.toNat, by omega⟩
  have hj : j < N := by omega
  have hle : j * 128 + 128 ≤ cur.size := by rw [hcs]; omega
  have hld := LoadS.same (P := Try.prog) hB u_sector rfl i_sector hle
  have hM := may_any h (j : Int)
  rw [hi] at hM
  have hval : cur.extract (j * 128) (j * 128 + 128) = ((D.now.getD j []).map bv).toArray := by
    rw [extract_of_take hcur (by omega), flat_at h.ok.now j (by rw [h.ok.nowLen]; exact hj)]
    simp [List.getD, List.getElem?_eq_getElem (show j < D.now.length by rw [h.ok.nowLen]; exact hj)]
  have hlen : ((D.now.getD j []).map bv).toArray.size = 128 := by
    have hjn : j < D.now.length := by rw [h.ok.nowLen]; exact hj
    simp [List.getD, List.getElem?_eq_getElem hjn]
    exact h.ok.now _ (List.getElem_mem hjn)
  have hst := fun W : World => StoreS.new (P := Try.prog) (ty := 113) (t := 113) (c := zbytes 128) (x := ((D.now.getD j []).map bv).toArray) (by rw [hlen]; exact i_sector) (by rw [hlen, zbytes_size]) (fun v hv => bvs_one (D.now.getD j []) v (by simpa using hv)) W
  rw [hval] at hld
  generalize hx : ((D.now.getD j []).map bv).toArray = x at *
  have HX := Lib.hid hx
  have HM := Lib.hid hM
  clear h hin hi hM hx hval hlen hcur hcs hB
  go_enter Try.func37, Try.ntmps37
  go_wp2_with fail
  refine HM.out.mono ?_
  rintro e w' ⟨rfl, rfl⟩
  go_wp2_with fail
  go_ret2
  exact ⟨_, rfl, Nat.le_refl _, by rw [Int.toNat_natCast, HX.out]; exact Blk.new _ _ _, (Below.refl _ _).alloc (Nat.le_refl _) _⟩

theorem readE_any (h : DiskAt w F p N D vs vn vl) (i : Int) (hi : D.mayE N i ≠ 0) :
    Calls Try.prog 37 #[.pointer (some ⟨p, 0, none⟩), .int .i64 i] w fun e w' => e = .returned (.tuple #[.slice none 0 0, .int .i64 (D.mayE N i)]) ∧ w = w' := by
  have hM := may_any h i
  generalize D.mayE N i = E at *
  have HM := Lib.hid hM
  have hne : (E != 0) = true := by simpa using hi
  clear h hM
  go_enter Try.func37, Try.ntmps37
  go_wp2_with fail
  refine HM.out.mono ?_
  rintro e w' ⟨rfl, rfl⟩
  go_wp2_with fail
  go_ret2
  exact ⟨rfl, rfl⟩
end

/-! ### Power -/
/-- Does a loss of power keep the i-th loose write? -/
def keeps (k : UInt64) (i : Nat) : Bool := k.toNat.testBit (i % 64)
def crashed (k : UInt64) (l : List (Nat × List UInt8)) (S : List (List UInt8)) : List (List UInt8) :=
  l.zipIdx.foldl (fun S x => if keeps k x.2 then S.set x.1.1 x.1.2 else S) S
theorem crashed_take (k : UInt64) (l : List (Nat × List UInt8)) (S : List (List UInt8)) (n : Nat) (hn : n < l.length) :
    crashed k (l.take (n + 1)) S = if keeps k n then (crashed k (l.take n) S).set l[n].1 l[n].2 else crashed k (l.take n) S := by
  unfold crashed
  rw [List.take_succ_eq_append_getElem hn, List.zipIdx_append, List.foldl_append]
  simp [Nat.min_eq_left (Nat.le_of_lt hn)]
theorem crashed_length (k : UInt64) (l : List (Nat × List UInt8)) (S : List (List UInt8)) : (crashed k l S).length = S.length := by
  unfold crashed
  generalize l.zipIdx = m
  induction m generalizing S with
  | nil => rfl
  | cons x m ih => simp only [List.foldl_cons]; rw [ih]; split <;> simp
theorem crashed_sectors {N : Nat} (k : UInt64) {l : List (Nat × List UInt8)} {S : List (List UInt8)} (hl : Looses N l) (h : Sectors S) : Sectors (crashed k l S) := by
  unfold crashed
  have hl2 : ∀ x ∈ l.zipIdx, x.1.2.length = 128 := fun x hx => (hl x.1 (List.fst_mem_of_mem_zipIdx hx)).2
  generalize l.zipIdx = m at *
  induction m generalizing S with
  | nil => exact h
  | cons x m ih =>
    simp only [List.foldl_cons]
    refine ih ?_ (fun y hy => hl2 y (List.mem_cons_of_mem _ hy))
    split
    · exact h.set _ (hl2 x List.mem_cons_self)
    · exact h

/-- A loss of power. -/
def DiskM.crash (D : DiskM) (k : UInt64) : DiskM :=
  if D.up = false then D else { D with safe := crashed k D.loose D.safe, now := crashed k D.loose D.safe, loose := [], up := false, armed := false }

theorem DiskM.Ok.crash {D : DiskM} {N : Nat} (h : D.Ok N) (k : UInt64) : (D.crash k).Ok N := by
  unfold DiskM.crash
  split
  · exact h
  · exact ⟨h.pos, h.most, by simp only; rw [crashed_length]; exact h.safeLen, by simp only; rw [crashed_length]; exact h.safeLen, crashed_sectors k h.loose h.safe, crashed_sectors k h.loose h.safe, fun x hx => by cases hx⟩
end Go.Proofs.Ytmhgahkainmbkaa
