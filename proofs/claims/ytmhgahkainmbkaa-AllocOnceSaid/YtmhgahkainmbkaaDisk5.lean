/- The walk of the disk's Write. -/
import Derived.Test.YtmhgahkainmbkaaDisk4
namespace Go.Proofs.Ytmhgahkainmbkaa
open Go.RowKit
set_option linter.unusedVariables false
set_option linter.unusedSimpArgs false

def DiskM.writeE (D : DiskM) (N : Nat) (i : Int) (l : List UInt8) : Int :=
  if D.mayE N i ≠ 0 then D.mayE N i else if l.length ≠ 128 then 44 else if D.fails then 41 else 0
def DiskM.write (D : DiskM) (N : Nat) (i : Int) (l : List UInt8) : DiskM :=
  if D.mayE N i ≠ 0 then D else if l.length ≠ 128 then D else if D.fails then D.crash D.keep else { D.deed with now := D.now.set i.toNat l, loose := D.loose ++ [(i.toNat, l)] }

theorem build_loose_mark (parts : Array (Nat × Value)) : Instr.build 119 parts = BuildS 119 parts := rfl
theorem list_loose_mark (n : Nat) (parts : Array (Nat × Value)) : Instr.buildSlice 110 n parts = ListS 110 n parts := rfl
def zlooseAt (i : Int) : Array Value := (Value.int .i64 i :: List.replicate 128 (.int .u8 0)).toArray
theorem build_loose (i : Int) (w : World) : Sem.run Try.prog (BuildS 119 #[(0, .int .i64 i)]) w = .ok (.agg (zlooseAt i)) w := by kernel_rfl
theorem loose_info : (Try.prog.info? 119).map (fun i => (i.zero.map (·.cells.size), i.size, i.bytes)) = some (some 129, 129, 136) := by kernel_rfl
theorem list_loose {cs : Array Value} (hc : cs.size = 129) (w : World) : Sem.run Try.prog (ListS 110 1 #[(0, .agg cs)]) w = .ok (.slice (some ⟨w.heap.size, 0, none⟩) 1 1) (w.alloc (.cells cs 119)) := by
  cases hi : Try.prog.info? 119 with
  | none => have := loose_info; rw [hi] at this; cases this
  | some i =>
    have h := loose_info
    rw [hi] at h
    simp only [Option.map_some, Option.some.injEq, Prod.mk.injEq] at h
    cases hz : i.zero with
    | none => rw [hz] at h; simp at h
    | some z =>
      rw [hz] at h
      simp only [Option.map_some, Option.some.injEq] at h
      exact ListS.one Try.underlying110 hi hz h.2.1 h.1 (by decide) (by decide) hc w

/-- append of one loose write. -/
theorem append_loose (w : World) (v : Value) (l : List (Nat × List UInt8)) {N : Nat} (hl : Looses N l) (hown : w.ownsRow 0 119 129 v l.length (flatLoose l)) (x : Nat × List UInt8) (hx : x.1 < N ∧ x.2.length = 128)
    {B : Nat} {A : Option Addr} (hr : Slc w B 129 A 1 1 (looseCells x)) (hb : l.length ≤ 1000000) :
    ∃ A' c' w', (AppendS #[110, 110] 110 #[v, .slice A 1 1]).run Try.prog w = .ok (.slice A' (l.length + 1) c') w' ∧ w'.ownsRow 0 119 129 (.slice A' (l.length + 1) c') (l.length + 1) (flatLoose (l ++ [x])) ∧ w.grownBy w' v.ownBlock ∧
      ((Value.slice A' (l.length + 1) c').ownBlock = v.ownBlock ∨ (Value.slice A' (l.length + 1) c').ownBlock = some w.heap.size) := by
  cases hi : Try.prog.info? 119 with
  | none => have := loose_info; rw [hi] at this; cases this
  | some i =>
    have h := loose_info
    rw [hi] at h
    simp only [Option.map_some, Option.some.injEq, Prod.mk.injEq] at h
    cases hz : i.zero with
    | none => rw [hz] at h; simp at h
    | some z =>
      rw [hz] at h
      simp only [Option.map_some, Option.some.injEq] at h
      have := append_slc (P := Try.prog) w 0 110 110 119 i z 129 136 Try.underlying110 hi hz h.2.1 h.2.2 h.1 (by decide) v l.length _ hown B A 1 1 _ hr (looseCells_one x) (by unfold maxLen; omega) (by omega) (Nat.zero_le _)
      rw [flatLoose_append, show flatLoose [x] = looseCells x by simp [flatLoose]]
      exact this

section
attribute [local go_sem ↓] load_sector_mark store_sector_mark alloc_sector_mark load_loose_mark store_loose_mark alloc_loose_mark copyS_mark appendS_mark build_loose_mark list_loose_mark
attribute [local go_sem] alloc_sector alloc_loose build_loose
variable {w : World} {F : Nat → Prop} {p N : Nat} {D : DiskM}

set_option maxRecDepth 100000 in
set_option maxHeartbeats 1000000 in
theorem write_any (h : Disk w F p N D) (i : Int) {A : Option Addr} {n c B : Nat} {l : List UInt8} (hS : Slc w B 1 A n c (l.map bv)) (hsep : ∀ a, A = some a → ¬ F a.block) (hroom : D.loose.length ≤ 1000000) :
    Calls Try.prog 47 #[.pointer (some ⟨p, 0, none⟩), .int .i64 i, .slice A n c] w fun e w' => e = .returned (.int .i64 (D.writeE N i l)) ∧ ∃ F', Step w w' F F' ∧ Disk w' F' p N (D.write N i l) := by
  have hF := fails_any h
  have HBD := Lib.hid h.1
  have HH := Lib.hid h
  have hM : Calls Try.prog 70 #[.pointer (some ⟨p, 0, none⟩), .int .i64 i] w fun e w' => e = .returned (.int .i64 (D.mayE N i)) ∧ w = w' := by
    obtain ⟨_, vs, vn, vl, h⟩ := h; exact may_any h i
  have hlen : l.length = n := by have := hS.len; simpa using this
  by_cases hme : D.mayE N i = 0
  · have hin : 0 ≤ i ∧ i < N := by
      unfold DiskM.mayE at hme
      split at hme
      · omega
      · split at hme
        · assumption
        · omega
    obtain ⟨j, rfl⟩ : ∃ j : Nat, i = (j : Int) := ⟨i.toNat, by omega⟩
    rw [hme] at hM
    have HM := Lib.hid hM
    have HSS := Lib.hid hS
    have HSEP := Lib.hid hsep
    clear hM
    by_cases h128 : l.length = 128
    · have hn : n = 128 := by omega
      subst hn
      cases hf : D.fails with
      | true =>
        have hE : D.writeE N (j : Int) l = 41 := by unfold DiskM.writeE; rw [if_neg (by simp [hme]), if_neg (by simp [h128]), if_pos hf]
        have hW : D.write N (j : Int) l = D.crash D.keep := by unfold DiskM.write; rw [if_neg (by simp [hme]), if_neg (by simp [h128]), if_pos hf]
        have hAF : D.afterFails = D.crash D.keep := by unfold DiskM.afterFails; rw [if_pos hf]
        rw [hE, hW]
        rw [hf, hAF] at hF
        have HF := Lib.hid hF
        clear hE hW hAF hF hf h hlen h128 hme hin hS hsep
        go_enter Try.func47, Try.ntmps47
        go_wp2_with fail
        refine HM.out.mono ?_
        rintro e w' ⟨rfl, rfl⟩
        go_wp2_with fail
        refine HF.out.mono ?_
        rintro e w' ⟨rfl, hSt, hD⟩
        go_wp2_with fail
        go_ret
        exact ⟨rfl, F, hSt, hD⟩
      | false =>
        obtain ⟨D1, hD1e⟩ : ∃ D1, D1 = D.deed := ⟨_, rfl⟩
        have hE : D.writeE N (j : Int) l = 0 := by unfold DiskM.writeE; rw [if_neg (by simp [hme]), if_neg (by simp [h128]), if_neg (by simp [hf])]
        have hW : D.write N (j : Int) l = { D1 with now := D1.now.set j l, loose := D1.loose ++ [(j, l)] } := by
          subst hD1e; unfold DiskM.write; rw [if_neg (by simp [hme]), if_neg (by simp [h128]), if_neg (by simp [hf])]; rfl
        have hAF : D.afterFails = D1 := by subst hD1e; unfold DiskM.afterFails; rw [if_neg (by simp [hf])]
        rw [hE, hW]
        rw [hf, hAF] at hF
        have hroom1 : D1.loose.length ≤ 1000000 := by subst hD1e; exact hroom
        have HF := Lib.hid hF
        have HLEN := Lib.hid h128
        clear hE hW hAF hF hf h hlen h128 hme hS hsep hD1e hroom
        have hj : j < N := by omega
        clear hin
        go_enter Try.func47, Try.ntmps47
        go_wp2_with fail
        refine HM.out.mono ?_
        rintro e w' ⟨rfl, rfl⟩
        go_wp2_with fail
        refine HF.out.mono ?_
        rintro e w1 ⟨rfl, hSt, _, vs, vn, vl, hD⟩
        have hS1 := HSS.out.apart hSt HSEP.out
        -- the loose write, in a variable of its own
        have hz : (zlooseAt (j : Int)).size = 129 := by simp [zlooseAt]
        have hst := fun W : World => StoreS.new (P := Try.prog) (ty := 119) (t := 119) (c := zloose) (x := zlooseAt (j : Int)) (by rw [hz]; exact i_loose) (by rw [hz, zloose_size]) (fun v hv => by
          simp only [zlooseAt, List.mem_cons, List.mem_replicate] at hv
          rcases hv with rfl | ⟨_, rfl⟩ <;> rfl) W
        have hj64 : (j : Int) ≤ 1024 := by have := hD.ok.most; omega
        obtain ⟨b, off, rfl, hbB, hcell⟩ := hS1.at_ (by omega)
        have hbl : b < w1.heap.size := World.block_lt_of_cell? w1 _ (hcell 0 (bv (l[0]'(by have := HLEN.out; omega))) (by simp [List.getElem?_map, List.getElem?_eq_getElem (show 0 < l.length by have := HLEN.out; omega)]))
        have hcp := CopyS.of_blk (P := Try.prog) (w := w1.alloc (.cells (zlooseAt (j : Int)) 119)) (dT := 39) (sT := 39) (ty := 3) (elem := 5) (sz := 1) (g := w1.heap.size) (o := 1) (dLen := 128) (dCap := 128) (sLen := 128) (sCap := c) (a := ⟨b, off, none⟩) (cs := l.map bv)
          Try.underlying39 (by kernel_rfl) (Blk.new _ _ _) (by simp [HLEN.out]) (fun k v hk => by rw [addr_of_add, cells_alloc hbl]; exact hcell k v hk) (by rw [hz]; simp [HLEN.out]) (fun v hv => bvs_one l v hv)
        have hrow1 : (zlooseAt (j : Int)).toList.take 1 ++ l.map bv ++ (zlooseAt (j : Int)).toList.drop (1 + (l.map bv).length) = looseCells (j, l) := by
          rw [List.drop_of_length_le (by simp [zlooseAt, HLEN.out])]
          simp [zlooseAt, looseCells]
        rw [hrow1, World.setRow_alloc_new] at hcp
        have hx : (j, l).1 < N ∧ (j, l).2.length = 128 := ⟨hj, HLEN.out⟩
        have hlen129 : (looseCells (j, l)).toArray.size = 129 := by simpa using looseCells_length hx
        -- the sector
        obtain ⟨gn, capn, curn, rfl, hFn, hgn, hBn, hncn, hcmn, hcsn, hcurn⟩ := hD.now.form hD.ok.pos
        have hl63 := LoadS.same (P := Try.prog) (w := w1.alloc (.cells (looseCells (j, l)).toArray 119)) (g := w1.heap.size) (o := 1) (Blk.new _ _ _) u_sector rfl i_sector (by rw [hlen129]; omega) (w1.alloc (.cells (looseCells (j, l)).toArray 119)).drew rfl
        have hv63 : (looseCells (j, l)).toArray.extract 1 (1 + 128) = (l.map bv).toArray := by
          apply Array.ext'
          rw [Array.toList_extract, List.extract_eq_take_drop]
          simp only [looseCells, List.drop_succ_cons, List.drop_zero]
          rw [List.take_of_length_le (by simp [HLEN.out])]
        rw [hv63] at hl63
        have hxs : (l.map bv).toArray.size = 128 := by simpa using HLEN.out
        have hle2 : j * 128 + (l.map bv).toArray.size ≤ curn.size := by rw [hcsn, hxs]; omega
        have hs63 := StoreS.of_blk (P := Try.prog) (w := (w1.alloc (.cells (looseCells (j, l)).toArray 119)).drew) (ty := 113) ((hBn.alloc (.cells (looseCells (j, l)).toArray 119)).drew) (by rw [hxs]; exact i_sector) hle2 (fun v hv => bvs_one l v (by simpa using hv))
        generalize hrow : (curn.toList.take (j * 128) ++ (l.map bv).toArray.toList ++ curn.toList.drop (j * 128 + (l.map bv).toArray.toList.length)).toArray = row at hs63
        have hnewS : DiskAt ((w1.alloc (.cells (looseCells (j, l)).toArray 119)).drew.setRow gn row) F p N { D1 with now := D1.now.set j l } vs (.slice (some ⟨gn, 0, none⟩) N capn) vl := by
          subst hrow
          exact (hD.alloc (.cells (looseCells (j, l)).toArray 119)).drew.putNow ((hBn.alloc (.cells (looseCells (j, l)).toArray 119)).drew) hj HLEN.out
        have hSt3 : Step w ((w1.alloc (.cells (looseCells (j, l)).toArray 119)).drew.setRow gn row) F F := ((hSt.alloc _).drew).setRow (.inl hFn) _
        have hBL : Blk ((w1.alloc (.cells (looseCells (j, l)).toArray 119)).drew.setRow gn row) w1.heap.size 119 (looseCells (j, l)).toArray := (Blk.new w1 _ _).drew.row_far (by omega) _
        have hsz3 : ((w1.alloc (.cells (looseCells (j, l)).toArray 119)).drew.setRow gn row).heap.size = w1.heap.size + 1 := by simp
        obtain ⟨c0, c1, c2, c3, c4, c5, c6, c7, fz⟩ := head_cells hD.head
        have hpa := cells_alloc hD.head.lt
        have hw1s : w.heap.size ≤ w1.heap.size := hSt.size
        clear hz hrow1 hv63 hxs hle2 hBn hcurn hcsn hrow hD hcell hbl hbB hS1 hSt
        go_wp2_with fail
        refine region_tail 8 (by kernel_rfl) (by kernel_rfl) ?_
        simp only [List.take_succ_cons, List.take_zero, List.drop_succ_cons, List.drop_zero]
        repeat still_step
        refine wpStill_nil ?_
        generalize (w1.alloc (.cells (looseCells (j, l)).toArray 119)).drew.setRow gn row = W3 at *
        clear c0 c1 c2 c3 c4 c5 c6 c7 fz hpa hcp hl63 hst
        clear hsz3
        have hpa3 := cells_alloc hnewS.head.lt
        have hls := fun W : World => list_loose hlen129 W
        have hval : (looseCells (j, l)).toArray.extract 0 (0 + 129) = (looseCells (j, l)).toArray := by
          apply Array.ext'
          rw [Array.toList_extract, List.extract_eq_take_drop, List.drop_zero, List.take_of_length_le (by have : (looseCells (j, l)).length = 129 := looseCells_length (x := (j, l)) (N := N) hx; simp; omega)]
        have hl65 := LoadS.same (P := Try.prog) (w := W3) (g := w1.heap.size) (o := 0) hBL u_loose rfl i_loose (by rw [hlen129]; omega) W3.drew rfl
        rw [hval] at hl65
        have hslc : Slc (W3.alloc (.cells (looseCells (j, l)).toArray 119)).drew (W3.heap.size + 1) 129 (some ⟨W3.heap.size, 0, none⟩) 1 1 (looseCells (j, l)) :=
          (slc_new W3 119 (0, 0) (looseCells (j, l)).toArray (sz := 129) (n := 1) (c := 1) hlen129 (Nat.le_refl _) (by decide)).drew
        obtain ⟨A', c', w4, hap, hown, hg, hat⟩ := append_loose ((W3.alloc (.cells (looseCells (j, l)).toArray 119)).drew) vl D1.loose hnewS.ok.loose ((hnewS.alloc (.cells (looseCells (j, l)).toArray 119)).drew).loose.own (j, l) hx hslc hroom1
        have hW34 : Step w w4 F F := ((hSt3.alloc (.cells (looseCells (j, l)).toArray 119)).drew).grown hg (fun k hk => .inl (hnewS.loose.foot k hk))
        have hhead4 : Blk w4 p 112 #[vs, .slice (some ⟨gn, 0, none⟩) N capn, vl, .bool D1.up, .int .i64 D1.deeds, .bool D1.armed, .int .i64 D1.after, .int .u64 (D1.keep.toNat : Int)] :=
          ((hnewS.alloc (.cells (looseCells (j, l)).toArray 119)).drew).head.grown hg (fun e => own_ne hnewS.head hnewS.loose (by decide) p e.symm rfl)
        obtain ⟨d0, d1, d2, d3, d4, d5, d6, d7, dz⟩ := head_cells hhead4
        obtain ⟨c0, c1, c2, c3, c4, c5, c6, c7, fz⟩ := head_cells hnewS.head
        have hfin : ∃ F', Step w (w4.setCell ⟨p, 2, none⟩ (.slice A' (D1.loose.length + 1) c')) F F' ∧ Disk (w4.setCell ⟨p, 2, none⟩ (.slice A' (D1.loose.length + 1) c')) F' p N { D1 with now := D1.now.set j l, loose := D1.loose ++ [(j, l)] } := by
          have hpF : F p := hnewS.foot
          have hs4 := hg.size
          simp only [World.size_drew, World.size_alloc] at hs4
          have hs3 := hSt3.size
          refine ⟨fun k => F k ∨ (w.heap.size ≤ k ∧ k < w4.heap.size), (hW34.setCell (p := ⟨p, 2, none⟩) (.inl hpF) _).fewer (fun k hk => hk.imp id And.left), fun k hk => ?_, vs, .slice (some ⟨gn, 0, none⟩) N capn, .slice A' (D1.loose.length + 1) c', ?_⟩
          · have hsz : (w4.setCell ⟨p, 2, none⟩ (.slice A' (D1.loose.length + 1) c')).heap.size = w4.heap.size := by simp [World.setCell]
            rw [hsz]
            rcases hk with hk | hk
            · have := HBD.out k hk; omega
            · exact hk.2
          · exact ((hnewS.alloc (.cells (looseCells (j, l)).toArray 119)).drew).pushLoose hg hown hx (fun k hk => .inl hk) hat (fun e => .inr (by have := (hown.lt _ e).2; simp at this ⊢; omega))
        have HFIN := Lib.hid hfin
        clear hown hg hat hslc hhead4 hfin hnewS hval hlen129 hx hBL
        go_wp2_with fail
        go_region
        go_wp2_with fail
        go_ret
        exact ⟨rfl, HFIN.out⟩
    · have hE : D.writeE N (j : Int) l = 44 := by unfold DiskM.writeE; rw [if_neg (by simp [hme]), if_pos (by simpa using h128)]
      have hW : D.write N (j : Int) l = D := by unfold DiskM.write; rw [if_neg (by simp [hme]), if_pos (by simpa using h128)]
      rw [hE, hW]
      have hne : ((n : Int) != 128) = true := by simp; omega
      clear hE hW hF h hlen h128 hme hin hS hsep
      go_enter Try.func47, Try.ntmps47
      go_wp2_with fail
      refine HM.out.mono ?_
      rintro e w' ⟨rfl, rfl⟩
      go_wp2_with fail
      go_ret
      exact ⟨rfl, F, Step.refl _ _, HH.out⟩
  · have hE : D.writeE N i l = D.mayE N i := by unfold DiskM.writeE; rw [if_pos hme]
    have hW : D.write N i l = D := by unfold DiskM.write; rw [if_pos hme]
    rw [hE, hW]
    generalize D.mayE N i = E at *
    have HM := Lib.hid hM
    have hne : (E != 0) = true := by simpa using hme
    clear hE hW hF h hlen hme hS hsep hM
    go_enter Try.func47, Try.ntmps47
    go_wp2_with fail
    refine HM.out.mono ?_
    rintro e w' ⟨rfl, rfl⟩
    go_wp2_with fail
    go_ret
    exact ⟨rfl, F, Step.refl _ _, HH.out⟩
end
end Go.Proofs.Ytmhgahkainmbkaa
