/- The walks of image and made. -/
import Derived.Test.YtbelkkhfjbbldaaDiskMade
import Derived.Deep.RegionHeld3
namespace Go.Proofs.Ytbelkkhfjbbldaa
open Go.RowKit
set_option linter.unusedVariables false
set_option linter.unusedSimpArgs false

def imgBytes (l : List (List UInt8)) : List UInt8 := l.flatten
theorem imgBytes_take (l : List (List UInt8)) (k : Nat) (h : k < l.length) : imgBytes (l.take (k + 1)) = imgBytes (l.take k) ++ l.getD k [] := by
  unfold imgBytes
  rw [List.take_succ_eq_append_getElem h, List.flatten_append]
  simp [List.getD, List.getElem?_eq_getElem h]

section
attribute [local go_sem ↓] appendS_mark
variable {w : World} {F : Nat → Prop} {p N : Nat} {D : DiskM}

theorem sector_len {D : DiskM} {N : Nat} (h : D.Ok N) {k : Nat} (hk : k < N) : (D.now.getD k []).length = 128 := by
  have hkn : k < D.now.length := by rw [h.nowLen]; exact hk
  simp only [List.getD, List.getElem?_eq_getElem hkn, Option.getD_some]
  exact h.now _ (List.getElem_mem hkn)

set_option maxRecDepth 100000 in
set_option maxHeartbeats 1000000 in
theorem image_any (h : Disk w F p N D) (hu : D.up = true) :
    Calls Try.prog 22 #[.pointer (some ⟨p, 0, none⟩)] w fun e w' => e = .returned (.string ⟨(imgBytes D.now).toArray⟩) ∧ Below w.heap.size w w' := by
  have hok := h.ok
  have hmost := hok.most
  have hLen : ∀ wr, Below w.heap.size w wr → Calls Try.prog 21 #[.pointer (some ⟨p, 0, none⟩)] wr fun e w' => e = .returned (.int .i64 (N : Int)) ∧ wr = w' := fun wr hb => by
    obtain ⟨_, _, _, _, hd⟩ := h.free hb
    exact len_any hd
  have hRead : ∀ (wr : World) (k : Nat), Below w.heap.size w wr → k < N → Calls Try.prog 35 #[.pointer (some ⟨p, 0, none⟩), .int .i64 (k : Int)] wr fun e w' => ∃ g, e = .returned (.tuple #[.slice (some ⟨g, 0, none⟩) 128 128, .int .i64 0]) ∧ wr.heap.size ≤ g ∧ Blk w' g 63 ((D.now.getD k []).map bv).toArray ∧ Below wr.heap.size wr w' := fun wr k hb hk => by
    obtain ⟨_, _, _, _, hd⟩ := h.free hb
    have := read_any hd (k : Int) (by unfold DiskM.mayE; rw [if_neg (by simp [hu]), if_pos (by omega)])
    simpa using this
  have HLEN := Lib.hid hLen
  have HREAD := Lib.hid hRead
  clear h hLen hRead hu
  go_enter Try.func22, Try.ntmps22
  go_wp2_with fail
  go_loopw [3, 4] (fun v i wr => ∃ k : Nat, k ≤ N ∧ i = .int .i64 (k : Int) ∧ Below w.heap.size w wr ∧ wr.ownsRow w.heap.size 5 1 v (k * 128) ((imgBytes (D.now.take k)).map bv)) (fun _ i _ => N - (intOf i).toNat)
  case atStart => exact ⟨0, Nat.zero_le _, rfl, Below.refl _ _, by simpa [imgBytes] using World.ownsRow_nil w w.heap.size 5 1⟩
  case round =>
    obtain ⟨k, hk, rfl, hb, hown⟩ := hrel
    obtain ⟨A, c, rfl, hsl, hsp⟩ := own_slc hown
    by_cases hlt : k < N
    · have HOWN := Lib.hid hown
      clear hown hsl hsp
      go_wp2_with fail
      refine (HLEN.out wr hb).mono ?_
      rintro e w1 ⟨rfl, rfl⟩
      go_wp2_with fail
      refine (HREAD.out wr k hb hlt).mono ?_
      rintro e w1 ⟨g, rfl, hg, hB, hb1⟩
      have hs := hb.size
      have hs1 := hb1.size
      have hbl := sector_len hok hlt
      have hsec := hB.slc (sz := 1) (n := 128) (c := 128) (by rw [List.size_toArray, List.length_map, hbl]; exact Nat.le_refl _) (Nat.le_refl _) (by decide)
      rw [List.take_of_length_le (by rw [List.length_map, hbl]; exact Nat.le_refl _)] at hsec
      have hown1 : w1.ownsRow w.heap.size 5 1 (.slice A (k * 128) c) (k * 128) ((imgBytes (D.now.take k)).map bv) := by
        refine HOWN.out.kept (w' := w1) (row := none) ⟨hb1.os, hb1.tape, hb1.output, hb1.size, fun j hj _ => hb1.block j hj⟩ ?_
        cases (Value.slice A (k * 128) c).ownBlock <;> simp
      obtain ⟨A2, c2, w2, hr2, hown2, hg2, hat2⟩ := append_bytes w1 w.heap.size _ _ _ hown1 _ _ 128 128 _ hsec (by omega) (by omega)
      have hr2' : (AppendS #[23, 23] 23 #[.slice A (k * 128) c, .slice (some ⟨g, 0, none⟩) 128 128]).run Try.prog w1 = .ok (.slice A2 (k * 128 + 128) c2) w2 := hr2
      have hb2 : Below w.heap.size w w2 := (hb.trans (hb1.mono hs)).grown hg2 (by omega) (fun j hj => (hown1.lt j hj).1)
      have HOWN2 := Lib.hid hown2
      clear hr2 hown1 hown2 hg2 hat2 hsec hbl hB
      go_wp2_with fail
      refine ⟨⟨k + 1, by omega, by go_num, hb2, ?_⟩, by simp [intOf]; omega⟩
      rw [imgBytes_take D.now k (by rw [hok.nowLen]; exact hlt), show (k + 1) * 128 = k * 128 + 128 by omega]
      exact HOWN2.out
    · obtain rfl : k = N := by omega
      rw [List.take_of_length_le (by rw [hok.nowLen]; exact Nat.le_refl _)] at hsl
      have hcv := convert_bytes Try.underlying23 Try.underlying5 hsl 9 Try.underlying9
      clear hown hsl hsp
      go_wp2_with fail
      refine (HLEN.out wr hb).mono ?_
      rintro e w1 ⟨rfl, rfl⟩
      go_wp2_with fail
      go_ret
      exact ⟨rfl, hb⟩

def madeN (n : Int) : Nat := 1 + (if n < 0 then -(n + 1) else n).toNat % 20
def madeD (n : Int) (l : List OpM) : DiskM := (opsDo (madeN n) (l.take 60) (DiskM.fresh (madeN n))).flush
theorem madeN_le (n : Int) : 1 ≤ madeN n ∧ madeN n ≤ 20 := by unfold madeN; omega

/-- An op's cells, for a walk. -/
theorem op_cells {w : World} {B : Nat} {A : Option Addr} {n c : Nat} {l : List OpM} (h : Slc w B 6 A n c (l.flatMap opCells)) (hl : l.length = n) {k : Nat} (hk : k < n) :
    ∃ b off, A = some ⟨b, off, none⟩ ∧ ∃ hkl : k < l.length, w.cell? ⟨b, off + k * 6, none⟩ = some (.int .i64 l[k].kind) ∧ w.cell? ⟨b, off + k * 6 + 1, none⟩ = some (.int .i64 l[k].a) ∧ w.cell? ⟨b, off + k * 6 + 2, none⟩ = some (.slice l[k].bA l[k].bn l[k].bc) ∧
      w.cell? ⟨b, off + k * 6 + 3, none⟩ = some (.int .u8 (l[k].c.toNat : Int)) ∧ w.cell? ⟨b, off + k * 6 + 4, none⟩ = some (.bool l[k].fit) ∧ w.cell? ⟨b, off + k * 6 + 5, none⟩ = some (.int .u64 (l[k].keep.toNat : Int)) := by
  obtain ⟨b, off, e, hb, hc⟩ := h.at_ (by omega)
  have hkl : k < l.length := by omega
  have g : ∀ j u, j < 6 → (opCells l[k])[j]? = some u → w.cell? ⟨b, off + k * 6 + j, none⟩ = some u := fun j u hj hu => by
    have := hc (k * 6 + j) u (by rw [flatMap_get opCells 6 l (fun o _ => opCells_length o) k j hkl hj]; exact hu)
    rwa [← Nat.add_assoc] at this
  exact ⟨b, off, e, hkl, g 0 _ (by decide) rfl, g 1 _ (by decide) rfl, g 2 _ (by decide) rfl, g 3 _ (by decide) rfl, g 4 _ (by decide) rfl, g 5 _ (by decide) rfl⟩

set_option maxRecDepth 100000 in
set_option maxHeartbeats 1000000 in
theorem made_any (n : Int) (hn : -9223372036854775808 ≤ n ∧ n ≤ 9223372036854775807) {A : Option Addr} {m c : Nat} {l : List OpM} (w : World) (hl : l.length = m) (hS : Slc w w.heap.size 6 A m c (l.flatMap opCells)) (hO : ∀ o ∈ l, OpOk w o) :
    Calls Try.prog 20 #[.int .i64 n, .slice A m c] w fun e w' => ∃ p F', e = .returned (.pointer (some ⟨p, 0, none⟩)) ∧ Below w.heap.size w w' ∧ Disk w' F' p (madeN n) (madeD n l) ∧ ∀ k, F' k → w.heap.size ≤ k := by
  obtain ⟨hn1, hn2⟩ := hn
  have hN := madeN_le n
  obtain ⟨q, hq⟩ : ∃ q : Nat, (n < 0 ∧ -(n + 1) = (q : Int)) ∨ (0 ≤ n ∧ n = (q : Int)) := by
    by_cases hneg : n < 0
    · exact ⟨(-(n + 1)).toNat, .inl ⟨hneg, by omega⟩⟩
    · exact ⟨n.toNat, .inr ⟨by omega, by omega⟩⟩
  have hNq : madeN n = 1 + q % 20 := by
    unfold madeN
    rcases hq with ⟨h1, h2⟩ | ⟨h1, h2⟩
    · rw [if_pos h1, h2, Int.toNat_natCast]
    · rw [if_neg (by omega), h2, Int.toNat_natCast]
  have hD : madeD n l = (opsDo (madeN n) (l.take 60) (DiskM.fresh (madeN n))).flush := rfl
  rw [hD]
  generalize madeN n = N at *
  have hcm : m ≤ 9223372036854775807 := by have h1 := hS.le; have h2 := hS.cmax; simp only [maxLen] at h2; omega
  have HL := Lib.hid hl
  have HNQ := Lib.hid hNq
  have HO := Lib.hid hO
  have HS := Lib.hid hS
  have hqm : q ≤ 9223372036854775807 := by omega
  have hN1 : 1 ≤ N := hN.1
  have hN2 : N ≤ 1024 := by omega
  have hq20 : q % 20 < 20 := Nat.mod_lt _ (by decide)
  clear hD hl hNq hO hS hN
  have hE : (1 + (q : Int) % 20) = (N : Int) := by rw [HNQ.out]; omega
  have HE := Lib.hid hE
  clear hE
  rcases hq with ⟨hneg, hq⟩ | ⟨hneg, hq⟩
  · have HQ := Lib.hid hq
    clear hq
    go_enter Try.func20, Try.ntmps20
    go_upto_region 3 with (fail)
    rw [HQ.out]
    go_wp2_with fail
    rw [HE.out]
    clear hneg HQ
    refine (new_any N hN1 hN2 w).mono ?_
    rintro e w1 ⟨p, rfl, hb1, hD1⟩
    go_wp2_with fail
    go_loopw [6] (fun i wr => ∃ (k : Nat) (F' : Nat → Prop), k ≤ m ∧ k ≤ 60 ∧ i = .int .i64 (k : Int) ∧ Below w.heap.size w wr ∧ Disk wr F' p N (opsDo N (l.take k) (DiskM.fresh N)) ∧ ∀ j, F' j → w.heap.size ≤ j) (fun i _ => m - (intOf i).toNat)
    case atStart => exact ⟨0, _, by omega, by omega, rfl, hb1, hD1, fun j hj => hj.1⟩
    case round =>
      obtain ⟨k, F', hk, hk60, rfl, hb, hD, hF⟩ := hrel
      by_cases hlt : k < m ∧ k < 60
      · obtain ⟨hlt, hlt60⟩ := hlt
        obtain ⟨b, off, rfl, hkl, x0, x1, x2, x3, x4, x5⟩ := op_cells (HS.out.below hb) HL.out hlt
        have hok := HO.out l[k] (List.getElem_mem hkl)
        have hstep := opsDo_take N l (DiskM.fresh N) k hkl
        have hcalm := opsDo_calm N (l.take k) _ _ (fresh_calm N)
        have hroom := hcalm.few
        rw [List.length_take, Nat.zero_add] at hroom
        generalize hoe : l[k] = o at *
        have HSTEP := Lib.hid hstep
        have HD := Lib.hid hD
        have HOK := Lib.hid hok
        have HOE := Lib.hid hoe
        have hroom2 : (opsDo N (l.take k) (DiskM.fresh N)).loose.length ≤ 1000000 := by omega
        have HROOM := Lib.hid hroom2
        clear hstep hD hok hcalm hroom hoe hroom2 HNQ HE
        by_cases h0 : o.kind = 0
        · have hk0 : (o.kind == 0) = true := by simp [h0]
          have H0 := Lib.hid h0
          clear h0
          go_wp2_with fail
          have hcells : ∀ W, Below w.heap.size w W → (W.cell? ⟨b, off + k * 6, none⟩ = some (.int .i64 o.kind) ∧ W.cell? ⟨b, off + k * 6 + 1, none⟩ = some (.int .i64 o.a) ∧ W.cell? ⟨b, off + k * 6 + 2, none⟩ = some (.slice o.bA o.bn o.bc) ∧
              W.cell? ⟨b, off + k * 6 + 3, none⟩ = some (.int .u8 (o.c.toNat : Int)) ∧ W.cell? ⟨b, off + k * 6 + 4, none⟩ = some (.bool o.fit) ∧ W.cell? ⟨b, off + k * 6 + 5, none⟩ = some (.int .u64 (o.keep.toNat : Int))) := fun W hW => by
            obtain ⟨b', off', e, hkl', y0, y1, y2, y3, y4, y5⟩ := op_cells (HS.out.below hW) HL.out hlt
            injection e with e
            injection e with e1 e2 _
            subst e1 e2
            rw [HOE.out] at y0 y1 y2 y3 y4 y5
            exact ⟨y0, y1, y2, y3, y4, y5⟩
          have HCELLS := Lib.hid hcells
          have hbd := hb.drew
          have hsepX : ∀ A2 : Option Addr, (∀ a, A2 = some a → wr.drew.heap.size ≤ a.block) → ∀ a, A2 = some a → ¬ F' a.block := fun A2 h a ha hf => by
            have h1 := h a ha
            have h2 := HD.out.1 _ hf
            simp only [World.size_drew] at h1
            omega
          have HSEP := Lib.hid hsepX
          clear hcells hsepX
          go_region_held3 (fun W => W.cell? ⟨b, off + k * 6, none⟩ = some (.int .i64 o.kind) ∧ W.cell? ⟨b, off + k * 6 + 1, none⟩ = some (.int .i64 o.a) ∧ W.cell? ⟨b, off + k * 6 + 2, none⟩ = some (.slice o.bA o.bn o.bc) ∧
              W.cell? ⟨b, off + k * 6 + 3, none⟩ = some (.int .u8 (o.c.toNat : Int)) ∧ W.cell? ⟨b, off + k * 6 + 4, none⟩ = some (.bool o.fit) ∧ W.cell? ⟨b, off + k * 6 + 5, none⟩ = some (.int .u64 (o.keep.toNat : Int)))
            (first | exact HCELLS.out _ (by assumption) | exact HCELLS.out _ hbd)
            (first | (go_at_call 32; refine (sector_any o _ (HOK.out.slc.below hbd) HOK.out.small).mono ?_; rintro e w2 ⟨A2, n2, c2, rfl, hb2, hs2, hsep2⟩; have hbw2 : Below w.heap.size w w2 := hbd.trans (hb2.mono hbd.size); have hsep3 := HSEP.out A2 hsep2) | (go_at_call 23; refine (write_any ((HD.out.free (Below.refl wr.heap.size wr).drew).free hb2) o.a hs2 hsep3 HROOM.out).mono ?_; rintro e w3 ⟨rfl, F3, hst3, hd3⟩; have hbw3 : Below w.heap.size w w3 := hbw2.trans (hst3.below (Nat.le_trans hbd.size hb2.size) hF)))
          have hF3 := hst3.from_ (Nat.le_trans hbd.size hb2.size) hF
          have HD3 := Lib.hid hd3
          clear hst3 hd3 hs2 hsep2 hsep3 hb2
          go_wp2_with fail
          refine ⟨⟨k + 1, F3, by omega, by omega, by go_num, hbw3, ?_, hF3⟩, by simp [intOf]; omega⟩
          rw [HSTEP.out]
          unfold opDo
          rw [if_pos H0.out]
          exact HD3.out
        · have hk0 : (o.kind == 0) = false := by simpa using h0
          have H0 := Lib.hid h0
          clear h0
          go_wp2_with fail
          refine ⟨⟨k + 1, F', by omega, by omega, by go_num, hb, ?_, hF⟩, by simp [intOf]; omega⟩
          rw [HSTEP.out]
          unfold opDo
          rw [if_neg H0.out]
          exact HD.out
      · have hk2 : m ≤ k ∨ (k < m ∧ k = 60) := by omega
        have htake : l.take k = l.take 60 := by
          rw [List.take_eq_take_iff]
          have := HL.out
          omega
        rw [htake] at hD
        have hfl := flush_any hD
        have HFL := Lib.hid hfl
        clear hlt hD htake hfl HNQ HE
        rcases hk2 with hk2 | ⟨hk2, rfl⟩
        all_goals
          go_wp2_with fail
          refine HFL.out.mono ?_
          rintro e w2 ⟨rfl, hst2, hd2⟩
          have hbw2 : Below w.heap.size w w2 := hb.trans (hst2.below hb.size hF)
          clear hst2
          go_wp2_with fail
          go_ret
          exact ⟨p, F', rfl, hbw2, hd2, hF⟩
  · subst hq
    go_enter Try.func20, Try.ntmps20
    go_wp2_with fail
    rw [HE.out]
    clear hneg
    refine (new_any N hN1 hN2 w).mono ?_
    rintro e w1 ⟨p, rfl, hb1, hD1⟩
    go_wp2_with fail
    go_loopw [6] (fun i wr => ∃ (k : Nat) (F' : Nat → Prop), k ≤ m ∧ k ≤ 60 ∧ i = .int .i64 (k : Int) ∧ Below w.heap.size w wr ∧ Disk wr F' p N (opsDo N (l.take k) (DiskM.fresh N)) ∧ ∀ j, F' j → w.heap.size ≤ j) (fun i _ => m - (intOf i).toNat)
    case atStart => exact ⟨0, _, by omega, by omega, rfl, hb1, hD1, fun j hj => hj.1⟩
    case round =>
      obtain ⟨k, F', hk, hk60, rfl, hb, hD, hF⟩ := hrel
      by_cases hlt : k < m ∧ k < 60
      · obtain ⟨hlt, hlt60⟩ := hlt
        obtain ⟨b, off, rfl, hkl, x0, x1, x2, x3, x4, x5⟩ := op_cells (HS.out.below hb) HL.out hlt
        have hok := HO.out l[k] (List.getElem_mem hkl)
        have hstep := opsDo_take N l (DiskM.fresh N) k hkl
        have hcalm := opsDo_calm N (l.take k) _ _ (fresh_calm N)
        have hroom := hcalm.few
        rw [List.length_take, Nat.zero_add] at hroom
        generalize hoe : l[k] = o at *
        have HSTEP := Lib.hid hstep
        have HD := Lib.hid hD
        have HOK := Lib.hid hok
        have HOE := Lib.hid hoe
        have hroom2 : (opsDo N (l.take k) (DiskM.fresh N)).loose.length ≤ 1000000 := by omega
        have HROOM := Lib.hid hroom2
        clear hstep hD hok hcalm hroom hoe hroom2 HNQ HE
        by_cases h0 : o.kind = 0
        · have hk0 : (o.kind == 0) = true := by simp [h0]
          have H0 := Lib.hid h0
          clear h0
          go_wp2_with fail
          have hcells : ∀ W, Below w.heap.size w W → (W.cell? ⟨b, off + k * 6, none⟩ = some (.int .i64 o.kind) ∧ W.cell? ⟨b, off + k * 6 + 1, none⟩ = some (.int .i64 o.a) ∧ W.cell? ⟨b, off + k * 6 + 2, none⟩ = some (.slice o.bA o.bn o.bc) ∧
              W.cell? ⟨b, off + k * 6 + 3, none⟩ = some (.int .u8 (o.c.toNat : Int)) ∧ W.cell? ⟨b, off + k * 6 + 4, none⟩ = some (.bool o.fit) ∧ W.cell? ⟨b, off + k * 6 + 5, none⟩ = some (.int .u64 (o.keep.toNat : Int))) := fun W hW => by
            obtain ⟨b', off', e, hkl', y0, y1, y2, y3, y4, y5⟩ := op_cells (HS.out.below hW) HL.out hlt
            injection e with e
            injection e with e1 e2 _
            subst e1 e2
            rw [HOE.out] at y0 y1 y2 y3 y4 y5
            exact ⟨y0, y1, y2, y3, y4, y5⟩
          have HCELLS := Lib.hid hcells
          have hbd := hb.drew
          have hsepX : ∀ A2 : Option Addr, (∀ a, A2 = some a → wr.drew.heap.size ≤ a.block) → ∀ a, A2 = some a → ¬ F' a.block := fun A2 h a ha hf => by
            have h1 := h a ha
            have h2 := HD.out.1 _ hf
            simp only [World.size_drew] at h1
            omega
          have HSEP := Lib.hid hsepX
          clear hcells hsepX
          go_region_held3 (fun W => W.cell? ⟨b, off + k * 6, none⟩ = some (.int .i64 o.kind) ∧ W.cell? ⟨b, off + k * 6 + 1, none⟩ = some (.int .i64 o.a) ∧ W.cell? ⟨b, off + k * 6 + 2, none⟩ = some (.slice o.bA o.bn o.bc) ∧
              W.cell? ⟨b, off + k * 6 + 3, none⟩ = some (.int .u8 (o.c.toNat : Int)) ∧ W.cell? ⟨b, off + k * 6 + 4, none⟩ = some (.bool o.fit) ∧ W.cell? ⟨b, off + k * 6 + 5, none⟩ = some (.int .u64 (o.keep.toNat : Int)))
            (first | exact HCELLS.out _ (by assumption) | exact HCELLS.out _ hbd)
            (first | (go_at_call 32; refine (sector_any o _ (HOK.out.slc.below hbd) HOK.out.small).mono ?_; rintro e w2 ⟨A2, n2, c2, rfl, hb2, hs2, hsep2⟩; have hbw2 : Below w.heap.size w w2 := hbd.trans (hb2.mono hbd.size); have hsep3 := HSEP.out A2 hsep2) | (go_at_call 23; refine (write_any ((HD.out.free (Below.refl wr.heap.size wr).drew).free hb2) o.a hs2 hsep3 HROOM.out).mono ?_; rintro e w3 ⟨rfl, F3, hst3, hd3⟩; have hbw3 : Below w.heap.size w w3 := hbw2.trans (hst3.below (Nat.le_trans hbd.size hb2.size) hF)))
          have hF3 := hst3.from_ (Nat.le_trans hbd.size hb2.size) hF
          have HD3 := Lib.hid hd3
          clear hst3 hd3 hs2 hsep2 hsep3 hb2
          go_wp2_with fail
          refine ⟨⟨k + 1, F3, by omega, by omega, by go_num, hbw3, ?_, hF3⟩, by simp [intOf]; omega⟩
          rw [HSTEP.out]
          unfold opDo
          rw [if_pos H0.out]
          exact HD3.out
        · have hk0 : (o.kind == 0) = false := by simpa using h0
          have H0 := Lib.hid h0
          clear h0
          go_wp2_with fail
          refine ⟨⟨k + 1, F', by omega, by omega, by go_num, hb, ?_, hF⟩, by simp [intOf]; omega⟩
          rw [HSTEP.out]
          unfold opDo
          rw [if_neg H0.out]
          exact HD.out
      · have hk2 : m ≤ k ∨ (k < m ∧ k = 60) := by omega
        have htake : l.take k = l.take 60 := by
          rw [List.take_eq_take_iff]
          have := HL.out
          omega
        rw [htake] at hD
        have hfl := flush_any hD
        have HFL := Lib.hid hfl
        clear hlt hD htake hfl HNQ HE
        rcases hk2 with hk2 | ⟨hk2, rfl⟩
        all_goals
          go_wp2_with fail
          refine HFL.out.mono ?_
          rintro e w2 ⟨rfl, hst2, hd2⟩
          have hbw2 : Below w.heap.size w w2 := hb.trans (hst2.below hb.size hF)
          clear hst2
          go_wp2_with fail
          go_ret
          exact ⟨p, F', rfl, hbw2, hd2, hF⟩
end
end Go.Proofs.Ytbelkkhfjbbldaa
