/- The walk of play. -/
import Derived.Test.YtjdlaocmifobnaaWalHomes
import Derived.Deep.RegionHeld3
namespace Go.Proofs.Ytjdlaocmifobnaa
open Go.RowKit
set_option linter.unusedVariables false
set_option linter.unusedSimpArgs false

theorem and3 (z : Int) : ∃ m : Nat, m < 4 ∧ bits BinOp.and IntKind.i64 z 3 = (m : Int) := by
  refine ⟨(BitVec.ofInt 64 z &&& BitVec.ofInt 64 3).toNat, ?_, ?_⟩
  · have : (BitVec.ofInt 64 z &&& BitVec.ofInt 64 3).toNat ≤ (BitVec.ofInt 64 3).toNat := by
      rw [BitVec.toNat_and]; exact Nat.and_le_right
    have e : (BitVec.ofInt 64 3).toNat = 3 := by decide
    omega
  · show IntKind.i64.wrap ((BitVec.ofInt 64 z &&& BitVec.ofInt 64 3).toNat : Int) = _
    have : (BitVec.ofInt 64 z &&& BitVec.ofInt 64 3).toNat ≤ (BitVec.ofInt 64 3).toNat := by
      rw [BitVec.toNat_and]; exact Nat.and_le_right
    have e : (BitVec.ofInt 64 3).toNat = 3 := by decide
    rw [IntKind.wrap_i64]
    generalize (BitVec.ofInt 64 z &&& BitVec.ofInt 64 3).toNat = m at *
    omega
theorem Coded.re {N : Nat} {L M : LogM} {S : List (List UInt8)} (h : Coded N L S) (hb : M.base = L.base) (hn : M.n = L.n) (he : M.epoch = L.epoch) (hu : M.used = L.used) (hs : M.sum = L.sum) (ho : M.over = L.over) : Coded N M S :=
  ⟨h.len, by rw [hb, he, hu, hs]; exact h.ctl, by rw [hb, hu, hs]; exact h.sum, by rw [rowsM_congr hb hn, hb, hu, ho]; exact h.rows⟩
section
variable {N : Nat} {L : LogM} {D : DiskM}
theorem mget_put_length {m : SecMap} (hm : Rising m) (k : Nat) (x : List UInt8) : (mput m k x).length = if mget m k = none then m.length + 1 else m.length := by
  rw [mput_length hm]
  cases mget m k <;> rfl
/-- Stage of a home. -/
theorem LInv.stageI (h : LInv N L D) {k : Nat} (hk : homeB N L (k : Int) = true) {l : List UInt8} (hl : l.length = 128) :
    (L.stageE N (k : Int) 128 = 0 ∨ L.stageE N (k : Int) 128 = 45) ∧ LInv N (L.stage N (k : Int) 128 l) D ∧ (L.stage N (k : Int) 128 l).base = L.base ∧ (L.stage N (k : Int) 128 l).n = L.n ∧ (L.stage N (k : Int) 128 l).over = L.over ∧ (L.stage N (k : Int) 128 l).used = L.used := by
  have he : L.stageE N (k : Int) 128 = if mget L.staged k = none ∧ L.n - 1 < costN (L.staged.length + 1) then 45 else 0 := by
    unfold LogM.stageE
    rw [if_neg (by simp [h.alive]), if_neg (by simp [hk]), if_neg (by simp)]
    rfl
  unfold LogM.stage
  by_cases hf : mget L.staged k = none ∧ L.n - 1 < costN (L.staged.length + 1)
  · have e : L.stageE N (k : Int) 128 = 45 := by rw [he, if_pos hf]
    rw [e, if_neg (by decide)]
    exact ⟨.inr rfl, h, rfl, rfl, rfl, rfl⟩
  · have e : L.stageE N (k : Int) 128 = 0 := by rw [he, if_neg hf]
    rw [e, if_pos rfl]
    refine ⟨.inl rfl, ⟨⟨h.ok.most, h.ok.n4, h.ok.n255, h.ok.fits, h.ok.epoch, h.ok.used, h.ok.sum⟩, h.alive, h.rest, h.coded.re rfl rfl rfl rfl rfl rfl, h.over, ?_, h.overOk.congr rfl rfl, ?_, ?_⟩, rfl, rfl, rfl, rfl⟩
    · exact mput_rising h.staged _ _
    · exact HomeMap.congr (L := L) rfl rfl (h.stagedOk.put hk hl)
    · show costN (mput L.staged k l).length < L.n
      rw [mget_put_length h.staged]
      have h4 := h.ok.n4
      have hc := h.cost
      split
      · rename_i hn
        have : ¬ (L.n - 1 < costN (L.staged.length + 1)) := fun hlt => hf ⟨hn, hlt⟩
        omega
      · exact hc
theorem LInv.dropI (h : LInv N L D) : LInv N { L with staged := [] } D :=
  ⟨⟨h.ok.most, h.ok.n4, h.ok.n255, h.ok.fits, h.ok.epoch, h.ok.used, h.ok.sum⟩, h.alive, h.rest, h.coded.re rfl rfl rfl rfl rfl rfl, h.over, List.Pairwise.nil, h.overOk.congr rfl rfl, (fun x hx => by cases hx), by have := h.ok.n4; simp only [costN, List.length_nil]; omega⟩
/-- On a disk that is not armed, Commit and Home say OK. -/
theorem LInv.commitI (h : LInv N L D) (ha : D.armed = false) : (commitR N L D).1 = 0 ∧ LInv N (commitR N L D).2.1 (commitR N L D).2.2 ∧ (commitR N L D).2.1.base = L.base ∧ (commitR N L D).2.1.n = L.n ∧ (commitR N L D).2.1.staged = [] ∧
      (∀ k : Nat, homeB N L (k : Int) = true → told (commitR N L D).2.1 (commitR N L D).2.2.now k = L.val D k) ∧ (commitR N L D).2.2.armed = false := by
  rcases commit_plain h with ⟨a, b, c, d, e, f, g⟩ | ⟨_, h2, _⟩
  · exact ⟨a, b, c, d, e, f, g.trans ha⟩
  · rw [ha] at h2; cases h2
theorem LInv.homeI (h : LInv N L D) (ha : D.armed = false) : (homeR N L D).1 = 0 ∧ LInv N (homeR N L D).2.1 (homeR N L D).2.2 ∧ (homeR N L D).2.1.base = L.base ∧ (homeR N L D).2.1.n = L.n ∧ (homeR N L D).2.1.staged = L.staged ∧ (homeR N L D).2.1.used = 0 ∧ (homeR N L D).2.1.over = [] ∧
      (∀ k : Nat, homeB N L (k : Int) = true → (homeR N L D).2.2.now.getD k [] = told L D.now k) ∧ (homeR N L D).2.2.armed = false := by
  rcases home_plain h with ⟨a, b, c, d, e, f, g, i, j⟩ | ⟨_, h2, _⟩
  · exact ⟨a, b, c, d, e, f, g, i, j.trans ha⟩
  · rw [ha] at h2; cases h2
theorem LInv.loose (h : LInv N L D) {k : Nat} : D.loose.length ≤ k := by rw [h.rest.loose]; exact Nat.zero_le _
end

/-- A log that was played with. -/
structure Played (w wi : World) (F : Nat → Prop) (p go gs pd n : Nat) (L : LogM) (D : DiskM) : Prop where
  run : WRun w wi F p go gs pd (n + 24) L D
  inv : LInv (n + 24) L D
  armed : D.armed = false
  base : L.base = 0
  size : L.n = n
section
variable {w wi wj : World} {p go gs pd n : Nat} {L : LogM} {F : Nat → Prop} {D : DiskM}
theorem Played.behind (h : Played w wi F p go gs pd n L D) {i : Nat} (hi : i < 24) : homeB (n + 24) L ((n + i : Nat) : Int) = true := by
  have := home_behind (L := L) (N := n + 24) h.base (by rw [h.size]) hi
  rw [h.size] at this
  exact this
theorem Played.free (h : Played w wi F p go gs pd n L D) (hb : Below wi.heap.size wi wj) : Played w wj F p go gs pd n L D := ⟨h.run.free hb, h.inv, h.armed, h.base, h.size⟩
theorem Played.drew (h : Played w wi F p go gs pd n L D) : Played w wi.drew F p go gs pd n L D := h.free (Below.refl _ wi).drew
theorem Played.commit (h : Played w wi F p go gs pd n L D) :
    Calls Try.prog 21 #[.pointer (some ⟨p, 0, none⟩)] wi fun e w' => e = .returned (.int .i64 0) ∧ ∃ F', Played w w' F' p go gs pd n (commitR (n + 24) L D).2.1 (commitR (n + 24) L D).2.2 :=
  (h.run.commit h.inv.loose h.inv.cost).mono fun _ _ ⟨he, F', hr⟩ => by
    have hi := h.inv.commitI h.armed
    rw [hi.1] at he
    exact ⟨he, F', hr, hi.2.1, hi.2.2.2.2.2.2, hi.2.2.1.trans h.base, hi.2.2.2.1.trans h.size⟩
theorem Played.home (h : Played w wi F p go gs pd n L D) :
    Calls Try.prog 26 #[.pointer (some ⟨p, 0, none⟩)] wi fun e w' => e = .returned (.int .i64 0) ∧ ∃ F', Played w w' F' p go gs pd n (homeR (n + 24) L D).2.1 (homeR (n + 24) L D).2.2 :=
  (h.run.home h.inv.loose).mono fun _ _ ⟨he, F', hr⟩ => by
    have hi := h.inv.homeI h.armed
    rw [hi.1] at he
    exact ⟨he, F', hr, hi.2.1, hi.2.2.2.2.2.2.2.2, hi.2.2.1.trans h.base, hi.2.2.2.1.trans h.size⟩
theorem Played.drop (h : Played w wi F p go gs pd n L D) :
    Calls Try.prog 11 #[.pointer (some ⟨p, 0, none⟩)] wi fun e w' => e = .returned (.tuple #[]) ∧ Played w w' F p go gs pd n { L with staged := [] } D :=
  h.run.drop.mono fun _ _ ⟨he, hr⟩ => ⟨he, hr, h.inv.dropI, h.armed, h.base, h.size⟩
theorem Played.stage (h : Played w wi F p go gs pd n L D) {c : UInt8} {g : Nat} (hf : NewFull wi wj c g) {i : Nat} (hi : i < 24) :
    Calls Try.prog 19 #[.pointer (some ⟨p, 0, none⟩), .int .i64 ((n : Int) + (i : Int)), .slice (some ⟨g, 0, none⟩) 128 128] wj fun e w' => ∃ E, (E = 0 ∨ E = 45) ∧ e = .returned (.int .i64 E) ∧ E = L.stageE (n + 24) ((n + i : Nat) : Int) 128 ∧ Played w w' F p go gs pd n (L.stage (n + 24) ((n + i : Nat) : Int) 128 (fulls c)) D := by
  have hn := h.inv.ok.n255
  rw [h.size] at hn
  have hst := h.run.stageFull hf ((n + i : Nat) : Int) (by omega)
  rw [show ((n : Int) + (i : Int)) = ((n + i : Nat) : Int) by omega]
  have hs := h.inv.stageI (h.behind hi) (fulls_length c)
  exact hst.mono fun e w' ⟨he, hr⟩ => ⟨_, hs.1, he, rfl, hr, hs.2.1, h.armed, hs.2.2.1.trans h.base, hs.2.2.2.1.trans h.size⟩
theorem Played.homes (h : Played w wi F p go gs pd n L D) :
    Calls Try.prog 12 #[.pointer (some ⟨p, 0, none⟩), .int .i64 (n : Int)] wi fun e w' => e = .returned (.tuple #[.string ⟨(homesB n (L.val D)).toArray⟩, .bool true]) ∧ Below wi.heap.size wi w' ∧ Played w w' F p go gs pd n L D := by
  have := homes_any h.run.wal h.inv.alive h.inv.rest.up h.base (by rw [h.size])
  rw [h.size] at this
  exact this.mono fun e w' ⟨he, hb⟩ => ⟨he, hb, h.free hb⟩
end
theorem made_played (n : Int) (hn : -9223372036854775808 ≤ n ∧ n ≤ 9223372036854775807) {w wi : World} (hb : Below w.heap.size w wi) :
    Calls Try.prog 9 #[.int .i64 n] wi fun e w' => ∃ p go gs pd F, e = .returned (.tuple #[.pointer (some ⟨pd, 0, none⟩), .pointer (some ⟨p, 0, none⟩), .int .i64 (madeK n : Int)]) ∧ Played w w' F p go gs pd (madeK n) (madeL (madeK n)) (madeD (madeK n)) := by
  have hk := madeK_le n
  obtain ⟨_, hi, ha, _⟩ := made_facts hk.1 (by omega : madeK n ≤ 255)
  refine (made_any n hn wi).mono ?_
  rintro e w' ⟨p, go, gs, pd, F, rfl, hr⟩
  exact ⟨p, go, gs, pd, F, rfl, ⟨hb.trans (hr.below.mono hb.size), hr.wal, fun k hk => Nat.le_trans hb.size (hr.foot k hk)⟩, hi, ha, rfl, rfl⟩

set_option maxRecDepth 100000 in
set_option maxHeartbeats 4000000 in
theorem play_any {w wi : World} {p go gs pd n : Nat} {L : LogM} {F : Nat → Prop} {D : DiskM} (h : Played w wi F p go gs pd n L D) {A : Option Addr} {m c : Nat} {l : List WOp} (hl : l.length = m) (hS : Slc w w.heap.size 5 A m c (l.flatMap wopCells)) (hO : ∀ o ∈ l, WOpOk o) :
    Calls Try.prog 10 #[.pointer (some ⟨p, 0, none⟩), .int .i64 (n : Int), .slice A m c] wi fun e w' => e = .returned (.int .i64 0) ∧ ∃ F' L' D', Played w w' F' p go gs pd n L' D' := by
  have hcm : m ≤ 9223372036854775807 := by have h1 := hS.le; have h2 := hS.cmax; simp only [maxLen] at h2; omega
  have hn255 := h.inv.ok.n255
  rw [h.size] at hn255
  have HL := Lib.hid hl
  have HO := Lib.hid hO
  have HS := Lib.hid hS
  have H := Lib.hid h
  clear hl hO hS h
  go_enter Try.func10, Try.ntmps10
  go_wp2_with fail
  go_loopw [7] (fun i wr => ∃ (k : Nat) (F' : Nat → Prop) (L' : LogM) (D' : DiskM), k ≤ m ∧ k ≤ 60 ∧ i = .int .i64 (k : Int) ∧ Played w wr F' p go gs pd n L' D') (fun i _ => m - (intOf i).toNat)
  case atStart => exact ⟨0, F, L, D, by omega, by omega, rfl, H.out⟩
  case round =>
    obtain ⟨k, F', L', D', hk, hk60, rfl, hP⟩ := hrel
    by_cases hlt : k < m ∧ k < 60
    · obtain ⟨hlt, hlt60⟩ := hlt
      obtain ⟨b, off, rfl, hbw, hkl, x0, x1, x2, x3, x4⟩ := wop_cells (HS.out.below hP.run.below) HL.out hlt
      have hok := HO.out l[k] (List.getElem_mem hkl)
      generalize hoe : l[k] = o at *
      have HOE := Lib.hid hoe
      have HOK := Lib.hid hok
      have HP := Lib.hid hP
      clear hok hoe hP
      obtain ⟨q, hq4, hq⟩ := and3 o.kind
      have hqc : q = 0 ∨ q = 1 ∨ q = 2 ∨ q = 3 := by omega
      rcases hqc with rfl | rfl | rfl | rfl
      · rw [show ((0 : Nat) : Int) = 0 from rfl] at hq
        go_wp2_with fail
        have hcells : ∀ W, Below w.heap.size w W → (W.cell? ⟨b, off + k * 5, none⟩ = some (.int .i64 o.kind) ∧ W.cell? ⟨b, off + k * 5 + 1, none⟩ = some (.int .i64 o.a) ∧ W.cell? ⟨b, off + k * 5 + 2, none⟩ = some (.int .i64 o.n) ∧
            W.cell? ⟨b, off + k * 5 + 3, none⟩ = some (.int .u8 (o.c.toNat : Int)) ∧ W.cell? ⟨b, off + k * 5 + 4, none⟩ = some (.int .u64 (o.keep.toNat : Int))) := fun W hW => by
          obtain ⟨b', off', e, _, hkl', y0, y1, y2, y3, y4⟩ := wop_cells (HS.out.below hW) HL.out hlt
          injection e with e
          injection e with e1 e2 _
          subst e1 e2
          rw [HOE.out] at y0 y1 y2 y3 y4
          exact ⟨y0, y1, y2, y3, y4⟩
        have HCELLS := Lib.hid hcells
        have hbd := HP.out.run.below.drew
        obtain ⟨sm, hsm⟩ : ∃ sm, sm = smallN o.a 24 := ⟨_, rfl⟩
        have hsm24 : sm < 24 := by rw [hsm]; exact smallN_lt _ (by decide)
        have hsml := fun W : World => small_any o.a HOK.out.a 24 (by decide) (by decide) W
        rw [← hsm] at hsml
        have HSM := Lib.hid hsml
        have hwr : IntKind.i64.wrap ((n : Int) + (sm : Int)) = (n : Int) + (sm : Int) := IntWalk.i64_in _ (by omega)
        clear hcells hsm hsml
        go_region_held3 (fun W => W.cell? ⟨b, off + k * 5, none⟩ = some (.int .i64 o.kind) ∧ W.cell? ⟨b, off + k * 5 + 1, none⟩ = some (.int .i64 o.a) ∧ W.cell? ⟨b, off + k * 5 + 2, none⟩ = some (.int .i64 o.n) ∧
            W.cell? ⟨b, off + k * 5 + 3, none⟩ = some (.int .u8 (o.c.toNat : Int)) ∧ W.cell? ⟨b, off + k * 5 + 4, none⟩ = some (.int .u64 (o.keep.toNat : Int)))
          (first | exact HCELLS.out _ (by assumption) | exact HCELLS.out _ hbd)
          (first | (go_at_call 13; refine (HSM.out _).mono ?_; rintro e w4 ⟨rfl, rfl⟩) | (go_at_call 20; refine (full_lit _ o.c rfl _).mono ?_; rintro e w5 ⟨g, rfl, hnf⟩; have hbw5 : Below w.heap.size w w5 := hbd.trans (hnf.below.mono hbd.size)) | (go_at_call 19; refine (HP.out.drew.stage hnf hsm24).mono ?_; rintro e w6 ⟨E, hE, rfl, hEs, hP6⟩; clear hEs; have hbw6 : Below w.heap.size w w6 := hP6.run.below))
        have HP6 := Lib.hid hP6
        clear hP6
        rcases hE with rfl | rfl
        all_goals
          go_wp2_with fail
          exact ⟨⟨k + 1, F', _, _, by omega, by omega, by go_num, HP6.out⟩, by simp [intOf]; omega⟩
      · rw [show ((1 : Nat) : Int) = 1 from rfl] at hq
        go_wp2_with fail
        refine HP.out.commit.mono ?_
        rintro e w2 ⟨rfl, F2, hP2⟩
        have HP2 := Lib.hid hP2
        clear hP2
        go_wp2_with fail
        exact ⟨⟨k + 1, F2, _, _, by omega, by omega, by go_num, HP2.out⟩, by simp [intOf]; omega⟩
      · rw [show ((2 : Nat) : Int) = 2 from rfl] at hq
        go_wp2_with fail
        refine HP.out.home.mono ?_
        rintro e w2 ⟨rfl, F2, hP2⟩
        have HP2 := Lib.hid hP2
        clear hP2
        go_wp2_with fail
        exact ⟨⟨k + 1, F2, _, _, by omega, by omega, by go_num, HP2.out⟩, by simp [intOf]; omega⟩
      · rw [show ((3 : Nat) : Int) = 3 from rfl] at hq
        go_wp2_with fail
        refine HP.out.drop.mono ?_
        rintro e w2 ⟨rfl, hP2⟩
        have HP2 := Lib.hid hP2
        clear hP2
        go_wp2_with fail
        exact ⟨⟨k + 1, F', _, _, by omega, by omega, by go_num, HP2.out⟩, by simp [intOf]; omega⟩
    · have hk2 : m ≤ k ∨ (k < m ∧ k = 60) := by omega
      have HP := Lib.hid hP
      clear hlt hP
      rcases hk2 with hk2 | ⟨hk2, rfl⟩
      all_goals
        go_wp2_with fail
        go_ret
        exact ⟨rfl, F', L', D', HP.out⟩
end Go.Proofs.Ytjdlaocmifobnaa
