/- A log and its disk, of a call's own; what Stage, Drop, Commit and Home keep. -/
import Derived.Test.YtmhgahkainmbkaaWalLawB
import Derived.Test.YtmhgahkainmbkaaWalCommit
namespace Go.Proofs.Ytmhgahkainmbkaa
open Go.RowKit
set_option linter.unusedVariables false
set_option linter.unusedSimpArgs false

/-- A log and its disk, of the call's own. -/
structure WRun (w wi : World) (F : Nat → Prop) (p go gs pd N : Nat) (L : LogM) (D : DiskM) : Prop where
  below : Below w.heap.size w wi
  wal : Wal wi F p go gs pd N L D
  foot : ∀ k, Both F p go gs k → w.heap.size ≤ k
section
variable {w wi wj : World} {p go gs pd N : Nat} {L L' : LogM} {F Fi Fj : Nat → Prop} {D D' : DiskM}
theorem WRun.ws (r : WRun w wi F p go gs pd N L D) (s : WS wi F wj Fj p go gs pd N L' D') : WRun w wj Fj p go gs pd N L' D' :=
  ⟨r.below.trans (s.step.below r.below.size r.foot), s.wal, s.step.from_ r.below.size r.foot⟩
theorem WRun.free (r : WRun w wi F p go gs pd N L D) (hb : Below wi.heap.size wi wj) : WRun w wj F p go gs pd N L D := r.ws (r.wal.start.free hb)
theorem WRun.drew (r : WRun w wi F p go gs pd N L D) : WRun w wi.drew F p go gs pd N L D := r.free (Below.refl wi.heap.size wi).drew
theorem WRun.dstep (r : WRun w wi F p go gs pd N L D) (s : Step wi wj F Fj) (d : Disk wj Fj pd N D') : WRun w wj Fj p go gs pd N L D' := r.ws (r.wal.start.diskStep s d)
theorem WRun.lstep (r : WRun w wi F p go gs pd N L D) (s : Step wi wj (Foot p go gs) (Foot p go gs)) (l : LogAt wj p go gs pd N L') : WRun w wj F p go gs pd N L' D := r.ws (r.wal.start.logStep s l)
theorem WRun.run (r : WRun w wi F p go gs pd N L D) : Run w wi F pd N D := ⟨r.below, r.wal.disk, fun k hk => r.foot k (.inl hk)⟩
theorem WRun.done3 (r : WRun w wi F p go gs pd N L D) {R : Int × LogM × DiskM} {e : Ending} (h : Done3 wi F p go gs pd N R e wj) : e = .returned (.int .i64 R.1) ∧ ∃ F', WRun w wj F' p go gs pd N R.2.1 R.2.2 :=
  ⟨h.1, h.2.elim fun F' h => ⟨F', r.ws h⟩⟩
theorem WRun.commit (r : WRun w wi F p go gs pd N L D) (hl : D.loose.length ≤ 800000) (hc : costN L.staged.length < L.n) :
    Calls Try.prog 18 #[.pointer (some ⟨p, 0, none⟩)] wi fun e w' => e = .returned (.int .i64 (commitR N L D).1) ∧ ∃ F', WRun w w' F' p go gs pd N (commitR N L D).2.1 (commitR N L D).2.2 :=
  (commit_any r.wal hl hc).mono fun _ _ h => r.done3 h
theorem WRun.home (r : WRun w wi F p go gs pd N L D) (hl : D.loose.length ≤ 900000) :
    Calls Try.prog 42 #[.pointer (some ⟨p, 0, none⟩)] wi fun e w' => e = .returned (.int .i64 (homeR N L D).1) ∧ ∃ F', WRun w w' F' p go gs pd N (homeR N L D).2.1 (homeR N L D).2.2 :=
  (home2_any r.wal hl).mono fun _ _ h => r.done3 h
theorem WRun.drop (r : WRun w wi F p go gs pd N L D) :
    Calls Try.prog 16 #[.pointer (some ⟨p, 0, none⟩)] wi fun e w' => e = .returned (.tuple #[]) ∧ WRun w w' F p go gs pd N { L with staged := [] } D :=
  (drop_any r.wal.log).mono fun _ _ ⟨he, hl, hs⟩ => ⟨he, r.lstep hs hl⟩
theorem WRun.stage (r : WRun w wi F p go gs pd N L D) (i : Int) (hi : -9223372036854775808 ≤ i ∧ i ≤ 9223372036854775807) {A : Option Addr} {n c B : Nat} {l : List UInt8} (hS : Slc wi B 1 A n c (l.map bv)) :
    Calls Try.prog 14 #[.pointer (some ⟨p, 0, none⟩), .int .i64 i, .slice A n c] wi fun e w' => e = .returned (.int .i64 (L.stageE N i n)) ∧ WRun w w' F p go gs pd N (L.stage N i n l) D :=
  (stage_any r.wal.log r.wal.disk i hi hS).mono fun _ _ ⟨he, hl, hs⟩ => ⟨he, r.lstep hs hl⟩
/-- A sector of one byte is staged. -/
theorem WRun.stageFull (r : WRun w wi F p go gs pd N L D) {c : UInt8} {g : Nat} (hf : NewFull wi wj c g) (i : Int) (hi : -9223372036854775808 ≤ i ∧ i ≤ 9223372036854775807) :
    Calls Try.prog 14 #[.pointer (some ⟨p, 0, none⟩), .int .i64 i, .slice (some ⟨g, 0, none⟩) 128 128] wj fun e w' => e = .returned (.int .i64 (L.stageE N i 128)) ∧ WRun w w' F p go gs pd N (L.stage N i 128 (fulls c)) D :=
  (r.free hf.below).stage i hi (full_slc hf.blk)
end

theorem Coded.re {N : Nat} {L M : LogM} {S : List (List UInt8)} (h : Coded N L S) (hb : M.base = L.base) (hn : M.n = L.n) (he : M.epoch = L.epoch) (hu : M.used = L.used) (hs : M.sum = L.sum) (ho : M.over = L.over) : Coded N M S :=
  ⟨h.len, by rw [hb, he, hu, hs]; exact h.ctl, by rw [hb, hu, hs]; exact h.sum, by rw [rowsM_congr hb hn, hb, hu, ho]; exact h.rows⟩
section
variable {N : Nat} {L : LogM} {D : DiskM}
theorem mget_put_length {m : SecMap} (hm : Rising m) (k : Nat) (x : List UInt8) : (mput m k x).length = if mget m k = none then m.length + 1 else m.length := by
  rw [mput_length hm]
  cases mget m k <;> rfl
/-- Stage of a home. -/
theorem LInv.stageI (h : LInv N L D) {k : Nat} (hk : homeB N L (k : Int) = true) {l : List UInt8} (hl : l.length = 128) :
    (L.stageE N (k : Int) 128 = 0 ∨ L.stageE N (k : Int) 128 = 45) ∧ LInv N (L.stage N (k : Int) 128 l) D ∧ (L.stage N (k : Int) 128 l).base = L.base ∧ (L.stage N (k : Int) 128 l).n = L.n ∧ (L.stage N (k : Int) 128 l).over = L.over ∧ (L.stage N (k : Int) 128 l).used = L.used := by
  have he : L.stageE N (k : Int) 128 = if mget L.staged k = none ∧ L.n - 1 < costN (L.staged.length + 1) then 45 else 0 := by
    unfold LogM.stageE
    rw [if_neg (by simp [h.alive]), if_neg (by simp [hk]), if_neg (by simp)]
    rfl
  unfold LogM.stage
  by_cases hf : mget L.staged k = none ∧ L.n - 1 < costN (L.staged.length + 1)
  · have e : L.stageE N (k : Int) 128 = 45 := by rw [he, if_pos hf]
    rw [e, if_neg (by decide)]
    exact ⟨.inr rfl, h, rfl, rfl, rfl, rfl⟩
  · have e : L.stageE N (k : Int) 128 = 0 := by rw [he, if_neg hf]
    rw [e, if_pos rfl]
    refine ⟨.inl rfl, ⟨⟨h.ok.most, h.ok.n4, h.ok.n255, h.ok.fits, h.ok.epoch, h.ok.used, h.ok.sum⟩, h.alive, h.rest, h.coded.re rfl rfl rfl rfl rfl rfl, h.over, ?_, h.overOk.congr rfl rfl, ?_, ?_⟩, rfl, rfl, rfl, rfl⟩
    · exact mput_rising h.staged _ _
    · exact HomeMap.congr (L := L) rfl rfl (h.stagedOk.put hk hl)
    · show costN (mput L.staged k l).length < L.n
      rw [mget_put_length h.staged]
      have h4 := h.ok.n4
      have hc := h.cost
      split
      · rename_i hn
        have : ¬ (L.n - 1 < costN (L.staged.length + 1)) := fun hlt => hf ⟨hn, hlt⟩
        omega
      · exact hc
theorem LInv.dropI (h : LInv N L D) : LInv N { L with staged := [] } D :=
  ⟨⟨h.ok.most, h.ok.n4, h.ok.n255, h.ok.fits, h.ok.epoch, h.ok.used, h.ok.sum⟩, h.alive, h.rest, h.coded.re rfl rfl rfl rfl rfl rfl, h.over, List.Pairwise.nil, h.overOk.congr rfl rfl, (fun x hx => by cases hx), by have := h.ok.n4; simp only [costN, List.length_nil]; omega⟩
/-- On a disk that is not armed, Commit and Home say OK. -/
theorem LInv.commitI (h : LInv N L D) (ha : D.armed = false) : (commitR N L D).1 = 0 ∧ LInv N (commitR N L D).2.1 (commitR N L D).2.2 ∧ (commitR N L D).2.1.base = L.base ∧ (commitR N L D).2.1.n = L.n ∧ (commitR N L D).2.1.staged = [] ∧
      (∀ k : Nat, homeB N L (k : Int) = true → told (commitR N L D).2.1 (commitR N L D).2.2.now k = L.val D k) ∧ (commitR N L D).2.2.armed = false := by
  rcases commit_plain h with ⟨a, b, c, d, e, f, g⟩ | ⟨_, h2, _⟩
  · exact ⟨a, b, c, d, e, f, g.trans ha⟩
  · rw [ha] at h2; cases h2
theorem LInv.homeI (h : LInv N L D) (ha : D.armed = false) : (homeR N L D).1 = 0 ∧ LInv N (homeR N L D).2.1 (homeR N L D).2.2 ∧ (homeR N L D).2.1.base = L.base ∧ (homeR N L D).2.1.n = L.n ∧ (homeR N L D).2.1.staged = L.staged ∧ (homeR N L D).2.1.used = 0 ∧ (homeR N L D).2.1.over = [] ∧
      (∀ k : Nat, homeB N L (k : Int) = true → (homeR N L D).2.2.now.getD k [] = told L D.now k) ∧ (homeR N L D).2.2.armed = false := by
  rcases home_plain h with ⟨a, b, c, d, e, f, g, i, j⟩ | ⟨_, h2, _⟩
  · exact ⟨a, b, c, d, e, f, g, i, j.trans ha⟩
  · rw [ha] at h2; cases h2
theorem LInv.loose (h : LInv N L D) {k : Nat} : D.loose.length ≤ k := by rw [h.rest.loose]; exact Nat.zero_le _
end

end Go.Proofs.Ytmhgahkainmbkaa
