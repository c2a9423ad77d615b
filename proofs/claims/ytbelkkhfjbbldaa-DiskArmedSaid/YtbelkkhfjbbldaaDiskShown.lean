/- The walk of the examples at the head of the laws on disks. -/
import Derived.Test.YtbelkkhfjbbldaaDiskImg
import Derived.Deep.RegionWith
namespace Go.Proofs.Ytbelkkhfjbbldaa
open Go.RowKit
set_option linter.unusedVariables false
set_option linter.unusedSimpArgs false

def fulls (c : UInt8) : List UInt8 := List.replicate 128 c
theorem fulls_length (c : UInt8) : (fulls c).length = 128 := by simp [fulls]

/-- A new sector of one byte. -/
structure NewFull (w w' : World) (c : UInt8) (g : Nat) : Prop where
  below : Below w.heap.size w w'
  size : w'.heap.size = w.heap.size + 1
  at_ : g = w.heap.size
  blk : Blk w' g 5 ((fulls c).map bv).toArray

theorem full_lit (z : Int) (c : UInt8) (hz : z = (c.toNat : Int)) (w : World) :
    Calls Try.prog 24 #[.int .u8 z] w fun e w' => ∃ g, e = .returned (.slice (some ⟨g, 0, none⟩) 128 128) ∧ NewFull w w' c g := by
  subst hz
  exact (full_any c w).mono fun e w' ⟨he, h1, h2, h3⟩ => ⟨_, he, h1, h2, rfl, h3⟩

theorem full_slc {w : World} {g : Nat} {c : UInt8} (h : Blk w g 5 ((fulls c).map bv).toArray) : Slc w (g + 1) 1 (some ⟨g, 0, none⟩) 128 128 ((fulls c).map bv) := by
  have := h.slc (sz := 1) (n := 128) (c := 128) (by simp [fulls]) (Nat.le_refl _) (by decide)
  rwa [List.take_of_length_le (by simp [fulls])] at this

/-- A sector of one byte is written. -/
theorem writeFull {w0 w : World} {F : Nat → Prop} {p N : Nat} {D : DiskM} {c : UInt8} {g : Nat} (h : Disk w0 F p N D) (hf : NewFull w0 w c g) (i : Int) (hroom : D.loose.length ≤ 1000000) :
    Calls Try.prog 23 #[.pointer (some ⟨p, 0, none⟩), .int .i64 i, .slice (some ⟨g, 0, none⟩) 128 128] w fun e w' => e = .returned (.int .i64 (D.writeE N i (fulls c))) ∧ ∃ F', Step w w' F F' ∧ Disk w' F' p N (D.write N i (fulls c)) := by
  refine write_any (h.free hf.below) i (full_slc hf.blk) (fun a ha hF => ?_) hroom
  injection ha with ha
  subst ha
  have h1 := h.1 _ hF
  have h2 := hf.at_
  simp only at h1
  omega

/-- Reading, behind any power. -/
theorem readAny {w : World} {F : Nat → Prop} {p N : Nat} {D : DiskM} (h : Disk w F p N D) (i : Int) (hi : D.mayE N i = 0) :
    Calls Try.prog 35 #[.pointer (some ⟨p, 0, none⟩), .int .i64 i] w fun e w' => ∃ g, e = .returned (.tuple #[.slice (some ⟨g, 0, none⟩) 128 128, .int .i64 0]) ∧ w.heap.size ≤ g ∧ Blk w' g 63 ((D.now.getD i.toNat []).map bv).toArray ∧ Below w.heap.size w w' := by
  obtain ⟨_, _, _, _, hd⟩ := h
  exact read_any hd i hi
theorem readNo {w : World} {F : Nat → Prop} {p N : Nat} {D : DiskM} (h : Disk w F p N D) (i : Int) (hi : D.mayE N i ≠ 0) :
    Calls Try.prog 35 #[.pointer (some ⟨p, 0, none⟩), .int .i64 i] w fun e w' => e = .returned (.tuple #[.slice none 0 0, .int .i64 (D.mayE N i)]) ∧ w = w' := by
  obtain ⟨_, _, _, _, hd⟩ := h
  exact readE_any hd i hi
theorem crashAny {w : World} {F : Nat → Prop} {p N : Nat} {D : DiskM} (h : Disk w F p N D) (k : UInt64) :
    Calls Try.prog 25 #[.pointer (some ⟨p, 0, none⟩), .int .u64 (k.toNat : Int)] w fun e w' => e = .returned (.tuple #[]) ∧ Step w w' F F ∧ Disk w' F p N (D.crash k) := by
  obtain ⟨hb, _, _, _, hd⟩ := h
  exact (crash_any hd k).mono fun e w' ⟨he, hs, vl, hd'⟩ => ⟨he, hs, .of (Lib.hid hb) hs.size hd'⟩
theorem dirtyAny {w : World} {F : Nat → Prop} {p N : Nat} {D : DiskM} (h : Disk w F p N D) :
    Calls Try.prog 27 #[.pointer (some ⟨p, 0, none⟩)] w fun e w' => e = .returned (.int .i64 (D.loose.length : Int)) ∧ w = w' := by
  obtain ⟨_, _, _, _, hd⟩ := h
  exact dirty_any hd
theorem upAny {w : World} {F : Nat → Prop} {p N : Nat} {D : DiskM} (h : Disk w F p N D) :
    Calls Try.prog 31 #[.pointer (some ⟨p, 0, none⟩)] w fun e w' => e = .returned (.bool D.up) ∧ w = w' := by
  obtain ⟨_, _, _, _, hd⟩ := h
  exact up_any hd
theorem lenAny {w : World} {F : Nat → Prop} {p N : Nat} {D : DiskM} (h : Disk w F p N D) :
    Calls Try.prog 21 #[.pointer (some ⟨p, 0, none⟩)] w fun e w' => e = .returned (.int .i64 (N : Int)) ∧ w = w' := by
  obtain ⟨_, _, _, _, hd⟩ := h
  exact len_any hd
theorem deedsAny {w : World} {F : Nat → Prop} {p N : Nat} {D : DiskM} (h : Disk w F p N D) :
    Calls Try.prog 28 #[.pointer (some ⟨p, 0, none⟩)] w fun e w' => e = .returned (.int .i64 D.deeds) ∧ w = w' := by
  obtain ⟨_, _, _, _, hd⟩ := h
  exact deeds_any hd

/-- A sector read, as a string. -/
theorem sector_string {w : World} {g : Nat} {l : List UInt8} (hl : l.length = 128) (h : Blk w g 63 (l.map bv).toArray) :
    (convert 23 9 (.slice (some ⟨g, 0, none⟩) 128 128)).run Try.prog w = .ok (.string ⟨l.toArray⟩) w := by
  have := h.slc (sz := 1) (n := 128) (c := 128) (by simp [hl]) (Nat.le_refl _) (by decide)
  rw [List.take_of_length_le (by simp [hl])] at this
  exact convert_bytes Try.underlying23 Try.underlying5 this 9 Try.underlying9
theorem full_string {w : World} {g : Nat} {c : UInt8} (h : Blk w g 5 ((fulls c).map bv).toArray) :
    (convert 23 9 (.slice (some ⟨g, 0, none⟩) 128 128)).run Try.prog w = .ok (.string ⟨(fulls c).toArray⟩) w :=
  convert_bytes Try.underlying23 Try.underlying5 (full_slc h) 9 Try.underlying9

def s1 : DiskM := (DiskM.fresh 4).write 4 0 (fulls 1)
def s2 : DiskM := s1.flush
def s3 : DiskM := s2.write 4 0 (fulls 2)
def s4 : DiskM := s3.write 4 1 (fulls 2)
def s5 : DiskM := s4.crash 2
def s6 : DiskM := s5.start
def s7 : DiskM := s6.arm 1 0
def s8 : DiskM := s7.write 4 2 (fulls 1)
def s9 : DiskM := s8.write 4 2 (fulls 2)
theorem s_facts : s4.loose.length = 2 ∧ s5.mayE 4 0 = 40 ∧ s5.startE = 0 ∧ s6.mayE 4 0 = 0 ∧ s6.mayE 4 1 = 0 ∧ s6.now.getD 0 [] = fulls 1 ∧ s6.now.getD 1 [] = fulls 2 ∧ s7.writeE 4 2 (fulls 1) = 0 ∧ s8.writeE 4 2 (fulls 2) = 41 ∧ s9.up = false ∧
    s1.loose.length ≤ 1000000 ∧ s2.loose.length ≤ 1000000 ∧ s3.loose.length ≤ 1000000 ∧ s7.loose.length ≤ 1000000 ∧ s8.loose.length ≤ 1000000 := by decide +kernel

/-- A disk of the call's own. -/
structure Run (w wi : World) (F : Nat → Prop) (p N : Nat) (D : DiskM) : Prop where
  below : Below w.heap.size w wi
  disk : Disk wi F p N D
  foot : ∀ k, F k → w.heap.size ≤ k
section
variable {w wi wj : World} {F F' : Nat → Prop} {p N : Nat} {D D' : DiskM}
theorem Run.step (r : Run w wi F p N D) (s : Step wi wj F F') (d : Disk wj F' p N D') : Run w wj F' p N D' :=
  ⟨r.below.trans (s.below r.below.size r.foot), d, s.from_ r.below.size r.foot⟩
theorem Run.free (r : Run w wi F p N D) (hb : Below wi.heap.size wi wj) : Run w wj F p N D :=
  ⟨r.below.trans (hb.mono r.below.size), r.disk.free hb, r.foot⟩
theorem Run.write (r : Run w wi F p N D) {c : UInt8} {g : Nat} (hf : NewFull wi wj c g) (i : Int) (hroom : D.loose.length ≤ 1000000) :
    Calls Try.prog 23 #[.pointer (some ⟨p, 0, none⟩), .int .i64 i, .slice (some ⟨g, 0, none⟩) 128 128] wj fun e w' => e = .returned (.int .i64 (D.writeE N i (fulls c))) ∧ ∃ F', Step wj w' F F' ∧ Run w w' F' p N (D.write N i (fulls c)) :=
  (writeFull r.disk hf i hroom).mono fun _ _ ⟨he, F', hs, hd⟩ => ⟨he, F', hs, (r.free hf.below).step hs hd⟩
theorem Run.flush (r : Run w wi F p N D) :
    Calls Try.prog 30 #[.pointer (some ⟨p, 0, none⟩)] wi fun e w' => e = .returned (.int .i64 D.flushE) ∧ Run w w' F p N D.flush :=
  (flush_any r.disk).mono fun _ _ ⟨he, hs, hd⟩ => ⟨he, r.step hs hd⟩
theorem Run.crash (r : Run w wi F p N D) (k : UInt64) :
    Calls Try.prog 25 #[.pointer (some ⟨p, 0, none⟩), .int .u64 (k.toNat : Int)] wi fun e w' => e = .returned (.tuple #[]) ∧ Run w w' F p N (D.crash k) :=
  (crashAny r.disk k).mono fun _ _ ⟨he, hs, hd⟩ => ⟨he, r.step hs hd⟩
theorem Run.start (r : Run w wi F p N D) :
    Calls Try.prog 26 #[.pointer (some ⟨p, 0, none⟩)] wi fun e w' => e = .returned (.int .i64 D.startE) ∧ Run w w' F p N D.start :=
  (start_any r.disk).mono fun _ _ ⟨he, hs, hd⟩ => ⟨he, r.step hs hd⟩
theorem Run.arm (r : Run w wi F p N D) (after : Int) (keep : UInt64) :
    Calls Try.prog 29 #[.pointer (some ⟨p, 0, none⟩), .int .i64 after, .int .u64 (keep.toNat : Int)] wi fun e w' => e = .returned (.tuple #[]) ∧ Step wi w' F F ∧ Run w w' F p N (D.arm after keep) :=
  (arm_any r.disk after keep).mono fun _ _ ⟨he, hs, hd⟩ => ⟨he, hs, r.step hs hd⟩
end

set_option maxRecDepth 100000 in
set_option maxHeartbeats 2000000 in
theorem dshown_any (w : World) :
    Calls Try.prog 19 #[] w fun e w' => e = .returned (.bool true) ∧ Below w.heap.size w w' := by
  obtain ⟨f1, f2, f3, f4, f5, f6, f7, f8, f9, f10, r1, r2, r3, r7, r8⟩ := s_facts
  have HF1 := Lib.hid f1
  have HF2 := Lib.hid f2
  have HF3 := Lib.hid f3
  have HF8 := Lib.hid f8
  have HF9 := Lib.hid f9
  have HF10 := Lib.hid f10
  have HF6 := Lib.hid f6
  have HF7 := Lib.hid f7
  clear f1 f2 f3 f8 f9 f10 f6 f7
  go_enter Try.func19, Try.ntmps19
  go_wp2_with fail
  refine (new_any 4 (by decide) (by decide) w).mono ?_
  rintro e w1 ⟨p, rfl, hb1, hd1⟩
  have R1 : Run w w1 _ p 4 (DiskM.fresh 4) := ⟨hb1, hd1, fun k hk => hk.1⟩
  clear hb1 hd1
  go_wp2_with fail
  refine (full_lit 1 1 rfl _).mono ?_
  rintro e w2 ⟨g, rfl, hn⟩
  go_wp2_with fail
  refine (R1.write hn 0 (by decide)).mono ?_
  rintro e w3 ⟨rfl, F3, _, R3⟩
  have R3' : Run w w3 F3 p 4 s1 := R3
  clear R3 R1 hn
  go_wp2_with fail
  refine R3'.flush.mono ?_
  rintro e w4 ⟨rfl, R4⟩
  have R4' : Run w w4 F3 p 4 s2 := R4
  clear R4 R3'
  go_wp2_with fail
  refine (full_lit 2 2 rfl _).mono ?_
  rintro e w5 ⟨g, rfl, hn⟩
  go_wp2_with fail
  refine (R4'.write hn 0 r2).mono ?_
  rintro e w6 ⟨rfl, F6, _, R6⟩
  have R6' : Run w w6 F6 p 4 s3 := R6
  clear R6 R4' hn
  go_wp2_with fail
  refine (full_lit 2 2 rfl _).mono ?_
  rintro e w7 ⟨g, rfl, hn⟩
  go_wp2_with fail
  refine (R6'.write hn 1 r3).mono ?_
  rintro e w8 ⟨rfl, F8, _, R8⟩
  have R8' : Run w w8 F8 p 4 s4 := R8
  clear R8 R6' hn
  go_wp2_with fail
  refine (dirtyAny R8'.disk).mono ?_
  rintro e w9 ⟨rfl, rfl⟩
  rw [HF1.out]
  go_wp2_with fail
  refine (R8'.crash 2).mono ?_
  rintro e w9 ⟨rfl, R9⟩
  have R9' : Run w w9 F8 p 4 s5 := R9
  clear R9 R8'
  go_wp2_with fail
  refine (readNo R9'.disk 0 (by rw [HF2.out]; decide)).mono ?_
  rintro e w10 ⟨rfl, rfl⟩
  rw [HF2.out]
  go_wp2_with fail
  refine R9'.start.mono ?_
  rintro e w10 ⟨rfl, R10⟩
  rw [HF3.out]
  have R10' : Run w w10 F8 p 4 s6 := R10
  clear R10 R9'
  go_wp2_with fail
  refine (readAny R10'.disk 0 f4).mono ?_
  rintro e w11 ⟨ga, rfl, hga, hBa, hb11⟩
  have R11 := R10'.free hb11
  rw [Int.toNat_zero, HF6.out] at hBa
  have hs11 := hb11.size
  have hna : ¬ F8 ga := fun h => by have := R10'.disk.1 ga h; omega
  clear R10' hb11 hga
  go_wp2_with fail
  refine (readAny R11.disk 1 f5).mono ?_
  rintro e w12 ⟨gb, rfl, hgb, hBb, hb12⟩
  have R12 := R11.free hb12
  rw [show (1 : Int).toNat = 1 from rfl, HF7.out] at hBb
  have hBa12 := hBa.below hb12 hBa.lt
  have hnb : ¬ F8 gb := fun h => by have := R11.disk.1 gb h; omega
  have hgal := hBa12.lt
  have hgbl := hBb.lt
  clear R11 hBa hb12 hgb
  go_wp2_with fail
  refine (R12.arm 1 0).mono ?_
  rintro e w13 ⟨rfl, hs13, R13⟩
  have R13' : Run w w13 F8 p 4 s7 := R13
  have hBa13 := hBa12.step hs13 hna
  have hBb13 := hBb.step hs13 hnb
  have hz13 := hs13.size
  clear R13 R12 hBa12 hBb hs13
  go_wp2_with fail
  refine (full_lit 1 1 rfl _).mono ?_
  rintro e w14 ⟨g14, rfl, hn14⟩
  go_wp2_with fail
  refine (R13'.write hn14 2 r7).mono ?_
  rintro e w15 ⟨rfl, F15, hs15, R15⟩
  rw [HF8.out]
  have R15' : Run w w15 F15 p 4 s8 := R15
  have hBa15 := (hBa13.below hn14.below hBa13.lt).step hs15 hna
  have hBb15 := (hBb13.below hn14.below hBb13.lt).step hs15 hnb
  have hz14 := hn14.below.size
  have hna2 : ¬ F15 ga := fun h => by rcases hs15.next ga h with h | h; exact hna h; omega
  have hnb2 : ¬ F15 gb := fun h => by rcases hs15.next gb h with h | h; exact hnb h; omega
  clear R15 R13' hBa13 hBb13 hs15 hn14
  go_wp2_with fail
  refine (full_lit 2 2 rfl _).mono ?_
  rintro e w16 ⟨g16, rfl, hn16⟩
  go_wp2_with fail
  refine (R15'.write hn16 2 r8).mono ?_
  rintro e w17 ⟨rfl, F17, hs17, R17⟩
  rw [HF9.out]
  have R17' : Run w w17 F17 p 4 s9 := R17
  have hBa17 := (hBa15.below hn16.below hBa15.lt).step hs17 hna2
  have hBb17 := (hBb15.below hn16.below hBb15.lt).step hs17 hnb2
  have hS : ∀ W, Below w17.heap.size w17 W → (convert 23 9 (.slice (some ⟨ga, 0, none⟩) 128 128)).run Try.prog W = .ok (.string ⟨(fulls 1).toArray⟩) W ∧ (convert 23 9 (.slice (some ⟨gb, 0, none⟩) 128 128)).run Try.prog W = .ok (.string ⟨(fulls 2).toArray⟩) W := fun W hW =>
    ⟨sector_string (fulls_length 1) (hBa17.below hW hBa17.lt), sector_string (fulls_length 2) (hBb17.below hW hBb17.lt)⟩
  have HSS := Lib.hid hS
  have hw17 : Below w17.heap.size w17 w17.drew := (Below.refl _ _).drew
  clear R17 R15' hBa15 hBb15 hs17 hn16 hna hnb hna2 hnb2 hS
  have tok1 : True := trivial
  go_wp2_with fail
  go_region_held (fun W => (convert 23 9 (.slice (some ⟨ga, 0, none⟩) 128 128)).run Try.prog W = .ok (.string ⟨(fulls 1).toArray⟩) W ∧ (convert 23 9 (.slice (some ⟨gb, 0, none⟩) 128 128)).run Try.prog W = .ok (.string ⟨(fulls 2).toArray⟩) W) (exact HSS.out _ (by assumption)) (first | (go_at_call 24; have _t := tok1; refine (full_lit 1 1 rfl _).mono ?_; rintro e w18 ⟨g18, rfl, hn18⟩; have hb18 : Below w17.heap.size w17 w18 := hw17.trans hn18.below; have hc18 := full_string hn18.blk; clear tok1) | (go_at_call 24; refine (full_lit 2 2 rfl _).mono ?_; rintro e w19 ⟨g19, rfl, hn19⟩; have hb19 : Below w17.heap.size w17 w19 := hb18.trans (hn19.below.mono hb18.size); have hc19 := full_string hn19.blk) | (go_at_call 31; refine (upAny (R17'.free hb19).disk).mono ?_; rintro e w20 ⟨rfl, rfl⟩))
  all_goals
    rw [HF10.out]
    go_wp2_with fail
    go_ret
    exact ⟨rfl, (R17'.free hb19).below⟩
end Go.Proofs.Ytbelkkhfjbbldaa
