/- The walk of rows. -/
import Derived.Test.YtmhgahkainmbkaaWalEq
import Derived.Deep.RegionHeld3
namespace Go.Proofs.Ytmhgahkainmbkaa
open Go.RowKit
set_option linter.unusedVariables false
set_option linter.unusedSimpArgs false

def hAt (list : List UInt8) (i : Nat) : Nat := ofLe ((list.drop (2 + 2 * i)).take 2)
def homesUp (list : List UInt8) (i : Nat) : List Nat := (List.range i).map (hAt list)
def okAt (N : Nat) (L : LogM) (list : List UInt8) (j : Nat) : Bool := homeB N L (hAt list j : Int) && (j == 0 || decide (hAt list (j - 1) < hAt list j))
def okUp (N : Nat) (L : LogM) (list : List UInt8) (i : Nat) : Bool := (List.range i).all (okAt N L list)
def overUp (o : SecMap) (list : List UInt8) (rest : List (List UInt8)) (i : Nat) : SecMap := (List.range i).foldl (fun m j => mput m (hAt list j) (rest.getD j [])) o
def rowsM (N : Nat) (L : LogM) : Nat → List (List UInt8) → SecMap → Option SecMap
  | _, [], o => some o
  | 0, _ :: _, _ => none
  | f + 1, list :: rest, o =>
    if 1 ≤ ofLe (list.take 2) ∧ ofLe (list.take 2) ≤ 60 ∧ ofLe (list.take 2) ≤ rest.length ∧ okUp N L list (ofLe (list.take 2)) = true ∧ list = listB (homesUp list (ofLe (list.take 2)))
    then rowsM N L f (rest.drop (ofLe (list.take 2))) (overUp o list rest (ofLe (list.take 2))) else none
theorem okUp_succ {N : Nat} {L : LogM} {list : List UInt8} {i : Nat} : okUp N L list (i + 1) = (okUp N L list i && okAt N L list i) := by
  simp [okUp, List.range_succ]
theorem okUp_mono {N : Nat} {L : LogM} {list : List UInt8} {i k : Nat} (h : okUp N L list k = true) (hik : i < k) : okAt N L list i = true := by
  unfold okUp at h
  rw [List.all_eq_true] at h
  exact h i (List.mem_range.2 hik)
theorem overUp_succ (o : SecMap) (list : List UInt8) (rest : List (List UInt8)) (i : Nat) : overUp o list rest (i + 1) = mput (overUp o list rest i) (hAt list i) (rest.getD i []) := by
  simp [overUp, List.range_succ]
theorem homesUp_succ (list : List UInt8) (i : Nat) : homesUp list (i + 1) = homesUp list i ++ [hAt list i] := by
  simp [homesUp, List.range_succ]
theorem hAt_lt {list : List UInt8} (i : Nat) : hAt list i < 65536 := by
  have h1 := ofLe_lt ((list.drop (2 + 2 * i)).take 2)
  have h2 : 256 ^ ((list.drop (2 + 2 * i)).take 2).length ≤ 256 ^ 2 := Nat.pow_le_pow_right (by decide) (List.length_take_le _ _)
  have h3 : (256 : Nat) ^ 2 = 65536 := by decide
  unfold hAt; omega

section
variable {w wi wj : World} {p go gs pd N : Nat} {L L' : LogM} {F Fi Fj : Nat → Prop} {D D' : DiskM}
/-- A sector of a row of them. -/
theorem Slc.sector {B : Nat} {A : Option Addr} {n c : Nat} {S : List (List UInt8)} (h : Slc w B 128 A n c (flat S)) (hs : Sectors S) (hl : S.length = n) {k : Nat} (hk : k < n) :
    ∃ b off, A = some ⟨b, off, none⟩ ∧ w.rangeAt b (off + k * 128) ((S.getD k []).map bv) ∧ (S.getD k []).length = 128 := by
  obtain ⟨b, off, e, hb, hc⟩ := h.at_ (by omega)
  have hkl : k < S.length := by omega
  have hg : S.getD k [] = S[k] := by rw [List.getD_eq_getElem?_getD, List.getElem?_eq_getElem hkl]; rfl
  have h128 : (S[k]).length = 128 := hs _ (List.getElem_mem hkl)
  refine ⟨b, off, e, fun j v hv => ?_, by rw [hg]; exact h128⟩
  rw [hg] at hv
  have hj : j < 128 := by
    rcases Nat.lt_or_ge j 128 with hh | hh
    · exact hh
    · rw [List.getElem?_eq_none (by simp; omega)] at hv; cases hv
  have hat := flat_at hs k hkl
  rw [Nat.add_assoc]
  refine hc (k * 128 + j) v ?_
  rw [← hat, List.getElem?_take, if_pos hj, List.getElem?_drop] at hv
  exact hv
/-- The rest of a row of sectors. -/
theorem Slc.after {B : Nat} {b off n c : Nat} {S : List (List UInt8)} (h : Slc w B 128 (some ⟨b, off, none⟩) n c (flat S)) (hs : Sectors S) (hl : S.length = n) {k : Nat} (hk : k ≤ n) :
    Slc w B 128 (some (if c = k then ⟨b, off, none⟩ else ⟨b, off + k * 128, none⟩)) (n - k) (c - k) (flat (S.drop k)) := by
  refine ⟨by rw [flat_length (fun s hm => hs s (List.mem_of_mem_drop hm)), List.length_drop, hl], by have := h.le; omega, by have := h.cmax; omega, fun hp => ?_⟩
  have hne : c ≠ k := by have := h.le; omega
  rw [if_neg hne]
  obtain ⟨b', off', e, hb, hc⟩ := h.at_ (by omega)
  injection e with e; injection e with e1 e2 _; subst e1 e2
  refine ⟨_, _, rfl, hb, fun j u hu => ?_⟩
  rw [← flat_drop hs k (by omega), List.getElem?_drop] at hu
  rw [Nat.add_assoc]
  exact hc _ u hu
/-- From w to wi only the log's own memory has turned. -/
structure WL (w : World) (F : Nat → Prop) (wi : World) (Fi : Nat → Prop) (p go gs pd N : Nat) (L : LogM) (D : DiskM) : Prop where
  step : Step w wi (Foot p go gs) (Foot p go gs)
  wal : Wal wi Fi p go gs pd N L D
theorem Wal.startL (h : Wal w F p go gs pd N L D) : WL w F w F p go gs pd N L D := ⟨Step.refl _ _, h⟩
theorem WL.free (h : WL w F wi Fi p go gs pd N L D) (hb : Below wi.heap.size wi wj) : WL w F wj Fi p go gs pd N L D := ⟨h.step.trans (Step.of_below hb _), h.wal.free hb⟩
theorem WL.drew (h : WL w F wi Fi p go gs pd N L D) : WL w F wi.drew Fi p go gs pd N L D := h.free (Below.refl _ wi).drew
theorem WL.drewN (h : WL w F wi Fi p go gs pd N L D) (n : Nat) : WL w F (wi.drewN n) Fi p go gs pd N L D := h.free (below_drewN _ wi n)
theorem WL.alloc (h : WL w F wi Fi p go gs pd N L D) (o : Obj) : WL w F (wi.alloc o) Fi p go gs pd N L D := h.free ((Below.refl _ wi).alloc (Nat.le_refl _) o)
theorem WL.logStep (h : WL w F wi Fi p go gs pd N L D) (s : Step wi wj (Foot p go gs) (Foot p go gs)) (l : LogAt wj p go gs pd N L') : WL w F wj Fi p go gs pd N L' D :=
  ⟨h.step.trans s, l, h.wal.disk.step s (fun k hk hf => h.wal.sep k hf hk), h.wal.sep⟩
def RowsEnd (w : World) (F : Nat → Prop) (p go gs pd N : Nat) (L : LogM) (D : DiskM) (r : Option SecMap) (e : Ending) (w' : World) : Prop :=
  (∀ o, r = some o → e = .returned (.bool true) ∧ WL w F w' F p go gs pd N { L with over := o } D) ∧ (r = none → e = .returned (.bool false) ∧ ∃ o, WL w F w' F p go gs pd N { L with over := o } D)
theorem RowsEnd.no {R : Option SecMap} (hR : R = none) {o : SecMap} (h : WL w F wi F p go gs pd N { L with over := o } D) : RowsEnd w F p go gs pd N L D R (.returned (.bool false)) wi :=
  ⟨fun o' ho' => (by rw [hR] at ho'; cases ho'), fun _ => ⟨rfl, o, h⟩⟩
theorem RowsEnd.yes {R : Option SecMap} {o : SecMap} (hR : R = some o) (h : WL w F wi F p go gs pd N { L with over := o } D) : RowsEnd w F p go gs pd N L D R (.returned (.bool true)) wi :=
  ⟨fun o' ho' => (by rw [hR] at ho'; injection ho' with ho'; subst ho'; exact ⟨rfl, h⟩), fun hn => (by rw [hR] at hn; cases hn)⟩
end
section
variable {w wi wj : World} {p go gs pd N : Nat} {L L' : LogM} {F Fi Fj : Nat → Prop} {D D' : DiskM}
/-- What turns beyond all that was there leaves log and disk. -/
theorem WL.outer (h : WL w F wi F p go gs pd N L D) (hF : ∀ k, Both F p go gs k → k < w.heap.size) (hb : Below w.heap.size wi wj) : WL w F wj F p go gs pd N L D := by
  have s : Step wi wj (fun k => w.heap.size ≤ k) (fun k => w.heap.size ≤ k) := ⟨hb.os, hb.tape, hb.output, hb.size, fun k hk hn => hb.block k (by omega), fun k hk => .inl hk⟩
  refine ⟨⟨hb.os.trans h.step.os, hb.tape.trans h.step.tape, hb.output.trans h.step.output, Nat.le_trans h.step.size hb.size, fun k hk hn => ?_, h.step.next⟩, h.wal.log.step s (fun k hk hs => ?_), h.wal.disk.step s (fun k hk hs => ?_), h.wal.sep⟩
  · rw [hb.block k hk]; exact h.step.block k hk hn
  · have := hF k (.inr hk); omega
  · have := hF k (.inl hk); omega
theorem Wal.both_lt (h : Wal w F p go gs pd N L D) : ∀ k, Both F p go gs k → k < w.heap.size := by
  rintro k (hk | hk)
  · exact h.disk.1 k hk
  · exact h.log.lt k hk
theorem Blk.sub {g : Nat} {t : TypeId} {l : List UInt8} (h : Blk w g t (l.map bv).toArray) {lo n c : Nat} (hle : lo + n ≤ l.length) (hnc : n ≤ c) (hc : c ≤ maxLen) : Slc w (g + 1) 1 (some ⟨g, lo, none⟩) n c (((l.drop lo).take n).map bv) :=
  ⟨by simp; omega, hnc, hc, fun _ => ⟨g, lo, rfl, by omega, fun j u hu => by
    rw [h.cell]
    have hj : j < n := by
      rcases Nat.lt_or_ge j n with hh | hh
      · exact hh
      · rw [List.getElem?_eq_none (by simp; omega)] at hu; cases hu
    rw [List.getElem?_map, List.getElem?_take, if_pos hj, List.getElem?_drop, ← List.getElem?_map] at hu
    simpa using hu⟩⟩
end
def SliceS (ty : TypeId) (x : Value) (lo hi mx : Option Value) : Sem Value := Instr.slice ty x lo hi mx
theorem slice_wmark (x : Value) (lo hi mx : Option Value) : Instr.slice 86 x lo hi mx = SliceS 86 x lo hi mx := rfl
theorem SliceS.low {P : Program} {ty e : TypeId} {sz : Nat} (hu : P.underlying ty = some (.slice e)) (hs : (P.info? e).map (·.size) = some sz) {b off n c k : Nat} {z : Int} (hz : z = (k : Int)) (hk : k ≤ n) (hn : n ≤ c) (w : World) :
    (SliceS ty (.slice (some ⟨b, off, none⟩) n c) (some (.int .i64 z)) none none).run P w = .ok (.slice (some (if c = k then ⟨b, off, none⟩ else ⟨b, off + k * sz, none⟩)) (n - k) (c - k)) w := by
  subst hz
  cases hq : P.info? e with
  | none => simp [hq] at hs
  | some i =>
    have hi' : i.size = sz := by simpa [hq] using hs
    unfold SliceS
    by_cases hc : c = k
    · simp [Instr.slice, Instr.sliceBounds, Instr.sliceBound, run_underlying hu, sizeOf, typeInfo, hq, hi', asIntOf, hk, hc]
    · simp [Instr.slice, Instr.sliceBounds, Instr.sliceBound, run_underlying hu, sizeOf, typeInfo, hq, hi', asIntOf, hk, hc, addr_of_add]
theorem int_info : (Try.prog.info? 3).map (fun i => (i.zero, i.size, i.bytes)) = some (some (.int .i64 0), 1, 8) := by kernel_rfl
/-- append of one number. -/
theorem append_num (w : World) (base : Nat) (v : Value) (n : Nat) (l : List Nat) (hown : w.ownsRow base 3 1 v n (l.map nv)) (x : Nat) (hb : n ≤ 1000000) (hbase : base ≤ w.heap.size) :
    ∃ A' c' w', (Builtin.append_ #[53, 53] 53 #[v, .slice (some ⟨w.heap.size, 0, none⟩) 1 1]).run Try.prog (w.alloc (.cells #[nv x] 3)) = .ok (.slice A' (n + 1) c') w' ∧ w'.ownsRow base 3 1 (.slice A' (n + 1) c') (n + 1) ((l ++ [x]).map nv) ∧ (w.alloc (.cells #[nv x] 3)).grownBy w' v.ownBlock ∧
      ((Value.slice A' (n + 1) c').ownBlock = v.ownBlock ∨ (Value.slice A' (n + 1) c').ownBlock = some (w.heap.size + 1)) := by
  obtain ⟨i, hi, hz0, hz1, hz2⟩ := info_parts int_info
  have hS := slc_new w 3 (0, 0) #[nv x] (sz := 1) (n := 1) (c := 1) rfl (Nat.le_refl _) (by decide)
  obtain ⟨A', c', w', h1, h2, h3, h4⟩ := append_slc (P := Try.prog) (w.alloc (.cells #[nv x] 3)) base 53 53 _ i _ 1 8 Try.underlying53 hi hz0 hz1 hz2 rfl (by decide) v n (l.map nv) (hown.alloc _) _ _ 1 1 [nv x] hS (fun u hu => by rw [List.mem_singleton.1 hu]; rfl) (by unfold maxLen; omega) (by omega) (by simp; omega)
  exact ⟨A', c', w', h1, by rw [List.map_append]; exact h2, h3, by rwa [World.size_alloc] at h4⟩

section
attribute [local go_sem ↓] load_wsector_mark store_wsector_mark alloc_wsector_mark sliceAt_mark mapSet_mark slice_wmark eqsec_mark
attribute [local go_sem] alloc_wsector
variable {w wi wj : World} {p go gs pd N : Nat} {L L' : LogM} {F Fi Fj : Nat → Prop} {D D' : DiskM}
set_option maxRecDepth 100000 in
set_option maxHeartbeats 4000000 in
theorem rows_any (h : Wal w F p go gs pd N L D) {A : Option Addr} {n c : Nat} {S : List (List UInt8)} (hS : Slc w w.heap.size 128 A n c (flat S)) (hs : Sectors S) (hl : S.length = n) (hn : n ≤ 1000) (hA : ∀ a, A = some a → ¬ Both F p go gs a.block) :
    Calls Try.prog 66 #[.pointer (some ⟨p, 0, none⟩), .slice A n c] w (RowsEnd w F p go gs pd N L D (rowsM N L n S L.over)) := by
  have HW := Lib.hid h.startL
  have HBL := Lib.hid h.both_lt
  have HL := Lib.hid hl
  have HS := Lib.hid hS
  have HSS := Lib.hid hs
  have HA := Lib.hid hA
  obtain ⟨R, hR⟩ : ∃ R, R = rowsM N L n S L.over := ⟨_, rfl⟩
  rw [← hR]
  have HR := Lib.hid hR
  clear h hl hS hs hA hR
  go_enter Try.func66, Try.ntmps66
  go_wp2_with fail
  go_loopw [1] (fun s1 wr => ∃ (f m c' : Nat) (A' : Option Addr) (S' : List (List UInt8)) (o : SecMap), s1 = .slice A' m c' ∧ m ≤ 1000 ∧ Slc w w.heap.size 128 A' m c' (flat S') ∧ Sectors S' ∧ S'.length = m ∧ m ≤ f ∧ (∀ a, A' = some a → ¬ Both F p go gs a.block) ∧ R = rowsM N L f S' o ∧ WL w F wr F p go gs pd N { L with over := o } D) (fun s1 _ => match s1 with | .slice _ m _ => m | _ => 0)
  case atStart => exact ⟨n, n, c, A, S, L.over, rfl, hn, HS.out, HSS.out, HL.out, Nat.le_refl _, HA.out, HR.out, HW.out⟩
  case round =>
    obtain ⟨f, m, c', A', S', o, rfl, hm, hS', hs', hl', hmf, hA', hR', hst⟩ := hrel
    rcases S' with _ | ⟨list, rest⟩
    · obtain rfl : m = 0 := by simpa using hl'.symm
      have hRo : R = some o := by rw [hR']; cases f <;> rfl
      have HRO := Lib.hid hRo
      have HST := Lib.hid hst
      clear hS' hs' hl' hA' hR' hst hRo
      go_wp2_with fail
      go_ret
      exact RowsEnd.yes HRO.out HST.out
    · obtain ⟨m, rfl⟩ : ∃ m', m = m' + 1 := ⟨m - 1, by simp at hl'; omega⟩
      obtain ⟨f, rfl⟩ : ∃ f', f = f' + 1 := ⟨f - 1, by omega⟩
      have hS2 := hS'.apart hst.step (fun a ha hf => hA' a ha (.inr hf))
      obtain ⟨b, off, rfl, hr0, h128⟩ := hS2.sector hs' hl' (k := 0) (by omega)
      have hr1 : wr.rangeAt b off (list.map bv) := by simpa using hr0
      have hll : list.length = 128 := by simpa using h128
      have hld := LoadS.of_range (P := Try.prog) (ty := 80) hr1 u_wsector rfl (by rw [List.length_map, hll]; exact i_wsector)
      have hst1 := StoreS.new (P := Try.prog) (ty := 80) (t := 80) (c := zbytes 128) (x := (list.map bv).toArray) (by simp only [List.size_toArray, List.length_map, hll]; exact i_wsector) (by simp [zbytes_size, hll]) (fun v hv => bvs_one list v (by simpa using hv)) wr
      obtain ⟨W1, hW1⟩ : ∃ W1, W1 = wr.alloc (.cells (list.map bv).toArray 80) := ⟨_, rfl⟩
      have hst2 : WL w F W1 F p go gs pd N { L with over := o } D := by rw [hW1]; exact hst.alloc _
      have hB1 : Blk W1 wr.heap.size 80 (list.map bv).toArray := by rw [hW1]; exact Blk.new _ _ _
      have hG : Slc W1 (wr.heap.size + 1) 1 (some ⟨wr.heap.size, 0, none⟩) 2 128 ((list.take 2).map bv) := by
        have := hB1.slc (sz := 1) (n := 2) (c := 128) (by simp [hll]) (by decide) (by decide)
        simpa [List.map_take] using this
      have hget := get_any W1 hG (by decide)
      have hml : rest.length = m := by simpa using hl'
      obtain ⟨k, hk⟩ : ∃ k, k = ofLe (list.take 2) := ⟨_, rfl⟩
      rw [← hk] at hget
      have hk65 : k < 65536 := by
        have h1 := ofLe_lt (list.take 2)
        have h2 : 256 ^ (list.take 2).length ≤ 256 ^ 2 := Nat.pow_le_pow_right (by decide) (List.length_take_le _ _)
        have h3 : (256 : Nat) ^ 2 = 65536 := by decide
        omega
      have hRk : R = if 1 ≤ k ∧ k ≤ 60 ∧ k ≤ rest.length ∧ okUp N L list k = true ∧ list = listB (homesUp list k) then rowsM N L f (rest.drop k) (overUp o list rest k) else none := by rw [hR', hk]; rfl
      rw [hW1] at hget
      have hwrB := hst.step.size
      have HGET := Lib.hid hget
      have HST := Lib.hid hst2
      have HRK := Lib.hid hRk
      have HW1 := Lib.hid hW1
      have HB1 := Lib.hid hB1
      have HLL := Lib.hid hll
      have HML := Lib.hid hml
      have HS2 := Lib.hid hS'
      have HSS2 := Lib.hid hs'
      have HA2 := Lib.hid hA'
      have HK := Lib.hid hk
      have HLF := Lib.hid hl'
      clear hget hst hst2 hRk hR' hW1 hB1 hll hml hS' hs' hA' hS2 hr0 h128 hr1 hG hk hl' HS HSS HA HR HW HL
      by_cases hbad : k < 1 ∨ 60 < k ∨ m < k
      · have hnone : R = none := by rw [HRK.out, if_neg (by have := HML.out; omega)]
        have HN := Lib.hid hnone
        clear hnone
        rcases hbad with hb1 | hb1
        · obtain rfl : k = 0 := by omega
          clear hb1
          go_wp2_with fail
          refine HGET.out.mono ?_
          rintro e w2 ⟨rfl, rfl⟩
          go_wp2_with fail
          go_ret
          exact RowsEnd.no HN.out (by rw [← HW1.out]; exact HST.out)
        · by_cases hb2 : 60 < k
          · have q1 : ¬ k < 1 := by omega
            clear hb1
            go_wp2_with fail
            refine HGET.out.mono ?_
            rintro e w2 ⟨rfl, rfl⟩
            go_wp2_with fail
            go_ret
            exact RowsEnd.no HN.out (by rw [← HW1.out]; exact HST.out)
          · have q1 : ¬ k < 1 := by omega
            have q2 : ¬ 60 < k := hb2
            have q3 : m + 1 < 1 + k := by omega
            clear hb1 hb2
            go_wp2_with fail
            refine HGET.out.mono ?_
            rintro e w2 ⟨rfl, rfl⟩
            go_wp2_with fail
            go_ret
            exact RowsEnd.no HN.out (by rw [← HW1.out]; exact HST.out)
      · have q1 : ¬ k < 1 := by omega
        have q2 : ¬ 60 < k := by omega
        have q3 : ¬ m + 1 < 1 + k := by omega
        clear hbad
        go_wp2_with fail
        refine HGET.out.mono ?_
        rintro e w2 ⟨rfl, rfl⟩
        go_wp2_with fail
        rw [← HW1.out]
        obtain ⟨g, hg⟩ : ∃ g, g = wr.heap.size := ⟨_, rfl⟩
        have hgB : w.heap.size ≤ g := by rw [hg]; exact hwrB
        rw [← hg]
        have HG := Lib.hid hg
        clear hg
        go_loopw [7, 33] (fun s7 s33 wr2 => ∃ (i : Nat) (v7 : Value), v7 = s7 ∧ i ≤ k ∧ s33 = .int .i64 (i : Int) ∧ Row wr2 (fun x => g < x) 3 1 v7 i ((homesUp list i).map nv) ∧ okUp N L list i = true ∧ Blk wr2 g 80 (list.map bv).toArray ∧ WL w F wr2 F p go gs pd N { L with over := overUp o list rest i } D) (fun _ s33 _ => k - (intOf s33).toNat)
        case atStart =>
          exact ⟨0, _, rfl, by omega, rfl, Row.nil_ _ _ _ _, rfl, by rw [HG.out]; exact HB1.out, HST.out⟩
        case round =>
          obtain ⟨i, s7, rfl, hi, rfl, hrow, hok, hB, hws⟩ := hrel
          by_cases hlt : i < k
          · have hAlt := hAt_lt (list := list) i
            have hsl := fun W : World => SliceAtS.both (P := Try.prog) (g := g) (lo := 2 + 2 * i) (hi := 4 + 2 * i) (z1 := 2 + 2 * (i : Int)) (z2 := 4 + 2 * (i : Int)) u_wsector byte_size1 (by omega) (by omega) (by omega) (by omega) (by omega) W
            rw [show 4 + 2 * i - (2 + 2 * i) = 2 by omega] at hsl
            have hSg := hB.sub (lo := 2 + 2 * i) (n := 2) (c := 128 - (2 + 2 * i)) (by rw [HLL.out]; omega) (by omega) (Nat.le_trans (Nat.sub_le _ _) (by decide))
            have hget2 := get_any wr hSg (by decide)
            rw [show ofLe ((list.drop (2 + 2 * i)).take 2) = hAt list i from rfl] at hget2
            have hhome := home_any hws.wal.log hws.wal.disk (hAt list i : Int) (by omega)
            rw [show homeB N { L with over := overUp o list rest i } (hAt list i : Int) = homeB N L (hAt list i : Int) from rfl] at hhome
            obtain ⟨x, hx⟩ : ∃ x, x = hAt list i := ⟨_, rfl⟩
            rw [← hx] at hget2 hhome hAlt
            have HX := Lib.hid hx
            have HGET2 := Lib.hid hget2
            have HHOME := Lib.hid hhome
            have HROW := Lib.hid hrow
            have HOK := Lib.hid hok
            have HB := Lib.hid hB
            have HWS := Lib.hid hws
            clear hSg hget2 hhome hx hrow hok hB hws
            cases hhb : homeB N L (x : Int) with
            | false =>
              have hnone : R = none := by
                rw [HRK.out, if_neg]
                rintro ⟨_, _, _, h4, _⟩
                have := okUp_mono h4 hlt
                unfold okAt at this
                rw [← HX.out, hhb] at this
                cases this
              have HN := Lib.hid hnone
              have HH2 := HHOME.out
              rw [hhb] at HH2
              have HH := Lib.hid HH2
              clear hnone hhb HH2
              go_wp2_with fail
              refine HGET2.out.mono ?_
              rintro e w3 ⟨rfl, rfl⟩
              go_wp2_with fail
              refine HH.out.mono ?_
              rintro e w3 ⟨rfl, nn, hw3⟩
              have HW3 := Lib.hid hw3
              clear hw3
              go_wp2_with fail
              go_ret
              exact RowsEnd.no HN.out (by rw [HW3.out]; exact HWS.out.drewN _)
            | true =>
              have HH2 := HHOME.out
              rw [hhb] at HH2
              have HH := Lib.hid HH2
              have HHB := Lib.hid hhb
              clear HH2 hhb
              by_cases hoi : okAt N L list i = true
              · have hok2 : okUp N L list (i + 1) = true := by rw [okUp_succ, HOK.out, hoi]; rfl
                have hcase : i = 0 ∨ (0 < i ∧ hAt list (i - 1) < x) := by
                  rcases Nat.eq_zero_or_pos i with h0 | h0
                  · exact .inl h0
                  · refine .inr ⟨h0, ?_⟩
                    unfold okAt at hoi
                    rw [← HX.out, HHB.out, Bool.true_and, Bool.or_eq_true] at hoi
                    rcases hoi with h1 | h1
                    · simp at h1; omega
                    · exact of_decide_eq_true h1
                have HOK2 := Lib.hid hok2
                -- what is prepared for the worlds behind home
                have prep : ∀ nn : Nat, ∃ A4 c4 w4, (Builtin.append_ #[53, 53] 53 #[s7, .slice (some ⟨(wr.drewN nn).heap.size, 0, none⟩) 1 1]).run Try.prog ((wr.drewN nn).alloc (.cells #[.int .i64 (x : Int)] 3)) = .ok (.slice A4 (i + 1) c4) w4 ∧
                    Row w4 (fun x => g < x) 3 1 (.slice A4 (i + 1) c4) (i + 1) ((homesUp list (i + 1)).map nv) ∧ Blk w4 g 80 (list.map bv).toArray ∧ WL w F w4 F p go gs pd N { L with over := overUp o list rest i } D := by
                  intro nn
                  have hr3 : Row (wr.drewN nn) (fun x => g < x) 3 1 s7 i ((homesUp list i).map nv) := HROW.out.kept (fun _ _ => rfl) HROW.out.foot
                  obtain ⟨A4, c4, w4, h1, h2, h3, h4⟩ := append_num (wr.drewN nn) 0 s7 i (homesUp list i) hr3.own x (by omega) (Nat.zero_le _)
                  have hgl : g < (wr.drewN nn).heap.size := HB.out.lt
                  refine ⟨A4, c4, w4, h1, ⟨by rw [homesUp_succ, ← HX.out]; exact h2, fun q hq => ?_⟩, ?_, HWS.out.outer HBL.out ?_⟩
                  · rcases h4 with h4 | h4
                    · exact hr3.foot q (by rw [← h4]; exact hq)
                    · rw [h4] at hq; injection hq with hq; omega
                  · exact ((HB.out.drewN nn).alloc _).grown h3 (fun e => by have := hr3.foot g e.symm; omega)
                  · exact (((below_drewN _ wr nn)).alloc (by simp only [World.drewN]; have := HB.out.lt; omega) _).grown h3 (by have := HB.out.lt; simp [World.drewN]; omega) (fun q hq => by have := hr3.foot q hq; omega)
                have PREP := Lib.hid prep
                clear prep hok2 hoi
                have fin : ∀ nn : Nat, ∀ w3 : World, w3 = wr.drewN nn → ∃ A4 c4 w4, (Builtin.append_ #[53, 53] 53 #[s7, .slice (some ⟨w3.heap.size, 0, none⟩) 1 1]).run Try.prog (w3.alloc (.cells #[.int .i64 (x : Int)] 3)) = .ok (.slice A4 (i + 1) c4) w4 ∧
                    w4.drew.cell? ⟨p, 6, none⟩ = some (.map (some go)) ∧
                    (LoadS 80 (.pointer (some ⟨b, off + (1 + i) * 128, none⟩))).run Try.prog w4.drew = .ok (secV (rest.getD i [])) w4.drew ∧
                    ∃ o9, (MapSetS 75 (.map (some go)) (.int .i64 (x : Int)) (secV (rest.getD i []))).run Try.prog w4.drew = .ok () (objSet w4.drew go o9) ∧
                      Row (objSet w4.drew go o9) (fun x => g < x) 3 1 (.slice A4 (i + 1) c4) (i + 1) ((homesUp list (i + 1)).map nv) ∧ Blk (objSet w4.drew go o9) g 80 (list.map bv).toArray ∧ WL w F (objSet w4.drew go o9) F p go gs pd N { L with over := overUp o list rest (i + 1) } D := by
                  rintro nn w3 rfl
                  obtain ⟨A4, c4, w4, h1, h2, h3, h4⟩ := PREP.out nn
                  refine ⟨A4, c4, w4, h1, ?_, ?_, ?_⟩
                  · have := (log_cells h4.wal.log.head).2.2.2.2.2.2.1; exact this
                  · have hS9 := (HS2.out.apart h4.drew.step (fun a ha hf => HA2.out a ha (.inr hf)))
                    obtain ⟨b9, o9, e, hr9, hl9⟩ := hS9.sector HSS2.out HLF.out (k := i + 1) (by have := HML.out; omega)
                    injection e with e; injection e with e1 e2 _; subst e1 e2
                    rw [show (i + 1) = (1 + i) by omega] at hr9
                    have hge : (list :: rest).getD (1 + i) [] = rest.getD i [] := by rw [show 1 + i = i + 1 by omega]; rfl
                    rw [hge] at hr9
                    have hl9' : (rest.getD i []).length = 128 := by rw [show (list :: rest).getD (i + 1) [] = rest.getD i [] from rfl] at hl9; exact hl9
                    exact LoadS.of_range (P := Try.prog) hr9 u_wsector rfl (by rw [List.length_map, hl9']; exact i_wsector)
                  · have hl9' : (rest.getD i []).length = 128 := by
                      have hS9 := (HS2.out.apart h4.drew.step (fun a ha hf => HA2.out a ha (.inr hf)))
                      obtain ⟨b9, o9, e, hr9, hl9⟩ := hS9.sector HSS2.out HLF.out (k := i + 1) (by have := HML.out; omega)
                      rw [show (list :: rest).getD (i + 1) [] = rest.getD i [] from rfl] at hl9; exact hl9
                    have hw5 := h4.drew
                    obtain ⟨o9, hr, hm⟩ := MapSetS.ok hw5.wal.log.over x (rest.getD i [])
                    have hgo : go < w.heap.size := HBL.out go (.inr (.inr (.inl rfl)))
                    refine ⟨o9, hr, (h2.kept (fun _ _ => rfl) h2.foot).kept (fun q hq => objSet_far (by have := h2.foot q hq; omega) o9) h2.foot, (objSet_far (by omega) o9).trans h3.drew, ?_⟩
                    rw [overUp_succ, ← HX.out]
                    exact hw5.logStep ((Step.refl _ _).objSet (.inl (.inr (.inl rfl))) o9) (hw5.wal.log.putOver hm (hw5.wal.log.overOk.put HHB.out hl9'))
                have FIN := Lib.hid fin
                clear fin
                rcases hcase with h0 | ⟨h0, h1⟩
                · have h0' : ¬ 0 < i := by omega
                  clear h0
                  go_wp2_with fail
                  refine HGET2.out.mono ?_
                  rintro e w3 ⟨rfl, rfl⟩
                  go_wp2_with fail
                  refine HH.out.mono ?_
                  rintro e w3 ⟨rfl, nn, hw3⟩
                  obtain ⟨A4, c4, w4, hr, hc6, hld4, o9, hset, hfin⟩ := FIN.out nn w3 hw3
                  have HF := Lib.hid hfin
                  generalize rest.getD i [] = s9 at hld4 hset
                  clear hfin hw3
                  go_wp2_with (at_builtin; refine wpList_append_run rfl _ _ _ rfl rfl rfl hr ?_; clear hr)
                  refine region_tail 10 (by kernel_rfl) (by kernel_rfl) ?_
                  simp only [List.take_succ_cons, List.take_zero, List.drop_succ_cons, List.drop_zero]
                  obtain ⟨w5, hw5⟩ : ∃ w5, w5 = w4.drew := ⟨_, rfl⟩
                  have HFIN5 := HF.out
                  rw [← hw5] at hc6 hld4 hset HFIN5 ⊢
                  have HF5 := Lib.hid HFIN5
                  clear HFIN5 HF hw5
                  have u1 : (0 : Int) ≤ 1 + (i : Int) := by omega
                  have u2 : (1 + (i : Int)).toNat = 1 + i := by omega
                  have u3 : 1 + (i : Int) < (m : Int) + 1 := by omega
                  have u4 : IntKind.i64.wrap (1 + (i : Int)) = 1 + (i : Int) := IntWalk.i64_in _ (by omega)
                  repeat still_step
                  refine wpStill_nil ?_
                  clear u1 u2 u3 u4
                  generalize objSet w5 go o9 = w6 at *
                  go_wp2_with fail
                  exact ⟨⟨i + 1, _, rfl, by omega, by go_num, HF5.out.1, HOK2.out, HF5.out.2.1, HF5.out.2.2⟩, by simp [intOf]; omega⟩
                · obtain ⟨gh, cap, cur, rfl, hgh, _, _, hcap, hcmx, _, _⟩ := HROW.out.form (by omega)
                  have hcell : ∀ nn : Nat, (wr.drewN nn).cell? ⟨gh, i - 1, none⟩ = some (.int .i64 (hAt list (i - 1) : Int)) := fun nn => by
                    obtain ⟨A9, c9, e9, hs9⟩ := HROW.out.slc
                    injection e9 with e9 _ _; subst e9
                    have hs9' := hs9.below (below_drewN _ wr nn)
                    obtain ⟨b9, o9, e, _, hl9, hc9⟩ := hs9'.nat (k := i - 1) (by omega)
                    injection e with e; injection e with e1 e2 _; subst e1 e2
                    rw [Nat.zero_add] at hc9
                    rw [hc9]; simp [homesUp]
                  obtain ⟨y, hy⟩ : ∃ y, y = hAt list (i - 1) := ⟨_, rfl⟩
                  rw [← hy] at h1 hcell
                  have h1' : ¬ x ≤ y := by omega
                  clear hy h1
                  go_wp2_with fail
                  refine HGET2.out.mono ?_
                  rintro e w3 ⟨rfl, rfl⟩
                  go_wp2_with fail
                  refine HH.out.mono ?_
                  rintro e w3 ⟨rfl, nn, hw3⟩
                  have hcell3 : w3.cell? ⟨gh, i - 1, none⟩ = some (.int .i64 (y : Int)) := by rw [hw3]; exact hcell nn
                  obtain ⟨A4, c4, w4, hr, hc6, hld4, o9, hset, hfin⟩ := FIN.out nn w3 hw3
                  have HF := Lib.hid hfin
                  generalize rest.getD i [] = s9 at hld4 hset
                  clear hfin hw3 hcell
                  go_wp2_with (at_builtin; refine wpList_append_run rfl _ _ _ rfl rfl rfl hr ?_; clear hr hcell3)
                  refine region_tail 10 (by kernel_rfl) (by kernel_rfl) ?_
                  simp only [List.take_succ_cons, List.take_zero, List.drop_succ_cons, List.drop_zero]
                  obtain ⟨w5, hw5⟩ : ∃ w5, w5 = w4.drew := ⟨_, rfl⟩
                  have HFIN5 := HF.out
                  rw [← hw5] at hc6 hld4 hset HFIN5 ⊢
                  have HF5 := Lib.hid HFIN5
                  clear HFIN5 HF hw5
                  have u1 : (0 : Int) ≤ 1 + (i : Int) := by omega
                  have u2 : (1 + (i : Int)).toNat = 1 + i := by omega
                  have u3 : 1 + (i : Int) < (m : Int) + 1 := by omega
                  have u4 : IntKind.i64.wrap (1 + (i : Int)) = 1 + (i : Int) := IntWalk.i64_in _ (by omega)
                  repeat still_step
                  refine wpStill_nil ?_
                  clear u1 u2 u3 u4
                  generalize objSet w5 go o9 = w6 at *
                  go_wp2_with fail
                  exact ⟨⟨i + 1, _, rfl, by omega, by go_num, HF5.out.1, HOK2.out, HF5.out.2.1, HF5.out.2.2⟩, by simp [intOf]; omega⟩
              · have hi0 : 0 < i := by
                  rcases Nat.eq_zero_or_pos i with h0 | h0
                  · exfalso; apply hoi; subst h0; unfold okAt; rw [← HX.out, HHB.out]; rfl
                  · exact h0
                have hle : x ≤ hAt list (i - 1) := by
                  rcases Nat.lt_or_ge (hAt list (i - 1)) x with hh | hh
                  · exfalso; apply hoi; unfold okAt; rw [← HX.out, HHB.out]; simp [hh]
                  · exact hh
                have hnone : R = none := by
                  rw [HRK.out, if_neg]
                  rintro ⟨_, _, _, h4, _⟩
                  exact hoi (okUp_mono h4 hlt)
                have HN := Lib.hid hnone
                obtain ⟨gh, cap, cur, rfl, hgh, _, _, hcap, hcmx, _, _⟩ := HROW.out.form (by omega)
                have hcell : ∀ nn : Nat, (wr.drewN nn).cell? ⟨gh, i - 1, none⟩ = some (.int .i64 (hAt list (i - 1) : Int)) := fun nn => by
                  obtain ⟨A9, c9, e9, hs9⟩ := HROW.out.slc
                  injection e9 with e9 _ _; subst e9
                  have hs9' := hs9.below (below_drewN _ wr nn)
                  obtain ⟨b9, o9, e, _, hl9, hc9⟩ := hs9'.nat (k := i - 1) (by omega)
                  injection e with e; injection e with e1 e2 _; subst e1 e2
                  rw [Nat.zero_add] at hc9
                  rw [hc9]; simp [homesUp]
                obtain ⟨y, hy⟩ : ∃ y, y = hAt list (i - 1) := ⟨_, rfl⟩
                rw [← hy] at hle hcell
                clear hnone hoi hy
                go_wp2_with fail
                refine HGET2.out.mono ?_
                rintro e w3 ⟨rfl, rfl⟩
                go_wp2_with fail
                refine HH.out.mono ?_
                rintro e w3 ⟨rfl, nn, hw3⟩
                have hcell3 : w3.cell? ⟨gh, i - 1, none⟩ = some (.int .i64 (y : Int)) := by rw [hw3]; exact hcell nn
                have HW3 := Lib.hid hw3
                clear hw3 hcell
                go_wp2_with fail
                go_ret
                exact RowsEnd.no HN.out (by rw [HW3.out]; exact HWS.out.drewN _)
          · obtain rfl : i = k := by omega
            obtain ⟨A9, c9, rfl, hs9⟩ := hrow.slc
            have hs10 := hs9.drew
            have hlist := listed_any wr.drew (hs10) (by omega) (fun y hy => by
              obtain ⟨j, _, rfl⟩ := List.mem_map.1 hy
              exact hAt_lt j)
            have hld0 : ∀ W, Below wr.heap.size wr W → W.rangeAt g 0 (list.map bv) := fun W hW => by
              have hB2 := hB.below hW hB.lt
              intro j v hj
              rw [Nat.zero_add, hB2.cell]
              simpa using hj
            have hu71 := u_wsector
            have hi71 : (Try.prog.info? 80).map (·.size) = some (list.map bv).length := by rw [List.length_map, HLL.out]; exact i_wsector
            obtain ⟨lb, hlb⟩ : ∃ lb, lb = listB (homesUp list i) := ⟨_, rfl⟩
            have hlbl : lb.length = 128 := by rw [hlb]; exact listB_length (by simp [homesUp]; omega)
            rw [← hlb] at hlist
            have heq : ∀ W, (EqSecS 80 (.agg (list.map bv).toArray) (.agg (lb.map bv).toArray)).run Try.prog W = .ok (decide (list = lb)) W := fun W => EqSecS.ok HLL.out hlbl W
            have hldD := hld0 _ (Below.refl _ wr).drew
            have HLD := Lib.hid hld0
            have HLIST := Lib.hid hlist
            have HLB := Lib.hid hlb
            have HWS := Lib.hid hws
            have HOK := Lib.hid hok
            have HD0 := Lib.hid hldD
            have HBD := Lib.hid ((Below.refl wr.heap.size wr).drew)
            clear hrow hs9 hs10 hlist hld0 hlb hlbl hws hok hB hldD
            cases hle : decide (list = lb) with
            | false =>
              have hne : list ≠ lb := of_decide_eq_false hle
              have hnone : R = none := by
                rw [HRK.out, if_neg]
                rintro ⟨_, _, _, _, h5⟩
                exact hne (by rw [HLB.out]; exact h5)
              have HN := Lib.hid hnone
              have heq2 : ∀ W, (EqSecS 80 (.agg (list.map bv).toArray) (.agg (lb.map bv).toArray)).run Try.prog W = .ok false W := fun W => by rw [heq, hle]
              clear hne hnone hle heq
              go_wp2_with fail
              go_region_held (fun W => W.rangeAt g 0 (list.map bv)) (first | exact HD0.out | assumption)
                ((go_at_call 46; refine HLIST.out.mono ?_; rintro e w4 ⟨rfl, hb4⟩; have hld4 := HLD.out w4 (HBD.out.trans hb4)))
              have HB4 := Lib.hid hb4
              clear hb4 hld4
              go_wp2_with fail
              go_ret
              exact RowsEnd.no HN.out (HWS.out.free (HBD.out.trans HB4.out))
            | true =>
              have hyes : list = lb := of_decide_eq_true hle
              have hR2 : R = rowsM N L f (rest.drop i) (overUp o list rest i) := by
                rw [HRK.out, if_pos ⟨by omega, by omega, by rw [HML.out]; omega, HOK.out, by rw [← HLB.out]; exact hyes⟩]
              have HR2 := Lib.hid hR2
              have heq2 : ∀ W, (EqSecS 80 (.agg (list.map bv).toArray) (.agg (lb.map bv).toArray)).run Try.prog W = .ok true W := fun W => by rw [heq, hle]
              have hcm : m + 1 ≤ c' := HS2.out.le
              have hsl := fun W : World => SliceS.low (P := Try.prog) (b := b) (off := off) (n := m + 1) (c := c') (k := 1 + i) (z := 1 + (i : Int)) Try.underlying86 i_wsector (by omega) (by omega) hcm W
              have haft := HS2.out.after HSS2.out HLF.out (k := 1 + i) (by omega)
              rw [show (list :: rest).drop (1 + i) = rest.drop i by rw [show 1 + i = i + 1 by omega]; rfl] at haft
              generalize hA3 : (if c' = 1 + i then (⟨b, off, none⟩ : Addr) else ⟨b, off + (1 + i) * 128, none⟩) = A3 at hsl haft
              have hA3b : ∀ a, some A3 = some a → ¬ Both F p go gs a.block := fun a ha => by
                injection ha with ha; subst ha
                have h0 := HA2.out _ rfl
                rw [← hA3]
                split <;> exact h0
              have HAFT := Lib.hid haft
              have HA3 := Lib.hid hA3b
              clear hyes hle hR2 heq haft hA3b hA3 hcm
              go_wp2_with fail
              go_region_held (fun W => W.rangeAt g 0 (list.map bv)) (first | exact HD0.out | assumption)
                ((go_at_call 46; refine HLIST.out.mono ?_; rintro e w4 ⟨rfl, hb4⟩; have hld4 := HLD.out w4 (HBD.out.trans hb4)))
              have HB4 := Lib.hid hb4
              clear hb4 hld4
              go_wp2_with fail
              refine ⟨⟨f, m + 1 - (1 + i), c' - (1 + i), some A3, rest.drop i, overUp o list rest i, rfl, by omega, HAFT.out, fun s hs => HSS2.out s (List.mem_cons_of_mem _ (List.mem_of_mem_drop hs)), by rw [List.length_drop, HML.out]; omega, by omega, HA3.out, HR2.out, HWS.out.free (HBD.out.trans HB4.out)⟩, ?_⟩
              show m + 1 - (1 + i) < m + 1
              omega
end
end Go.Proofs.Ytmhgahkainmbkaa
