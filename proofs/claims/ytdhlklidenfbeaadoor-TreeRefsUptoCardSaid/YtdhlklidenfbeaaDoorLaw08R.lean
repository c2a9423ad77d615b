/- The walk of TreeRefs. -/
import Derived.Test.YtdhlklidenfbeaaDoorLaw08T
import Derived.Test.YtdhlklidenfbeaaDoorLaw08P
import Derived.Test.YtdhlklidenfbeaaDoorSumText
import Derived.Test.YtdhlklidenfbeaaDoorRefPath
import Derived.Test.YtdhlklidenfbeaaDoorApp
import Derived.Test.YtdhlklidenfbeaaDoorRef08C
namespace Go.Proofs.YtdhlklidenfbeaaDoor
open Go.RowKit Go.Shelf
open Go.Sort (grow grow_empty)
set_option linter.unusedVariables false
set_option linter.unusedSimpArgs false

/-- A part of a slice. -/
theorem Slc.mid {w : World} {B b off n c : Nat} {xs : List Value} (h : Slc w B 1 (some ⟨b, off, none⟩) n c xs) {j m : Nat} (hjm : j + m ≤ n) : Slc w B 1 (some ⟨b, off + j, none⟩) m (c - j) ((xs.drop j).take m) :=
  ⟨by have := h.len; simp; omega, by have := h.le; omega, by have := h.cmax; omega, fun hp => by
    obtain ⟨b', off', e, hb, hc⟩ := h.at_ (by omega)
    injection e with e
    injection e with e1 e2
    subst e1 e2
    refine ⟨b, off + j, rfl, hb, fun i u hu => ?_⟩
    rw [Nat.add_assoc]
    refine hc (j + i) u ?_
    rw [List.getElem?_take] at hu
    split at hu
    · rwa [List.getElem?_drop] at hu
    · cases hu⟩
theorem map_mid (l : Txt) (j m : Nat) : ((l.map bv).drop j).take m = ((l.drop j).take m).map bv := by rw [List.map_take, List.map_drop]

def refsHd (N : Nat) : Txt := slash7 ++ hexl 16 N ++ [45]
theorem refsHd_length (N : Nat) : (refsHd N).length = 24 := by simp [refsHd, hexl_length, slash7]
theorem tailC_in (e : Txt) (k : Nat) (hk : k < e.length) (h : e[k].toNat % 13 < (ByteArray.mk #[97, 98, 99, 88, 89, 90, 48, 49, 57, 46, 95, 45, 43]).size) : (ByteArray.mk #[97, 98, 99, 88, 89, 90, 48, 49, 57, 46, 95, 45, 43])[e[k].toNat % 13] = tailC e k := by
  unfold tailC
  rw [List.getElem?_eq_getElem hk]
  have : ∀ n : Fin 13, ∀ h : n.1 < (ByteArray.mk #[97, 98, 99, 88, 89, 90, 48, 49, 57, 46, 95, 45, 43]).size, (ByteArray.mk #[97, 98, 99, 88, 89, 90, 48, 49, 57, 46, 95, 45, 43])[n.1] = ends13.getD n.1 101 := by decide
  exact this ⟨_, Nat.mod_lt _ (by decide)⟩ h
theorem tailC_out (e : Txt) (k : Nat) (hk : e.length ≤ k) : tailC e k = 101 := by
  unfold tailC
  rw [List.getElem?_eq_none hk]

def mk32 : Array Value := #[.int .u8 32]
theorem empty_own (w : World) (base : Nat) (hb : base ≤ w.heap.size) : (w.alloc (.cells #[] 5)).ownsRow base 5 1 (.slice (some ⟨w.heap.size, 0, none⟩) 0 0) 0 (([] : Txt).map bv) :=
  ⟨rfl, .inr ⟨w.heap.size, 0, #[], rfl, hb, heap_alloc_new w _, Nat.le_refl _, Nat.zero_le _, rfl, rfl⟩⟩
/-- Four appends that make the law's bytes. -/
structure DataMade (w : World) (A : Option Addr) (n c : Nat) (A1 : Option Addr) (n1 c1 : Nat) (P : Txt) (D : Txt) (w2 : World) (A2 : Option Addr) (c2 : Nat) (w3 : World) (A3 : Option Addr) (c3 : Nat) (w4 : World) (A4 : Option Addr) (c4 : Nat) (w5 : World) (A5 : Option Addr) (c5 : Nat) : Prop where
  r2 : (Builtin.append_ #[42, 42] 42 #[.slice (some ⟨w.heap.size, 0, none⟩) 0 0, .slice A n c]).run Tryd.prog (w.alloc (.cells #[] 5)) = .ok (.slice A2 n c2) w2
  r3 : (Builtin.append_ #[42, 9] 42 #[.slice A2 n c2, .string ⟨P.toArray⟩]).run Tryd.prog w2 = .ok (.slice A3 (n + P.length) c3) w3
  r4 : (Builtin.append_ #[42, 42] 42 #[.slice A3 (n + P.length) c3, .slice (some ⟨w3.heap.size, 0, none⟩) 1 1]).run Tryd.prog (w3.alloc (.cells #[.int .u8 32] 5)) = .ok (.slice A4 (n + P.length + 1) c4) w4
  r5 : (Builtin.append_ #[42, 42] 42 #[.slice A4 (n + P.length + 1) c4, .slice A1 n1 c1]).run Tryd.prog w4 = .ok (.slice A5 (n + P.length + 1 + n1) c5) w5
  own : w5.ownsRow w.heap.size 5 1 (.slice A5 (n + P.length + 1 + n1) c5) (n + P.length + 1 + n1) (D.map bv)
  bel : Below w.heap.size w w5
theorem data_made {w : World} {A A1 : Option Addr} {n c n1 c1 : Nat} {l0 l1 : Txt} {B : Nat} (h0 : Slc w B 1 A n c (l0.map bv)) (h1 : Slc w B 1 A1 n1 c1 (l1.map bv)) (hB : B ≤ w.heap.size) (P : Txt) (hn : n ≤ 10000000) (hn1 : n1 ≤ 10000000) (hP : P.length ≤ 10000000) :
    ∃ w2 A2 c2 w3 A3 c3 w4 A4 c4 w5 A5 c5, DataMade w A n c A1 n1 c1 P (l0 ++ P ++ 32 :: l1) w2 A2 c2 w3 A3 c3 w4 A4 c4 w5 A5 c5 := by
  have hb1 : Below w.heap.size w (w.alloc (.cells #[] 5)) := (Below.refl _ w).alloc (Nat.le_refl _) _
  obtain ⟨A2, c2, w2, r2, o2, g2, _⟩ := append_bytes (w.alloc (.cells #[] 5)) w.heap.size _ 0 [] (empty_own w w.heap.size (Nat.le_refl _)) B A n c l0 (h0.below (hb1.mono hB)) (by omega) (by simp)
  rw [Nat.zero_add] at r2 o2
  rw [List.nil_append] at o2
  have hb2 := grown_below hb1 (empty_own w w.heap.size (Nat.le_refl _)) (by simp) g2
  obtain ⟨A3, c3, w3, r3, o3, g3⟩ := append_txt w2 w.heap.size _ n l0 o2 ⟨P.toArray⟩ P rfl (by omega) hb2.size
  have hb3 := grown_below hb2 o2 hb2.size g3
  have hs := slc_new w3 5 (0, 0) #[.int .u8 32] (sz := 1) (n := 1) (c := 1) rfl (Nat.le_refl _) (by decide)
  have hb3' := hb3.alloc hb3.size (.cells #[.int .u8 32] 5)
  obtain ⟨A4, c4, w4, r4, o4, g4, _⟩ := append_bytes (w3.alloc (.cells #[.int .u8 32] 5)) w.heap.size _ _ _ (o3.alloc _) _ _ 1 1 [32] hs (by omega) hb3'.size
  have hb4 := grown_below hb3' (o3.alloc (.cells #[.int .u8 32] 5)) hb3'.size g4
  obtain ⟨A5, c5, w5, r5, o5, g5, _⟩ := append_bytes w4 w.heap.size _ _ _ o4 B A1 n1 c1 l1 (h1.below (hb4.mono hB)) (by omega) hb4.size
  have hb5 := grown_below hb4 o4 hb4.size g5
  exact ⟨w2, A2, c2, w3, A3, c3, w4, A4, c4, w5, A5, c5, r2, r3, r4, r5, by
    rw [show l0 ++ P ++ 32 :: l1 = l0 ++ P ++ [32] ++ l1 by simp]
    exact o5, hb5⟩

theorem data_refs {w : World} {base : Nat} {A : Option Addr} {n c : Nat} {D : Txt} (h : w.ownsRow base 5 1 (.slice A n c) n (D.map bv)) (hr : (refsAll [D]).length ≤ 1000000000) :
    Calls Tryd.prog 43 #[.slice (some ⟨w.heap.size, 0, none⟩) 1 1] (w.alloc (.cells #[.string ⟨#[120]⟩, .int .i64 1, .slice A n c] 44)) fun e w' => ∃ A' n' c', e = .returned (.slice A' n' c') ∧ w'.ownsRow w.heap.size 9 1 (.slice A' n' c') n' ((addAll [] (refsAll [D])).map encStr) ∧ Below w.heap.size w w' := by
  have hs := own_slc_of h
  have hE := ents_new w [⟨[120], 1, D, A, n, c⟩] 1 rfl (by decide) (fun e he => by rw [List.mem_singleton.1 he]; exact hs)
  refine (refs_any hE (by simp) hr).mono ?_
  rintro e w' ⟨A', n', c', rfl, ho, hb⟩
  exact ⟨A', n', c', rfl, own_mono ho (by simp), ((Below.refl w.heap.size w).alloc (Nat.le_refl _) _).trans (hb.mono (by simp))⟩
theorem refs_len (D : Txt) : (addAll [] (refsAll [D])).length ≤ D.length := by
  have h1 := addAll_length (refsAll [D]) []
  have h2 : refsAll [D] = refsOne D := by unfold refsAll; simp
  have h3 := refsTo_length D D.length
  rw [h2] at h1 ⊢
  unfold refsOne at *
  simp at h1
  omega

set_option maxRecDepth 100000 in
set_option maxHeartbeats 4000000 in
theorem treeRefs_any {w : World} {A A1 : Option Addr} {n c n1 c1 : Nat} {l0 l1 : Txt} (h0 : Slc w w.heap.size 1 A n c (l0.map bv)) (h1 : Slc w w.heap.size 1 A1 n1 c1 (l1.map bv)) (N : UInt64) (e : Txt)
    (hn : n ≤ 10000000) (hn1 : n1 ≤ 10000000) (he : e.length ≤ 10000000) :
    Calls Tryd.prog 9 #[.slice A n c, .slice A1 n1 c1, .int .u64 (N.toNat : Int), .string ⟨e.toArray⟩] w fun v w' => v = .returned (.bool true) ∧ Below w.heap.size w w' := by
  have hs := shown08_any w
  have H0 := Lib.hid h0
  have H1 := Lib.hid h1
  have hl0 : l0.length = n := by have := h0.len; simpa using this
  have hl1 : l1.length = n1 := by have := h1.len; simpa using this
  have HL0 := Lib.hid hl0
  have HL1 := Lib.hid hl1
  have HLH := Lib.hid (refsHd_length N.toNat)
  clear h0 h1 hl0 hl1
  go_enter Tryd.func9, Tryd.ntmps9
  go_wp2_with (go_at_call 42; refine hs.mono ?_; clear hs; rintro e1 w1 ⟨rfl, hb1⟩)
  have HB1 := Lib.hid hb1
  clear hb1
  go_loop [2, 10, 11] (fun t x i => ∃ k : Nat, k ≤ 16 ∧ i = .int .i64 (k : Int) ∧ t = .int .u64 ((N.toNat / 16 ^ k : Nat) : Int) ∧ x = .string ⟨(hexl k N.toNat).toArray⟩) (fun _ _ i => 16 - (intOf i).toNat)
  case atStart => exact ⟨0, by omega, rfl, by simp, rfl⟩
  case round =>
    obtain ⟨k, hk, rfl, rfl, rfl⟩ := hrel
    by_cases hlt : k < 16
    · have HT := Lib.hid (hexl_succ k N.toNat)
      have hlen := hexl_length k N.toNat
      have HD := Lib.hid (show N.toNat / 16 ^ k / 16 = N.toNat / 16 ^ (k + 1) by rw [Nat.div_div_eq_div_mul, ← Nat.pow_succ])
      have ht : N.toNat / 16 ^ k < 18446744073709551616 := Nat.lt_of_le_of_lt (Nat.div_le_self _ _) (u64_lt N)
      generalize N.toNat / 16 ^ k = t at *
      have hmask : bits BinOp.and IntKind.u64 (t : Int) 15 = ((t % 16 : Nat) : Int) := by
        rw [show (15 : Int) = ((15 : Nat) : Int) from rfl, u64_and_nat _ _ ht (by decide), nat_mask4]
      have hd : t % 16 < 16 := Nat.mod_lt _ (by decide)
      generalize hx : hexl k N.toNat = x at *
      have Hx := Lib.hid hx
      clear hx
      have hext := digs_ext _ hd
      have hsz : t % 16 + 1 ≤ 16 := by omega
      generalize hdd : t % 16 = d at *
      have Hdd := Lib.hid hdd
      clear hdd ht
      go_wp2
      refine ⟨⟨k + 1, by omega, by go_num, by rw [← HD.out]; rfl, ?_⟩, by simp [intOf]; omega⟩
      rw [HT.out, ByteArray.mk_append_mk]
      rfl
    · obtain rfl : k = 16 := by omega
      have hhd : (⟨#[47, 115, 116, 111, 114, 101, 47]⟩ : ByteArray) ++ ⟨(hexl 16 N.toNat).toArray⟩ ++ ⟨#[45]⟩ = ⟨(refsHd N.toNat ++ tailL e 0).toArray⟩ := by
        apply Go.WideShapes.bytes_inj
        simp [refsHd, slash7, tailL_zero]
      have hlen := hexl_length 16 N.toNat
      go_wp2_with (fail)
      clear hlen hhd
      go_loopw [12, 13] (fun x i wr => ∃ k : Nat, k ≤ 19 ∧ (k ≤ e.length ∨ k ≤ 1) ∧ i = .int .i64 (k : Int) ∧ x = .string ⟨(refsHd N.toNat ++ tailL e k).toArray⟩ ∧ Aside (Below w.heap.size w wr)) (fun _ i _ => 19 - (intOf i).toNat)
      case atStart => exact ⟨0, by omega, .inr (by omega), rfl, rfl, HB1.out⟩
      case round =>
        obtain ⟨k, hk, hke, rfl, rfl, hb⟩ := hrel
        have hlen : (refsHd N.toNat ++ tailL e k).length = 24 + k := by rw [List.length_append, HLH.out, tailL_length]
        by_cases hA : k < e.length ∧ k < 19
        · obtain ⟨hA1, hA2⟩ := hA
          have hx : k < (ByteArray.mk e.toArray).size := hA1
          obtain ⟨m, hm⟩ : ∃ m, m = e[k].toNat % 13 := ⟨_, rfl⟩
          have hm13 : m < 13 := by rw [hm]; exact Nat.mod_lt _ (by decide)
          have hch : ∀ h : m < (ByteArray.mk #[97, 98, 99, 88, 89, 90, 48, 49, 57, 46, 95, 45, 43]).size, (ByteArray.mk #[97, 98, 99, 88, 89, 90, 48, 49, 57, 46, 95, 45, 43])[m] = tailC e k := by subst hm; exact fun h => tailC_in e k hA1 h
          have hw13 : (wrap64 ((ByteArray.mk e.toArray)[k].toNat : Int)).tmod 13 = (m : Int) := by
            show (wrap64 (e[k].toNat : Int)).tmod 13 = (m : Int)
            have h1 := u8_lt e[k]
            have h2 : wrap64 (e[k].toNat : Int) = (e[k].toNat : Int) := by unfold wrap64; omega
            rw [h2, hm, Int.tmod_eq_emod_of_nonneg (by omega)]
            omega
          have hcv := convert_bytes (P := Tryd.prog) Tryd.underlying42 Tryd.underlying5 (l := [tailC e k]) (slc_new wr 5 (0, 0) #[.int .u8 ((tailC e k).toNat : Int)] (sz := 1) (n := 1) (c := 1) rfl (Nat.le_refl _) (by decide)) 9 Tryd.underlying9
          have HTS := Lib.hid (tailL_succ e k)
          have HBN := Lib.hid (hb.out.alloc hb.out.size (.cells #[.int .u8 ((tailC e k).toNat : Int)] 5))
          clear hke hm
          generalize tailC e k = ch at *
          go_wp2_with (fail)
          refine ⟨⟨k + 1, by omega, .inl (by omega), by go_num, ?_, HBN.out⟩, by simp [intOf]; omega⟩
          rw [ByteArray.mk_append_mk, HTS.out]
          simp
        · by_cases hB : k < 1 ∧ e.length ≤ k
          · obtain ⟨hB1, hB2⟩ := hB
            have hto : tailC e k = 101 := tailC_out e k hB2
            have hcv := convert_bytes (P := Tryd.prog) Tryd.underlying42 Tryd.underlying5 (l := [101]) (slc_new wr 5 (0, 0) #[.int .u8 101] (sz := 1) (n := 1) (c := 1) rfl (Nat.le_refl _) (by decide)) 9 Tryd.underlying9
            have HTS := Lib.hid (tailL_succ e k)
            rw [hto] at HTS
            have HBN := Lib.hid (hb.out.alloc hb.out.size (.cells #[.int .u8 101] 5))
            have h19 : k < 19 := by omega
            have hnl : ¬ k < e.length := by omega
            clear hke hto hA
            go_wp2_with (fail)
            refine ⟨⟨k + 1, by omega, .inr (by omega), by go_num, ?_, HBN.out⟩, by simp [intOf]; omega⟩
            rw [ByteArray.mk_append_mk, HTS.out]
            simp
          · have hk1 : ¬ k < 1 := by omega
            have hP : pathB (refsHd N.toNat ++ tailL e k) = true := path_made N.toNat _ (fun h => by have := congrArg List.length h; rw [tailL_length] at this; simp at this; omega) (by rw [tailL_length]; exact hk) (tailL_all e k)
            have HP := Lib.hid hP
            have hkx : (¬ k < e.length) ∨ (k < e.length ∧ ¬ k < 19) := by omega
            clear hP hke hA hB
            generalize refsHd N.toNat ++ tailL e k = P at *
            have hPl := pathB_len HP.out
            have HBR := Lib.hid hb.out
            obtain ⟨w2, A2, c2, w3, A3, c3, w4, A4, c4, w5, A5, c5, hdm⟩ := data_made (w := wr) (H0.out.below hb.out) (H1.out.below hb.out) hb.out.size P hn hn1 (by omega)
            obtain ⟨D, hD⟩ : ∃ D, D = l0 ++ P ++ 32 :: l1 := ⟨_, rfl⟩
            rw [← hD] at hdm
            have hDl : D.length = n + P.length + 1 + n1 := by have := hdm.own.1; simpa using this
            have HDL := Lib.hid hDl
            have HFD := Lib.hid (show P ∈ addAll [] (refsAll [D]) by rw [hD]; exact refs_found l0 P l1 HP.out 32 (by decide))
            have HSD := Lib.hid (fun r h => refs_stands D r h)
            have HRS := Lib.hid (addAll_rises (refsAll [D]) (l := []) List.Pairwise.nil)
            obtain ⟨g5, hg5⟩ : ∃ g, A5 = some ⟨g, 0, none⟩ := by
              obtain ⟨A', c', e', hs', hz'⟩ := own_slc hdm.own
              injection e' with e1 _ e3
              obtain ⟨b', off', e4, _, _⟩ := hs'.at_ (by omega)
              have h7 := hz' _ e4
              rw [e1, e4, show off' = 0 from h7.2.1]
              exact ⟨b', rfl⟩
            subst hg5
            have HM2 := Lib.hid hdm.r2
            have HM3 := Lib.hid hdm.r3
            have HM4 := Lib.hid hdm.r4
            have HM5 := Lib.hid hdm.r5
            have HO5 := Lib.hid hdm.own
            have HB5 := Lib.hid (HBR.out.trans (hdm.bel.mono HBR.out.size))
            have hrf := data_refs hdm.own (by unfold refsAll; simp only [List.flatMap_cons, List.flatMap_nil, List.append_nil]; exact Nat.le_trans (refsTo_length D _) (by rw [hDl]; omega))
            have HLL := Lib.hid (refs_len D)
            obtain ⟨L, hL⟩ : ∃ L, L = addAll [] (refsAll [D]) := ⟨_, rfl⟩
            rw [← hL] at HFD HSD HRS hrf HLL
            clear hL
            have HLEN := Lib.hid hlen
            have HPL := Lib.hid hPl
            clear hdm hD hDl hlen hPl
            rcases hkx with hq | ⟨hq, hq'⟩
            all_goals
              go_wp2_with (first
                | (at_builtin; refine wpList_append_run rfl _ _ _ rfl rfl rfl HM2.out ?_; clear HM2)
                | (at_builtin; refine wpList_append_run2 rfl _ _ _ _ rfl rfl rfl HM3.out ?_; clear HM3)
                | (at_builtin; refine wpList_append_run rfl _ _ _ rfl rfl rfl HM4.out ?_; clear HM4)
                | (at_builtin; refine wpList_append_run rfl _ _ _ rfl rfl rfl HM5.out ?_; clear HM5)
                | (go_at_call 43; refine hrf.mono ?_; clear hrf; rintro e9 w9 ⟨A9, n9, c9, rfl, ho9, hb9⟩))
              have hn9 : n9 = L.length := by have := ho9.1; simpa using this.symm
              have hn9b : n9 ≤ 30000100 := by have := HLL.out; have := HDL.out; have := HPL.out.2; omega
              have HN9 := Lib.hid hn9
              have HS9 := Lib.hid (own_slc_of ho9)
              have HS5 := Lib.hid ((own_slc_of HO5.out).below hb9)
              have HB9 := Lib.hid (HB5.out.trans (hb9.mono HB5.out.size))
              have hlt5 : w5.heap.size ≤ w9.heap.size := hb9.size
              have hPl2 := HPL.out.2
              clear hn9 ho9 hb9
              go_loopw [17, 18] (fun f i wq => ∃ k : Nat, k ≤ n9 ∧ i = .int .i64 (k : Int) ∧ f = .bool (hitTo L P k) ∧ Aside (Below w9.heap.size w9 wq)) (fun _ i _ => n9 - (intOf i).toNat)
              case atStart => exact ⟨0, Nat.zero_le _, rfl, rfl, Below.refl _ _⟩
              case round =>
                obtain ⟨k, hk, rfl, rfl, hb⟩ := hrel
                obtain ⟨wq, rfl⟩ : ∃ wo : World, wo = wr := ⟨_, rfl⟩
                by_cases hlt : k < n9
                · obtain ⟨b, off, rfl, hbB, hl, c0⟩ := (HS9.out.below hb.out).str hlt
                  have hrm : L[k] ∈ L := List.getElem_mem hl
                  obtain ⟨hr1, hr2, hr3⟩ := HSD.out _ hrm
                  have HHS := Lib.hid (hitTo_succ L P k hl)
                  have hSTEP := Lib.hid (fun (h0 : 0 < k) (hl' : k - 1 < L.length) => rises_get HRS.out hl' hl (show k - 1 < k by omega))
                  have hr25 := pathB_len hr1
                  have HR3 := Lib.hid hr3
                  have hrD : L[k].length ≤ n + P.length + 1 + n1 := by rw [← HDL.out]; exact hr2
                  have HR1 := Lib.hid hr1
                  have HBQ := Lib.hid hb.out
                  have HSQ := Lib.hid (HS9.out.below hb.out)
                  have HSD5 := Lib.hid ((HS5.out.below (hb.out.mono hlt5)))
                  have HLK := Lib.hid (show L[k] = L[k] from rfl)
                  obtain ⟨r, hr⟩ : ∃ r, r = L[k] := ⟨_, rfl⟩
                  rw [← hr] at c0 hr25 HR3 hrD HR1 HHS hSTEP
                  have HRK := Lib.hid hr
                  clear hr1 hr2 hr3 hrm hb hr HLK
                  have hcr : (ByteArray.mk r.toArray).toList = r := Go.ByteArray.toList_eq _
                  go_wp2_with (fail)
                  go_loopw [19, 20] (fun f i wr => ∃ j : Nat, j + r.length ≤ n + P.length + 1 + n1 + 1 ∧ i = .int .i64 (j : Int) ∧ f = .bool (inTo D r j) ∧ Aside (∃ q, wr = wq.drewN q)) (fun _ i _ => n + P.length + 1 + n1 + 1 - (intOf i).toNat)
                  case atStart => exact ⟨0, by omega, rfl, rfl, 0, rfl⟩
                  case round =>
                    obtain ⟨j, hj, rfl, rfl, hq2⟩ := hrel
                    have hbq : ∀ B, Below B wq wr := fun B => by obtain ⟨q0, h0⟩ := hq2.out; rw [h0]; exact ⟨rfl, rfl, rfl, Nat.le_refl _, fun _ _ => rfl⟩
                    have c1 : wr.cell? ⟨b, off + k, none⟩ = some (.string ⟨r.toArray⟩) := ((hbq (b + 1)).cell (p := ⟨b, off + k, none⟩) (Nat.lt_succ_self b)).trans c0
                    by_cases hjl : j + r.length ≤ n + P.length + 1 + n1
                    · have HIS := Lib.hid (inTo_succ D r j)
                      have hjc : j < c5 := by have := (HSD5.out).le; omega
                      have hcap : n + P.length + 1 + n1 ≤ c5 := (HSD5.out).le
                      have hcv := fun m : Nat => convert_bytes (P := Tryd.prog) Tryd.underlying42 Tryd.underlying5 (l := (D.drop j).take r.length) (map_mid D j r.length ▸ ((HSD5.out.below ((hbq _).trans (dr_below wr m)))).mid hjl) 9 Tryd.underlying9
                      have htl : (ByteArray.mk ((D.drop j).take r.length).toArray).toList = (D.drop j).take r.length := Go.ByteArray.toList_eq _
                      simp only [Nat.zero_add] at hcv
                      have hw : IntKind.i64.wrap ((j : Int) + (r.length : Int)) = ((j + r.length : Nat) : Int) := by rw [IntWalk.i64_in _ (by omega)]; omega
                      have hb1 : j ≤ j + r.length := by omega
                      have hb2 : j + r.length ≤ c5 := by omega
                      have hb3 : j + r.length - j = r.length := by omega
                      clear hbq
                      cases hin : inTo D r j with
                      | true =>
                        rw [hin] at HIS
                        clear hcv hin hw hb1 hb2 hb3
                        go_wp2_with (fail)
                        go_quiet (fail)
                        go_wp2
                        exact ⟨⟨j + 1, by omega, by go_num, by rw [HIS.out]; rfl, drewN_more hq2.out _⟩, by simp [intOf]; omega⟩
                      | false =>
                        rw [hin] at HIS
                        clear hin
                        cases heq : ((D.drop j).take r.length == r) with
                        | true =>
                          have HX := Lib.hid (show inTo D r (j + 1) = true by rw [HIS.out, show decide ((D.drop j).take r.length = r) = true from decide_eq_true (by simpa using heq)]; rfl)
                          go_wp2_with (fail)
                          go_quiet (fail)
                          go_wp2
                          exact ⟨⟨j + 1, by omega, by go_num, by rw [HX.out], drewN_more hq2.out _⟩, by simp [intOf]; omega⟩
                        | false =>
                          have HX := Lib.hid (show inTo D r (j + 1) = false by rw [HIS.out, show decide ((D.drop j).take r.length = r) = false from decide_eq_false (by simpa using heq)]; rfl)
                          go_wp2_with (fail)
                          go_quiet (fail)
                          go_wp2
                          exact ⟨⟨j + 1, by omega, by go_num, by rw [HX.out], drewN_more hq2.out _⟩, by simp [intOf]; omega⟩
                    · have hjt : inTo D r j = true := inTo_mono D r (by have := HDL.out; omega) HR3.out
                      rw [hjt]
                      clear hjt
                      have HBW := Lib.hid (show Below w9.heap.size w9 wr from HBQ.out.trans (hbq _))
                      have hr0 := cell_regrown c1
                      have HP0 := Lib.hid (isPath_any r)
                      have HC := Lib.hid (show ∀ d os, Calls Tryd.prog 44 #[.string ⟨r.toArray⟩] (grow (redrawn wr d) os) fun v w'' => v = .returned (.bool true) ∧ ∃ p : Regrown, w'' = grow (redrawn wr p.d) p.os from fun d os => Calls.regrown_of ((HP0.out _ (by unfold maxLen; omega)).mono fun v w' h => ⟨by rw [← HR1.out]; exact h.1, h.2⟩))
                      clear hbq HP0
                      by_cases hk0 : 0 < k
                      focus
                        obtain ⟨m, hm⟩ : ∃ m, k = m + 1 := ⟨k - 1, by omega⟩
                        obtain ⟨b', off', hA, _, hml, d0⟩ := (HS9.out.below HBW.out).str (k := m) (by omega)
                        injection hA with hA
                        injection hA with e1 e2
                        subst e1 e2
                        have hlp : L[m] < r := by
                          have h1 := hSTEP.out hk0 (by omega)
                          have h2 : k - 1 = m := by omega
                          simp only [h2] at h1
                          exact h1
                        have hcmp := less_str L[m] r
                        have hcmp2 := bytesLess_txt L[m] r
                        rw [decide_eq_true hlp] at hcmp hcmp2
                        have hd0 := cell_regrown d0
                        have hwm : IntKind.i64.wrap ((k : Int) - 1) = (m : Int) := by rw [IntWalk.i64_in _ (by omega)]; omega
                        have hmn : m < n9 := by omega
                        generalize L[m] = pv at *
                        clear hlp hm
                      rotate_left
                      focus
                        have hk1' : decide (0 < k) = false := decide_eq_false hk0
                        have hk2' : decide ((0 : Int) < (k : Int)) = false := decide_eq_false (by omega)
                      all_goals
                        go_wp2_with (fail)
                        refine wp_region_quiet_below (by kernel_rfl) (by kernel_rfl) ?_
                        repeat (any_goals (first | go_big_quiet_step ((go_at_call 44; exact HC.out _ _)) | quiet_step ((go_at_call 44; exact HC.out _ _))))
                        refine wpQuiet_nil ?_
                        intro _ hw'
                        obtain ⟨⟨dq, osq⟩, hw''⟩ := hw'
                        subst hw''
                        have HB3 := Lib.hid (HBW.out.trans ((below_regrown wr dq osq).mono HBW.out.size))
                        have c3 := hr0 dq osq
                        have tP : (ByteArray.mk P.toArray).toList = P := Go.ByteArray.toList_eq _
                        cases hh : hitTo L P k with
                        | true =>
                          rw [hh] at HHS
                          clear hh
                          go_wp2_with (fail)
                          exact ⟨⟨k + 1, by omega, by go_num, by rw [HHS.out]; rfl, HB3.out⟩, by simp [intOf]; omega⟩
                        | false =>
                          rw [hh] at HHS
                          clear hh
                          cases hrp : (r == P) with
                          | true =>
                            have HX := Lib.hid (show hitTo L P (k + 1) = true by rw [HHS.out, show decide (r = P) = true from decide_eq_true (by simpa using hrp)]; rfl)
                            go_wp2_with (fail)
                            exact ⟨⟨k + 1, by omega, by go_num, by rw [HX.out], HB3.out⟩, by simp [intOf]; omega⟩
                          | false =>
                            have HX := Lib.hid (show hitTo L P (k + 1) = false by rw [HHS.out, show decide (r = P) = false from decide_eq_false (by simpa using hrp)]; rfl)
                            go_wp2_with (fail)
                            exact ⟨⟨k + 1, by omega, by go_num, by rw [HX.out], HB3.out⟩, by simp [intOf]; omega⟩
                · obtain rfl : k = n9 := by omega
                  have hh : hitTo L P k = true := by rw [HN9.out]; exact hitTo_all L P HFD.out
                  rw [hh]
                  have HF := Lib.hid (HB9.out.trans (hb.out.mono HB9.out.size))
                  clear hh
                  go_wp2_with (fail)
                  go_ret
                  exact ⟨rfl, HF.out⟩
end Go.Proofs.YtdhlklidenfbeaaDoor
