/- The walks of the reference's decimal and Bytes (bootjackref08). -/
import Derived.Test.YtdhlklidenfbeaaGreatDoorRef08B
import Derived.Test.YtdhlklidenfbeaaGreatDoorBytes
import Derived.Test.YtdhlklidenfbeaaGreatDoorApp
import Derived.Test.YtdhlklidenfbeaaGreatDoorTreeRefs
import Derived.Lib.SlBytesConst
namespace Go.Proofs.YtdhlklidenfbeaaGreatDoor
open Go.RowKit Go.Shelf
set_option linter.unusedVariables false
set_option linter.unusedSimpArgs false

theorem decDigits_step (m : Nat) (h : ¬ m < 10) : Lib.decDigits m = Lib.decDigits (m / 10) ++ [UInt8.ofNat (48 + m % 10)] := by
  rw [Lib.decDigits, dif_neg h]
theorem itoa_nat (n : Nat) : Lib.itoa (n : Int) = Lib.decDigits n := by
  unfold Lib.itoa
  rw [if_neg (by omega), Int.toNat_natCast]
theorem digit_byte (m : Nat) : ((UInt8.ofNat (48 + m % 10)).toNat : Int) = ((48 + m % 10 : Nat) : Int) := by
  rw [UInt8.toNat_ofNat_of_lt' (by have := Nat.mod_lt m (show 0 < 10 by decide); show 48 + m % 10 < 2 ^ 8; omega)]
set_option maxRecDepth 100000 in
set_option maxHeartbeats 1000000 in
theorem decimal_any (n : Nat) (w : World) (hn : n < 100000) :
    Calls Tryz.prog 65 #[.int .i64 (n : Int)] w fun e w' => e = .returned (.string ⟨(Lib.itoa (n : Int)).toArray⟩) ∧ Below w.heap.size w w' := by
  have HI := Lib.hid (itoa_nat n)
  have hlen : (Lib.decDigits n).length ≤ 1000 := by rw [← itoa_nat]; exact itoa_len n hn
  go_enter Tryz.func65, Tryz.ntmps65
  go_wp2_with (fail)
  go_loopw [0, 3] (fun v s wr => ∃ (m : Nat) (t : Txt), m < 100000 ∧ v = .int .i64 (m : Int) ∧ s = .string ⟨t.toArray⟩ ∧ Aside (Lib.decDigits n = Lib.decDigits m ++ t) ∧ Aside (Below w.heap.size w wr)) (fun v _ _ => (intOf v).toNat)
  case atStart => exact ⟨n, [], hn, rfl, rfl, (List.append_nil _).symm, Below.refl _ _⟩
  case round =>
    obtain ⟨m, t, hm, rfl, rfl, hd, hb⟩ := hrel
    have htl : t.length ≤ 1000 := by have := congrArg List.length hd.out; rw [List.length_append] at this; omega
    have hcv := convert_bytes (P := Tryz.prog) Tryz.underlying32 Tryz.underlying5 (l := [UInt8.ofNat (48 + m % 10)]) (slc_new wr 5 (0, 0) #[.int .u8 ((UInt8.ofNat (48 + m % 10)).toNat : Int)] (sz := 1) (n := 1) (c := 1) rfl (Nat.le_refl _) (by decide)) 9 Tryz.underlying9
    have hdb : ((UInt8.ofNat (48 + m % 10)).toNat : Int) = 48 + (m : Int) % 10 := by rw [digit_byte]; omega
    rw [hdb] at hcv
    have HB := Lib.hid (hb.out.alloc hb.out.size (.cells #[.int .u8 (48 + (m : Int) % 10)] 5))
    have hq1 : ¬ 9223372036854775807 < 1 + t.length := by omega
    have hdiv : IntKind.i64.wrap ((m : Int).tdiv 10) = ((m / 10 : Nat) : Int) := by
      rw [Int.tdiv_eq_ediv_of_nonneg (by omega), IntWalk.i64_in _ (by omega)]
      omega
    clear hdb hb
    generalize hcb : UInt8.ofNat (48 + m % 10) = cb at *
    have HCB := Lib.hid hcb
    clear hcb
    by_cases hlt : m < 10
    · have HX := Lib.hid (show Lib.itoa (n : Int) = cb :: t by rw [HI.out, hd.out, Lib.decDigits_one hlt, ← HCB.out, Nat.mod_eq_of_lt hlt]; rfl)
      have hz : (((m / 10 : Nat) : Int) == 0) = true := by rw [beq_iff_eq]; omega
      clear hd
      go_wp2_with (fail)
      go_ret
      exact ⟨by rw [HX.out]; exact congrArg (fun b : ByteArray => Ending.returned (.string b)) (by apply Go.WideShapes.bytes_inj; simp), HB.out⟩
    · have HX := Lib.hid (show Lib.decDigits n = Lib.decDigits (m / 10) ++ (cb :: t) by rw [hd.out, decDigits_step m hlt, HCB.out, List.append_assoc]; rfl)
      have hz : (((m / 10 : Nat) : Int) == 0) = false := by rw [beq_eq_false_iff_ne]; omega
      clear hd
      go_wp2_with (fail)
      exact ⟨⟨m / 10, cb :: t, by omega, rfl, congrArg Value.string (by apply Go.WideShapes.bytes_inj; simp), HX.out, HB.out⟩, by simp [intOf]; omega⟩

theorem space_cat (t : Txt) : ((⟨#[32]⟩ : ByteArray) ++ ⟨t.toArray⟩ ++ ⟨#[10]⟩).data.toList = [32] ++ t ++ [10] := by simp
theorem entT_cut (x : Ent) : entT x = kindW x.kind ++ x.path ++ ([32] ++ Lib.itoa (x.data.length : Int) ++ [10]) ++ x.data ++ [10] := by
  unfold entT
  simp
set_option maxRecDepth 100000 in
set_option maxHeartbeats 2000000 in
theorem refBytes_any {w : World} {B : Nat} {A : Option Addr} {n c : Nat} {es : List EV} (h : EntsAt w B A n c es) (hB : B ≤ w.heap.size) (hp : ∀ e ∈ es, e.path.length ≤ 1000000000) :
    Calls Tryz.prog 39 #[.slice A n c] w (BytesPost w (bytesB (es.map EV.ent))) := by
  have hrt := refRight08_any h hB hp
  obtain ⟨l, hl⟩ : ∃ l, l = es.map EV.ent := ⟨_, rfl⟩
  have hll : l.length = n := by rw [hl, List.length_map, h.len]
  rw [← hl] at hrt ⊢
  cases hr : rightB l with
  | false =>
    have HG := Lib.hid (show bytesB l = [] by unfold bytesB; rw [if_neg (by rw [hr]; decide)])
    rw [hr] at hrt
    clear h hp hl hll hr
    go_enter Tryz.func39, Tryz.ntmps39
    go_wp2_with (go_at_call 64; refine hrt.mono ?_; clear hrt; rintro e1 w1 ⟨rfl, hb1⟩)
    go_ret
    exact ⟨none, 0, 0, rfl, by rw [HG.out]; exact World.ownsRow_nil _ _ _ _, hb1⟩
  | true =>
    have hlen := rightB_len hr
    have HT := Lib.hid (show bytesB l = entsT l l.length ++ [101, 110, 100, 10] by unfold bytesB; rw [if_pos hr])
    have HTL := Lib.hid (entsT_length hlen)
    have HEL := Lib.hid hlen
    have HKD := Lib.hid (fun (i : Nat) (hi : i < l.length) => show l[i].kind = 3 ∨ l[i].kind = 1 from entryB_kind (by
      have h1 := (rightB_entry hr).2 i hi
      unfold fitsB at h1
      rw [Bool.and_eq_true] at h1
      exact h1.1))
    have H := Lib.hid h
    have HL := Lib.hid hl
    have HLL := Lib.hid hll
    have hn62 : n ≤ 9223372036854775807 := by omega
    have kc := fun (w : World) (C : Array Value) (n c : Nat) => Lib.run_convert_bytes_const (P := Tryz.prog) w 32 5 C n c Tryz.underlying32 Tryz.underlying5
    rw [hr] at hrt
    clear h hp hl hll hr hlen
    go_enter Tryz.func39, Tryz.ntmps39
    go_wp2_with (go_at_call 64; refine hrt.mono ?_; clear hrt; rintro e1 w1 ⟨rfl, hb1⟩)
    have HB1 := Lib.hid (hb1.alloc hb1.size (.cells #[.int .u8 116, .int .u8 114, .int .u8 101, .int .u8 101, .int .u8 10] 5 (5, 6)))
    have hs0 := slc_new w1 5 (5, 6) #[.int .u8 116, .int .u8 114, .int .u8 101, .int .u8 101, .int .u8 10] (sz := 1) (n := 5) (c := 5) rfl (Nat.le_refl _) (by decide)
    have HS0 := Lib.hid (show BufB (w1.alloc (.cells #[.int .u8 116, .int .u8 114, .int .u8 101, .int .u8 101, .int .u8 10] 5 (5, 6))) w.heap.size (some ⟨w1.heap.size, 0, none⟩) 5 5 (entsT l 0) from .inr ⟨by rw [entsT_zero, World.size_alloc]; exact hs0, rfl, _, rfl⟩)
    clear hs0 hb1 kc
    go_loopw [4, 5] (fun o i wr => ∃ (k : Nat) (A4 : Option Addr) (n4 c4 : Nat), k ≤ n ∧ i = .int .i64 (k : Int) ∧ o = .slice A4 n4 c4 ∧ Aside (BufB wr w.heap.size A4 n4 c4 (entsT l k)) ∧ Aside (Below w.heap.size w wr)) (fun _ i _ => n - (intOf i).toNat)
    case atStart => exact ⟨0, _, _, _, Nat.zero_le _, rfl, rfl, HS0.out, HB1.out⟩
    case round =>
      obtain ⟨k, A4, n4, c4, hk, rfl, rfl, hbuf, hb⟩ := hrel
      have hl4 : n4 = (entsT l k).length := by have := hbuf.out.slc.len; rw [List.length_map] at this; omega
      have hl5 : n4 ≤ 100000 := by rw [hl4]; exact HTL.out k
      have HL4 := Lib.hid hl4
      clear hl4
      have hsw : w.heap.size ≤ wr.heap.size := hb.out.size
      by_cases hkn : k < n
      · obtain ⟨b, off, rfl, hbB, hkl, c0, c1, c2, hS⟩ := (H.out.below (hb.out.mono hB)).at_ hkn
        have hkl' : k < l.length := by rw [HLL.out]; exact hkn
        have hlk : l[k] = es[k].ent := by have := HL.out; subst this; exact ents_get hkl hkl'
        have hle := HEL.out.2 _ (List.getElem_mem hkl')
        have hkd := HKD.out k hkl'
        rw [hlk] at hle hkd
        have HSU := Lib.hid ((entsT_succ l k hkl').trans (by rw [hlk]))
        generalize es[k] = e at *
        obtain ⟨path, kind, data, A', m, c'⟩ := e
        simp only [EV.ent] at c0 c1 c2 hS hle HSU hkd
        have hdl : data.length = m := by have := hS.len; simpa using this
        have hbl : b < w.heap.size := Nat.lt_of_lt_of_le hbB hB
        have hm : m ≤ 2048 := by omega
        have hpl := hle.1
        have HK := Lib.hid (fun (W : World) (hw : Below w.heap.size wr W) => show W.cell? ⟨b, off + k * 3, none⟩ = some (.string ⟨path.toArray⟩) ∧ W.cell? ⟨b, off + k * 3 + 2, none⟩ = some (.slice A' m c') from
          ⟨(hw.cell (p := ⟨b, off + k * 3, none⟩) hbl).trans c0, (hw.cell (p := ⟨b, off + k * 3 + 2, none⟩) hbl).trans c2⟩)
        have HDL := Lib.hid hdl
        have HSS := Lib.hid hS
        have hkdw : ∃ kw : ByteArray, kw.data.toList = kindW kind ∧ ((kind == 1) = true ∧ kw = ⟨#[102, 32]⟩ ∨ (kind == 1) = false ∧ kw = ⟨#[108, 32]⟩) := by
          rcases hkd with h3 | h1
          · exact ⟨⟨#[108, 32]⟩, by unfold kindW; simp [h3], .inr ⟨by rw [h3]; rfl, rfl⟩⟩
          · exact ⟨⟨#[102, 32]⟩, by unfold kindW; simp [h1], .inl ⟨by rw [h1]; rfl, rfl⟩⟩
        obtain ⟨kw, hkw, hkc⟩ := hkdw
        have hkl2 : (kindW kind).length = 2 := kindW_length kind
        obtain ⟨A5, n5, c5, w5, hr5, ho5, hb5⟩ := hbuf.out.txt kw (kindW kind) hkw (by omega) (by omega) hsw
        have hn5 : n5 ≤ 100002 := by have := ho5.1; rw [List.length_map, List.length_append, ← HL4.out, hkl2] at this; omega
        obtain ⟨A6, n6, c6, w6, hr6, ho6, hb6⟩ := own_txt ho5 ⟨path.toArray⟩ path rfl (by omega) (Nat.le_trans hsw hb5.size)
        have hb6' := hb5.trans hb6
        have hn6 : n6 ≤ 200000 := by have := ho6.1; rw [List.length_map, List.length_append, List.length_append, ← HL4.out, hkl2] at this; omega
        obtain ⟨p0, _⟩ := HK.out w5 hb5
        obtain ⟨_, q2⟩ := HK.out w6 hb6'
        have hdec := decimal_any m w6 (by omega)
        have HIL := Lib.hid (itoa_len m (by omega))
        have HO6 := Lib.hid ho6
        have HB6 := Lib.hid hb6'
        have HR5 := Lib.hid hr5
        have HR6 := Lib.hid hr6
        have hq1 : (Lib.itoa (m : Int)).length ≤ 1000 := itoa_len m (by omega)
        have hq2 : ¬ 9223372036854775807 < 1 + (Lib.itoa (m : Int)).length := by omega
        have hq3 : ¬ 9223372036854775807 < 1 + (Lib.itoa (m : Int)).length + 1 := by omega
        clear hS hdl hle hkd hkw hkl2 ho5 hb5 hr5 hr6 ho6 hb6 hb6' hbuf
        rcases hkc with ⟨hk1, rfl⟩ | ⟨hk1, rfl⟩
        all_goals
          go_wp2_with (first
            | (at_builtin; refine wpList_append_run2 rfl _ _ _ _ rfl rfl rfl HR5.out ?_; clear HR5)
            | (at_builtin; refine wpList_append_run2 rfl _ _ _ _ rfl rfl rfl HR6.out ?_; clear HR6)
            | (go_at_call 65; refine hdec.mono ?_; clear hdec; rintro e7 w7 ⟨rfl, hb7⟩; obtain ⟨A8, n8, c8, w8, hr8, ho8, hb8⟩ := own_txt (own_below HO6.out hb7) (⟨#[32]⟩ ++ ⟨(Lib.itoa (m : Int)).toArray⟩ ++ ⟨#[10]⟩) _ (space_cat _) (by simp only [List.length_append, List.length_cons, List.length_nil]; omega) (Nat.le_trans hsw (Nat.le_trans HB6.out.size hb7.size)); have hb78 := (HB6.out.trans (hb7.mono (Nat.le_trans hsw HB6.out.size))).trans hb8; obtain ⟨_, s2⟩ := HK.out w8 hb78; have hn8 : n8 ≤ 300000 := (by have h1 := ho8.1; have h2 := HO6.out.1; rw [List.length_map, List.length_append] at h1; rw [List.length_map] at h2; simp only [List.length_append, List.length_cons, List.length_nil] at h1; simp only [List.length_append] at h2; omega); obtain ⟨A9, n9, c9, w9, hr9, ho9, hb9⟩ := own_bytes ho8 (HSS.out.below (hb78.mono hB)) (by omega) (Nat.le_trans hsw hb78.size); have hb9' := hb78.trans hb9; have hn9 : n9 ≤ 400000 := (by have h1 := ho9.1; have h2 := ho8.1; have h3 := HDL.out; rw [List.length_map, List.length_append] at h1; rw [List.length_map] at h2; omega); obtain ⟨A10, n10, c10, w10, hr10, ho10, hb10⟩ := own_bytes (k := [10]) (ho9.alloc (.cells #[.int .u8 10] 5)) (slc_new w9 5 (0, 0) #[.int .u8 10] (sz := 1) (n := 1) (c := 1) rfl (Nat.le_refl _) (by decide)) (by omega) (by have := Nat.le_trans hsw hb9'.size; simp; omega); have HBT := Lib.hid (hb9'.trans (((Below.refl _ w9).alloc (Nat.le_trans hsw hb9'.size) _).trans hb10)); have HR8 := Lib.hid hr8; have HR9 := Lib.hid hr9; have HR10 := Lib.hid hr10; have HO10 := Lib.hid ho10; clear hr8 ho8 hb8 hb78 hr9 ho9 hb9 hb9' hr10 ho10 hb10 hb7)
            | (at_builtin; refine wpList_append_run2 rfl _ _ _ _ rfl rfl rfl HR8.out ?_; clear HR8)
            | (at_builtin; refine wpList_append_run rfl _ _ _ rfl rfl rfl HR9.out ?_; clear HR9)
            | (at_builtin; refine wpList_append_run rfl _ _ _ rfl rfl rfl HR10.out ?_; clear HR10))
          exact ⟨⟨k + 1, A10, n10, c10, by omega, by go_num, rfl, .inl (by rw [HSU.out, entT_cut]; simpa only [List.append_assoc, HDL.out] using HO10.out), hb.out.trans HBT.out⟩, by simp [intOf]; omega⟩
      · obtain rfl : k = n := by omega
        obtain ⟨A5, n5, c5, w5, hr5, ho5, hb5⟩ := hbuf.out.txt ⟨#[101, 110, 100, 10]⟩ [101, 110, 100, 10] rfl (by decide) (by simp; omega) hsw
        have HO5 := Lib.hid ho5
        have HB5 := Lib.hid (hb.out.trans hb5)
        clear ho5 hb5
        go_wp2_with (at_builtin; refine wpList_append_run2 rfl _ _ _ _ rfl rfl rfl hr5 ?_; clear hr5)
        go_ret
        exact ⟨A5, n5, c5, rfl, by rw [HT.out, HLL.out]; exact HO5.out, HB5.out⟩
end Go.Proofs.YtdhlklidenfbeaaGreatDoor
