/- The walk of tree.Refs: the store paths that stand in a list of entries. -/
import Derived.Test.YtdhlklidenfbeaaGreatDoorTreeE
import Derived.Test.YtdhlklidenfbeaaGreatDoorTreeR
namespace Go.Proofs.YtdhlklidenfbeaaGreatDoor
open Go.RowKit Go.Sort
set_option linter.unusedVariables false
set_option linter.unusedSimpArgs false

theorem own_below {w w' : World} {base : Nat} {e : TypeId} {size : Nat} {v : Value} {n : Nat} {xs : List Value} (h : w.ownsRow base e size v n xs) (hb : Below w.heap.size w w') : w'.ownsRow base e size v n xs := by
  refine h.kept (row := none) ⟨hb.os, hb.tape, hb.output, hb.size, fun k hk _ => hb.block k hk⟩ ?_
  cases v.ownBlock with
  | none => exact .inl rfl
  | some g => exact .inr (fun e => by cases e)

theorem refsTo_le_one (d : Txt) (j : Nat) (hj : j ≤ d.length) : (refsTo d j).length ≤ (refsOne d).length := by
  unfold refsOne
  obtain ⟨m, hm⟩ : ∃ m, d.length = j + m := ⟨d.length - j, by omega⟩
  rw [hm]
  clear hm hj
  induction m with
  | zero => exact Nat.le_refl _
  | succ m ih => rw [← Nat.add_assoc, refsTo_succ, List.length_append]; omega
theorem refsAll_le (ds : List Txt) (k : Nat) : (refsAll (ds.take k)).length ≤ (refsAll ds).length := by
  have : refsAll ds = refsAll (ds.take k) ++ refsAll (ds.drop k) := by
    unfold refsAll
    rw [← List.flatMap_append, List.take_append_drop]
  rw [this, List.length_append]
  omega

set_option maxRecDepth 100000 in
set_option maxHeartbeats 4000000 in
theorem refs_any {w : World} {B : Nat} {A : Option Addr} {n c : Nat} {es : List EV} (h : EntsAt w B A n c es) (hB : B ≤ w.heap.size) (hroom : (refsAll (es.map (·.data))).length ≤ 1000000000) :
    Calls Tryz.prog 37 #[.slice A n c] w fun e w' => ∃ A' n' c', e = .returned (.slice A' n' c') ∧ w'.ownsRow w.heap.size 9 1 (.slice A' n' c') n' ((addAll [] (refsAll (es.map (·.data)))).map encStr) ∧ Below w.heap.size w w' := by
  have hnc := h.slc.le
  have hcm := h.slc.cmax
  obtain ⟨ds, hds⟩ : ∃ ds, ds = es.map (·.data) := ⟨_, rfl⟩
  have hdl : ds.length = n := by rw [hds, List.length_map, h.len]
  rw [← hds] at hroom ⊢
  obtain ⟨out, hout⟩ : ∃ out, out = (addAll [] (refsAll ds)).map encStr := ⟨_, rfl⟩
  rw [← hout]
  have HOUT := Lib.hid hout
  have HDS := Lib.hid hds
  have HR := Lib.hid hroom
  have HDL := Lib.hid hdl
  have H := Lib.hid h
  clear h hout hds hroom hdl
  have hn62 : n ≤ 9223372036854775807 := by unfold maxLen at hcm; omega
  go_enter Tryz.func37, Tryz.ntmps37
  go_wp2_with (fail)
  go_loopw [3, 11] (fun o i wr => ∃ (k : Nat) (A' : Option Addr) (n' c' : Nat), k ≤ n ∧ i = .int .i64 (k : Int) ∧ o = .slice A' n' c' ∧ Aside (wr.ownsRow w.heap.size 9 1 (.slice A' n' c') n' ((refsAll (ds.take k)).map encStr)) ∧ Aside (Below w.heap.size w wr)) (fun _ i _ => n - (intOf i).toNat)
  case atStart => exact ⟨0, none, 0, 0, Nat.zero_le _, rfl, rfl, World.ownsRow_nil _ _ _ _, Below.refl _ _⟩
  case round =>
    obtain ⟨k, A', n', c', hk, rfl, rfl, hown, hb⟩ := hrel
    by_cases hlt : k < n
    · obtain ⟨b, off, rfl, hbB, hl, c0, c1, c2, hS⟩ := (H.out.below (hb.out.mono hB)).at_ hlt
      have HD := Lib.hid (show ∃ hd : k < ds.length, ds[k] = es[k].data from ⟨by rw [HDL.out]; exact hlt, by rw [List.getElem_of_eq HDS.out]; simp⟩)
      generalize es[k] = e at *
      obtain ⟨d, hd⟩ : ∃ d, d = e.data := ⟨_, rfl⟩
      rw [← hd] at hS HD
      have hbw : Below wr.heap.size wr (wr.alloc (.cells #[.string ⟨e.path.toArray⟩, .int .i64 e.kind, .slice e.A e.n e.c] 73)) := (Below.refl _ _).alloc (Nat.le_refl _) _
      have hcv := convert_bytes Tryz.underlying32 Tryz.underlying5 (hS.below (hbw.mono (Nat.le_trans hB hb.out.size))) 9 Tryz.underlying9
      have hdl : d.length ≤ maxLen := by have h1 := hS.len; have h2 := hS.le; have h3 := hS.cmax; rw [List.length_map] at h1; omega
      have hd62 : d.length ≤ 9223372036854775807 := hdl
      clear hd hS
      obtain ⟨hkd, hdk⟩ := HD.out
      have HT := Lib.hid (refsAll_take ds k hkd)
      have HP : refsAll (ds.take (k + 1)) = refsAll (ds.take k) ++ refsOne d := by rw [HT.out, hdk]
      have HPH := Lib.hid HP
      clear HP HT hdk
      have hLE : ∀ j, j ≤ d.length → (refsAll (ds.take k) ++ refsTo d j).length ≤ 1000000000 := by
        intro j hj
        have h1 : (refsAll (ds.take k) ++ refsTo d j).length ≤ (refsAll (ds.take (k + 1))).length := by
          rw [HPH.out, List.length_append, List.length_append]
          have := refsTo_le_one d j hj
          omega
        have h2 := refsAll_le ds (k + 1)
        have h3 := HR.out
        omega
      have HLE := Lib.hid hLE
      clear hLE
      go_wp2_with (fail)
      go_loopw [3, 20] (fun o i wq => ∃ (j : Nat) (A2 : Option Addr) (n2 c2 : Nat), j ≤ d.length ∧ i = .int .i64 (j : Int) ∧ o = .slice A2 n2 c2 ∧ Aside (wq.ownsRow w.heap.size 9 1 (.slice A2 n2 c2) n2 ((refsAll (ds.take k) ++ refsTo d j).map encStr)) ∧ Aside (Below w.heap.size w wq)) (fun _ i _ => d.length - (intOf i).toNat)
      case atStart => exact ⟨0, A', n', c', Nat.zero_le _, rfl, rfl, by rw [show refsTo d 0 = [] from rfl, List.append_nil]; exact hown.out.alloc _, hb.out.trans (hbw.mono hb.out.size)⟩
      case round =>
        obtain ⟨j, A2, n2, c2', hj, rfl, rfl, hown2, hb2⟩ := hrel
        by_cases hjl : j < d.length
        · have hx : (ByteArray.mk d.toArray).extract j d.length = ⟨(d.drop j).toArray⟩ := by
            rw [ext_list, List.take_of_length_le (by rw [List.length_drop]; omega)]
          have hrf := ref_any (d.drop j) wr (by rw [List.length_drop]; omega)
          by_cases hr : refP (d.drop j) = []
          · have H1 := Lib.hid (refsTo_none d j hr)
            rw [hr] at hrf
            clear hr
            go_wp2_with (go_at_call 61; refine hrf.mono ?_; rintro e2 w2 ⟨rfl, hb3⟩)
            exact ⟨⟨j + 1, A2, n2, c2', by omega, by go_num, rfl, by rw [H1.out]; exact own_below hown2.out hb3, hb2.out.trans (hb3.mono hb2.out.size)⟩, by simp [intOf]; omega⟩
          · have H1 := Lib.hid (refsTo_some d j hr)
            generalize refP (d.drop j) = r at *
            have hlen2 : n2 = (refsAll (ds.take k) ++ refsTo d j).length := by have := hown2.out.1; rw [List.length_map] at this; omega
            have hle2 := HLE.out j hj
            have PREP : ∀ w2, Below wr.heap.size wr w2 → ∃ A4 c4 w4, (Builtin.append_ #[68, 68] 68 #[.slice A2 n2 c2', .slice (some ⟨w2.heap.size, 0, none⟩) 1 1]).run Tryz.prog (w2.alloc (.cells #[.string ⟨r.toArray⟩] 9)) = .ok (.slice A4 (n2 + 1) c4) w4 ∧
                w4.ownsRow w.heap.size 9 1 (.slice A4 (n2 + 1) c4) (n2 + 1) ((refsAll (ds.take k) ++ refsTo d (j + 1)).map encStr) ∧ Below w.heap.size w w4 := by
              intro w2 hb3
              have hsz := Nat.le_trans hb2.out.size hb3.size
              obtain ⟨A4, c4, w4, h1, h2, h3, h4⟩ := append_str w2 w.heap.size _ n2 _ (own_below hown2.out hb3) r (by omega) hsz
              refine ⟨A4, c4, w4, h1, by rw [H1.out, ← List.append_assoc]; exact h2, ?_⟩
              refine ((hb2.out.trans (hb3.mono hb2.out.size)).alloc hsz _).grown h3 (by simp; omega) (fun q hq => ?_)
              exact (hown2.out.lt q hq).1
            have PREP := Lib.hid PREP
            have hne : (r == []) = false := by simpa using hr
            have hnil : r.isEmpty = false := by cases r with | nil => exact absurd rfl hr | cons => rfl
            clear hlen2 hle2
            go_wp2_with (first
              | (go_at_call 61; refine hrf.mono ?_; rintro e2 w2 ⟨rfl, hb3⟩; obtain ⟨A4, c4, w4, hrun, hown4, hb4⟩ := PREP.out w2 hb3)
              | (at_builtin; refine wpList_append_run rfl _ _ _ rfl rfl rfl hrun ?_; clear hrun))
            exact ⟨⟨j + 1, A4, n2 + 1, c4, by omega, by go_num, rfl, hown4, hb4⟩, by simp [intOf]; omega⟩
        · obtain rfl : j = d.length := by omega
          go_wp2_with (fail)
          exact ⟨⟨k + 1, A2, n2, c2', by omega, by go_num, rfl, by rw [HPH.out]; exact hown2.out, hb2.out⟩, by simp [intOf]; omega⟩
    · obtain rfl : k = n := by omega
      have hlen : n' = (refsAll ds).length := by
        have := hown.out.1
        rw [List.length_map, List.take_of_length_le (by have := HDL.out; omega)] at this
        omega
      have hn' : n' ≤ 1000000000 := by have := HR.out; omega
      have hs := sort_own hown.out hn'
      rw [List.take_of_length_le (by have := HDL.out; omega)] at hs
      have HB := hb
      clear hown hb hlen
      go_wp2_with (first
        | (go_at_call 62; refine hs.mono ?_; clear hs; rintro e5 w5 ⟨rfl, ho5, hg5⟩; have hk5 := compact_own ho5 hn')
        | (go_at_call 63; refine hk5.mono ?_; clear hk5; rintro e6 w6 ⟨m6, rfl, ho6, hg6⟩))
      go_ret
      refine ⟨A', m6, c', rfl, by rw [HOUT.out]; exact ho6, ?_⟩
      have hlow : ∀ q, (Value.slice A' n' c').ownBlock = some q → w.heap.size ≤ q := fun q hq => (ho5.lt q hq).1
      have hb5 := HB.out.grown hg5 HB.out.size hlow
      exact hb5.grown hg6 hb5.size hlow
end Go.Proofs.YtdhlklidenfbeaaGreatDoor
