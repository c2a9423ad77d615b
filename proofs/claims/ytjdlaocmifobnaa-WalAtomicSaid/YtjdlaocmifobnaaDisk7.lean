/- The walk of the disk's Clone. -/
import Derived.Test.YtjdlaocmifobnaaDisk6
namespace Go.Proofs.Ytjdlaocmifobnaa
open Go.RowKit
set_option linter.unusedVariables false
set_option linter.unusedSimpArgs false

theorem append_sectors (w : World) {l : List (List UInt8)} {N : Nat} (hN : N ≤ 1024) {base : Nat} {v : Value} (hown : w.ownsRow base 62 128 v 0 [])
    {B : Nat} {A : Option Addr} {c : Nat} (hr : Slc w B 128 A N c (flat l)) (hb : base ≤ w.heap.size) :
    ∃ A' c' w', (AppendS #[63, 63] 63 #[v, .slice A N c]).run Try.prog w = .ok (.slice A' N c') w' ∧ w'.ownsRow base 62 128 (.slice A' N c') N (flat l) ∧ w.grownBy w' v.ownBlock ∧
      ((Value.slice A' N c').ownBlock = v.ownBlock ∨ (Value.slice A' N c').ownBlock = some w.heap.size) := by
  obtain ⟨i, hi, hz, hs, hbb⟩ := info_parts sector_info
  have := append_slc (P := Try.prog) w base 63 63 62 i _ 128 128 Try.underlying63 hi hz hs hbb (by rw [show (Value.agg (zbytes 128)).cells = zbytes 128 from rfl, zbytes_size]) (by decide) v 0 [] hown B A N c _ hr (fun u hu => by
    obtain ⟨s, _, hs⟩ := List.mem_flatMap.1 hu
    exact bvs_one s u hs) (by unfold maxLen; omega) (by omega) hb
  simp only [Nat.zero_add, List.nil_append] at this
  exact this
theorem append_looses (w : World) {l : List (Nat × List UInt8)} (hN : l.length ≤ 1000000) {base : Nat} {v : Value} (hown : w.ownsRow base 68 129 v 0 [])
    {B : Nat} {A : Option Addr} {c : Nat} (hr : Slc w B 129 A l.length c (flatLoose l)) (hb : base ≤ w.heap.size) :
    ∃ A' c' w', (AppendS #[64, 64] 64 #[v, .slice A l.length c]).run Try.prog w = .ok (.slice A' l.length c') w' ∧ w'.ownsRow base 68 129 (.slice A' l.length c') l.length (flatLoose l) ∧ w.grownBy w' v.ownBlock ∧
      ((Value.slice A' l.length c').ownBlock = v.ownBlock ∨ (Value.slice A' l.length c').ownBlock = some w.heap.size) := by
  cases hi : Try.prog.info? 68 with
  | none => have := loose_info; rw [hi] at this; cases this
  | some i =>
    have h := loose_info
    rw [hi] at h
    simp only [Option.map_some, Option.some.injEq, Prod.mk.injEq] at h
    cases hz : i.zero with
    | none => rw [hz] at h; simp at h
    | some z =>
      rw [hz] at h
      simp only [Option.map_some, Option.some.injEq] at h
      have := append_slc (P := Try.prog) w base 64 64 68 i z 129 136 Try.underlying64 hi hz h.2.1 h.2.2 h.1 (by decide) v 0 [] hown B A l.length c _ hr (fun u hu => by
        obtain ⟨s, _, hs⟩ := List.mem_flatMap.1 hu
        exact looseCells_one s u hs) (by unfold maxLen; omega) (by omega) hb
      simp only [Nat.zero_add, List.nil_append] at this
      exact this

theorem row_kept {w w' : World} {F : Nat → Prop} {base : Nat} {e : TypeId} {sz : Nat} {v : Value} {n : Nat} {xs : List Value} (h : w.ownsRow base e sz v n xs) (hb : ∀ k, v.ownBlock = some k → w'.heap[k]? = w.heap[k]?) (hF : ∀ k, v.ownBlock = some k → F k) : Row w' F e sz v n xs := by
  refine ⟨⟨h.1, ?_⟩, hF⟩
  rcases h.2 with hn | ⟨g, cap, cur, rfl, h1, h2, rest⟩
  · exact .inl hn
  · exact .inr ⟨g, cap, cur, rfl, Nat.zero_le _, by rw [hb g rfl]; exact h2, rest⟩

section
attribute [local go_sem ↓] appendS_mark
variable {w : World} {F : Nat → Prop} {p N : Nat} {D : DiskM}

set_option maxRecDepth 100000 in
set_option maxHeartbeats 1000000 in
theorem clone_any (h : Disk w F p N D) (hroom : D.loose.length ≤ 1000000) :
    Calls Try.prog 49 #[.pointer (some ⟨p, 0, none⟩)] w fun e w' => ∃ q, e = .returned (.pointer (some ⟨q, 0, none⟩)) ∧ Below w.heap.size w w' ∧ Disk w' (fun k => w.heap.size ≤ k ∧ k < w'.heap.size) q N D := by
  obtain ⟨_, vs, vn, vl, h⟩ := h
  obtain ⟨As, cs, rfl, hss⟩ := h.safe.slc
  obtain ⟨An, cn, rfl, hsn⟩ := h.now.slc
  obtain ⟨Al, cl, rfl, hsl⟩ := h.loose.slc
  obtain ⟨c0, c1, c2, c3, c4, c5, c6, c7, fz⟩ := head_cells h.head
  have hN := h.ok.most
  have hpl := h.head.lt
  -- the head, in a variable of its own; then row by row
  obtain ⟨C, hC⟩ : ∃ C : Array Value, C = #[.slice As N cs, .slice An N cn, .slice Al D.loose.length cl, .bool D.up, .int .i64 D.deeds, .bool D.armed, .int .i64 D.after, .int .u64 (D.keep.toNat : Int)] := ⟨_, rfl⟩
  obtain ⟨W1, hW1⟩ : ∃ W1, W1 = w.alloc (.cells C 66) := ⟨_, rfl⟩
  have hb1 : Below w.heap.size w W1 := by subst hW1; exact (Below.refl _ _).alloc (Nat.le_refl _) _
  have hz1 : W1.heap.size = w.heap.size + 1 := by subst hW1; simp
  obtain ⟨A3, c3', w3, hr3, hown3, hg3, hat3⟩ := append_sectors (W1.alloc (.cells #[] 62)) (l := D.safe) hN (World.ownsRow_made W1 #[] 0 (Nat.le_refl _) (by decide) rfl) (hss.below (hb1.alloc (by omega) _)) (by simp)
  have hb3 : Below W1.heap.size W1 w3 := ((Below.refl _ W1).alloc (Nat.le_refl _) _).grown hg3 (by simp) (by simp [Value.ownBlock])
  have hz3 := hb3.size
  have hB1 : Blk W1 w.heap.size 66 C := by subst hW1; exact Blk.new _ _ _
  have hB3 : Blk w3 w.heap.size 66 C := hB1.below hb3 (by omega)
  have hW3 : Below w.heap.size w w3 := hb1.trans (hb3.mono (by omega))
  obtain ⟨W4, hW4⟩ : ∃ W4, W4 = w3.setCell ⟨w.heap.size, 0, none⟩ (.slice A3 N c3') := ⟨_, rfl⟩
  have hb4 : Below w.heap.size w W4 := by subst hW4; exact hW3.setCell (p := ⟨w.heap.size, 0, none⟩) (Nat.le_refl _) _
  have hz4 : W4.heap.size = w3.heap.size := by subst hW4; simp [World.setCell]
  have hB4 : Blk W4 w.heap.size 66 (C.setIfInBounds 0 (.slice A3 N c3')) := by subst hW4; exact hB3.set_ 0 _
  have hR4 : W4.ownsRow W1.heap.size 62 128 (.slice A3 N c3') N (flat D.safe) := by subst hW4; exact ownsRow_setCell_below hown3 (by simp only; omega) _
  obtain ⟨A5, c5', w5, hr5, hown5, hg5, hat5⟩ := append_sectors (W4.alloc (.cells #[] 62)) (l := D.now) hN (World.ownsRow_made W4 #[] 0 (Nat.le_refl _) (by decide) rfl) (hsn.below (hb4.alloc (by omega) _)) (by simp)
  have hb5 : Below W4.heap.size W4 w5 := ((Below.refl _ W4).alloc (Nat.le_refl _) _).grown hg5 (by simp) (by simp [Value.ownBlock])
  have hz5 := hb5.size
  have hB5 := hB4.below hb5 (by omega)
  have hW5 : Below w.heap.size w w5 := hb4.trans (hb5.mono (by omega))
  obtain ⟨W6, hW6⟩ : ∃ W6, W6 = w5.setCell ⟨w.heap.size, 1, none⟩ (.slice A5 N c5') := ⟨_, rfl⟩
  have hb6 : Below w.heap.size w W6 := by subst hW6; exact hW5.setCell (p := ⟨w.heap.size, 1, none⟩) (Nat.le_refl _) _
  have hz6 : W6.heap.size = w5.heap.size := by subst hW6; simp [World.setCell]
  have hB6 : Blk W6 w.heap.size 66 ((C.setIfInBounds 0 (.slice A3 N c3')).setIfInBounds 1 (.slice A5 N c5')) := by subst hW6; exact hB5.set_ 1 _
  have hR6 : W6.ownsRow W4.heap.size 62 128 (.slice A5 N c5') N (flat D.now) := by subst hW6; exact ownsRow_setCell_below hown5 (by simp only; omega) _
  obtain ⟨A7, c7', w7, hr7, hown7, hg7, hat7⟩ := append_looses (W6.alloc (.cells #[] 68)) (l := D.loose) hroom (World.ownsRow_made W6 #[] 0 (Nat.le_refl _) (by decide) rfl) (hsl.below (hb6.alloc (by omega) _)) (by simp)
  have hb7 : Below W6.heap.size W6 w7 := ((Below.refl _ W6).alloc (Nat.le_refl _) _).grown hg7 (by simp) (by simp [Value.ownBlock])
  have hz7 := hb7.size
  have hB7 := hB6.below hb7 (by omega)
  have hW7 : Below w.heap.size w w7 := hb6.trans (hb7.mono (by omega))
  have hfin : Below w.heap.size w (w7.setCell ⟨w.heap.size, 2, none⟩ (.slice A7 D.loose.length c7')) ∧ Disk (w7.setCell ⟨w.heap.size, 2, none⟩ (.slice A7 D.loose.length c7')) (fun k => w.heap.size ≤ k ∧ k < (w7.setCell ⟨w.heap.size, 2, none⟩ (.slice A7 D.loose.length c7')).heap.size) w.heap.size N D := by
    have hsz : (w7.setCell ⟨w.heap.size, 2, none⟩ (.slice A7 D.loose.length c7')).heap.size = w7.heap.size := by simp [World.setCell]
    have far : ∀ (X : World) (i : Nat) (v : Value) (k : Nat), w.heap.size < k → (X.setCell ⟨w.heap.size, i, none⟩ v).heap[k]? = X.heap[k]? := fun X i v k hk => heap_set_far X _ _ _ _ (by omega)
    refine ⟨hW7.setCell (p := ⟨w.heap.size, 2, none⟩) (Nat.le_refl _) _, fun k hk => hk.2, .slice A3 N c3', .slice A5 N c5', .slice A7 D.loose.length c7', h.ok, ⟨Nat.le_refl _, by rw [hsz]; exact hB7.lt⟩, ?_, ?_, ?_, ?_, ?_⟩
    · have := hB7.set_ 2 (.slice A7 D.loose.length c7')
      subst hC
      exact this
    · refine row_kept hR4 (fun k hk => ?_) (fun k hk => ?_)
      · have h1 := (hR4.lt k hk).1
        have h2 := (hR4.lt k hk).2
        rw [far _ _ _ _ (by omega), hb7.block k (by omega), hW6, far _ _ _ _ (by omega), hb5.block k h2]
      · have h1 := (hR4.lt k hk).1
        have h2 := (hR4.lt k hk).2
        rw [hsz]; omega
    · refine row_kept hR6 (fun k hk => ?_) (fun k hk => ?_)
      · have h1 := (hR6.lt k hk).1
        have h2 := (hR6.lt k hk).2
        rw [far _ _ _ _ (by omega), hb7.block k h2]
      · have h1 := (hR6.lt k hk).1
        have h2 := (hR6.lt k hk).2
        rw [hsz]; omega
    · refine row_kept hown7 (fun k hk => ?_) (fun k hk => ?_)
      · have h1 := (hown7.lt k hk).1
        rw [far _ _ _ _ (by omega)]
      · have h1 := (hown7.lt k hk).1
        have h2 := (hown7.lt k hk).2
        rw [hsz]; omega
    · intro e
      cases h5 : (Value.slice A5 N c5').ownBlock with
      | none =>
        rcases hown5.2 with ⟨hv, h0⟩ | ⟨g, cap, cur, hv, _⟩
        · have := h.ok.pos; omega
        · rw [hv] at h5; cases h5
      | some k =>
        rw [h5] at e
        have h1 := (hR4.lt k e).2
        have h2 := (hR6.lt k h5).1
        omega
  have HFIN := Lib.hid hfin
  obtain ⟨q0, q1, q2, q3, q4, q5, q6, q7, qz⟩ := head_cells (w := w3) (p := w.heap.size) (by rw [hC] at hB3; exact hB3)
  have cellp : ∀ X, Below w.heap.size w X → X.cell? ⟨p, 0, none⟩ = some (.slice As N cs) ∧ X.cell? ⟨p, 1, none⟩ = some (.slice An N cn) ∧ X.cell? ⟨p, 2, none⟩ = some (.slice Al D.loose.length cl) := fun X hX =>
    ⟨by rw [hX.cell (p := ⟨p, 0, none⟩) hpl]; exact c0, by rw [hX.cell (p := ⟨p, 1, none⟩) hpl]; exact c1, by rw [hX.cell (p := ⟨p, 2, none⟩) hpl]; exact c2⟩
  obtain ⟨x0, x1, x2⟩ := cellp _ (hb1.alloc (by omega) (.cells #[] 62))
  obtain ⟨y0, y1, y2⟩ := cellp _ (hb4.alloc (by omega) (.cells #[] 62))
  obtain ⟨z0, z1, z2⟩ := cellp _ (hb6.alloc (by omega) (.cells #[] 68))
  rw [hz1, hW1, hC] at hr3
  rw [hz4, hW4] at hr5
  rw [hz6, hW6] at hr7
  rw [hW1, hC] at x0 x1 x2
  rw [hW4] at y0 y1 y2
  rw [hW6] at z0 z1 z2
  have HW1 := Lib.hid hW1
  have HW4 := Lib.hid hW4
  have HW6 := Lib.hid hW6
  have HC := Lib.hid hC
  have u1 : w5.cell? ⟨w.heap.size, 1, none⟩ = some (.slice An N cn) := by rw [hB5.cell]; subst hC; rfl
  have uz := hB5.frozen
  have t1 : w7.cell? ⟨w.heap.size, 2, none⟩ = some (.slice Al D.loose.length cl) := by rw [hB7.cell]; subst hC; rfl
  have tz := hB7.frozen
  clear h hW1 hW4 hW6 hC hfin cellp hb1 hz1 hb3 hz3 hB1 hB3 hW3 hb4 hz4 hB4 hR4 hb5 hz5 hB5 hW5 hb6 hz6 hB6 hR6 hb7 hz7 hB7 hW7 hown3 hg3 hat3 hown5 hg5 hat5 hown7 hg7 hat7 hss hsn hsl
  go_enter Try.func49, Try.ntmps49
  go_wp2_with fail
  go_ret
  exact ⟨_, rfl, HFIN.out⟩
end
end Go.Proofs.Ytjdlaocmifobnaa
