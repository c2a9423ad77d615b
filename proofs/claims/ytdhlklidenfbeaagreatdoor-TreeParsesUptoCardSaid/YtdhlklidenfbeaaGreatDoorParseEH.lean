/- tree.entry. tree.entry, where all is well. -/
import Derived.Test.YtdhlklidenfbeaaGreatDoorParseW
import Derived.Test.YtdhlklidenfbeaaGreatDoorEnts
import Derived.Test.YtdhlklidenfbeaaGreatDoorRes
import Derived.Test.YtdhlklidenfbeaaGreatDoorIns
namespace Go.Proofs.YtdhlklidenfbeaaGreatDoor
open Go.RowKit Go.Shelf
set_option linter.unusedVariables false
set_option linter.unusedSimpArgs false

def Iface (v : Value) : Prop := v = .nilIface ∨ ∃ te pe, v = .iface te pe
/-- What the globals hold, now and later: strconv.ErrSyntax and ErrRange some error each. -/
structure AtoiOk (w : World) : Prop where
  syn : ∀ w', Below w.heap.size w w' → ∃ v, w'.cell? ⟨2, 0, none⟩ = some v ∧ Iface v
  ran : ∀ w', Below w.heap.size w w' → ∃ v, w'.cell? ⟨3, 0, none⟩ = some v ∧ Iface v
theorem AtoiOk.below {w w' : World} (h : AtoiOk w) (hb : Below w.heap.size w w') : AtoiOk w' := ⟨fun v hv => h.syn v (hb.trans (hv.mono hb.size)), fun v hv => h.ran v (hb.trans (hv.mono hb.size))⟩

def AtoiPost (w : World) (q : Txt) : Ending → World → Prop := fun e w' => Below w.heap.size w w' ∧ ∃ v err, e = .returned (.tuple #[.int .i64 v, err]) ∧
  ((err = .nilIface ∧ Lib.atoiAll q = .ok v) ∨ ((∃ N, err = .iface 125 (.pointer (some ⟨N, 0, none⟩))) ∧ ∀ u, Lib.atoiAll q ≠ .ok u))
theorem atoi_any (w : World) (q : Txt) (hq : q.length ≤ 4) (hm : AtoiOk w) : Calls Tryz.prog 36 #[.string ⟨q.toArray⟩] w (AtoiPost w q) := by
  have hsz : (ByteArray.mk q.toArray).size = q.length := rfl
  rcases hc : Lib.atoiAll q with v | _ | _
  ·
    refine (Tryz.strconv_Atoi_ok ⟨q.toArray⟩ (by omega) v hc w).mono ?_
    rintro e w' ⟨rfl, hw⟩
    refine ⟨?_, v, .nilIface, rfl, .inl ⟨rfl, hc⟩⟩
    rcases hw with rfl | ⟨t, rfl⟩
    · exact Below.refl _ _
    · exact Lib.bytesWorld_below _ _ _
  ·
    obtain ⟨ev, h1, h2⟩ := hm.syn w (Below.refl _ w)
    refine (Tryz.strconv_Atoi_syntax ⟨q.toArray⟩ (by omega) (fun v e => by have e2 := hc.symm.trans e; cases e2) (fun e => by have e2 := hc.symm.trans e; cases e2) ev w h1 h2).mono ?_
    rintro e w' ⟨N, rfl, _, _, hb⟩
    exact ⟨hb, _, _, rfl, .inr ⟨⟨N, rfl⟩, fun u hu => by rw [hc] at hu; cases hu⟩⟩
  ·
    obtain ⟨ev, h1, h2⟩ := hm.ran w (Below.refl _ w)
    refine (Tryz.strconv_Atoi_range ⟨q.toArray⟩ (by omega) hc ev w h1 h2).mono ?_
    rintro e w' ⟨N, rfl, _, _, hb⟩
    exact ⟨hb, _, _, rfl, .inr ⟨⟨N, rfl⟩, fun u hu => by rw [hc] at hu; cases hu⟩⟩
theorem split_words (w : World) (s : Txt) (hs : s.length ≤ 1000000000) (hm : ∃ m, w.cell? ⟨1, 0, none⟩ = some (.int .i64 m)) :
    Calls Tryz.prog 34 #[.string ⟨s.toArray⟩, .string ⟨#[32]⟩] w fun e w' => e = .returned (.slice (some ⟨w.heap.size, 0, none⟩) (words s).length (words s).length) ∧ w' = w.alloc (.cells ((words s).map encStr).toArray 9) := by
  obtain ⟨m, hm⟩ := hm
  have h := Tryz.strings_Split ⟨s.toArray⟩ ⟨#[32]⟩ m w (by rw [show (ByteArray.mk s.toArray).size = s.length from rfl]; omega) hm (by decide)
  rw [← words_length, words_cells] at h
  exact h

/-- What tree.entry hands back. -/
def EntryPost (w : World) (B : Nat) (head b : Txt) : Ending → World → Prop := fun e w' => Below w.heap.size w w' ∧ ∃ p k d A n c A2 n2 c2 r ok,
  e = .returned (.tuple #[.agg #[.string ⟨List.toArray p⟩, .int .i64 k, .slice A n c], .slice A2 n2 c2, .bool ok]) ∧ TextIn w' B A2 n2 c2 r ∧
  ((ok = true ∧ entryR head b = some (⟨p, k, d⟩, r) ∧ (∃ g, A = some ⟨g, 0, none⟩ ∧ w.heap.size ≤ g ∧ g < w'.heap.size ∧ FreeB w' g) ∧ Slc w' w'.heap.size 1 A n c (d.map bv)) ∨ (ok = false ∧ entryR head b = none))
theorem entryR_no {head b : Txt} (h : (words head).length ≠ 3) : entryR head b = none := by
  unfold entryR
  split
  · rename_i heq
    rw [heq] at h
    exact absurd rfl h
  · rfl
theorem entryR_long {head b k p q : Txt} (hw : words head = [k, p, q]) (h : 4 < q.length) : entryR head b = none := by
  unfold entryR
  rw [hw]
  simp only
  rw [if_pos h]
theorem entryR_bad {head b k p q : Txt} (hw : words head = [k, p, q]) (h : ∀ u, Lib.atoiAll q ≠ .ok u) : entryR head b = none := by
  unfold entryR
  rw [hw]
  simp only
  split <;> rfl
theorem entryR_ok {head b k p q : Txt} {v : Int} (hw : words head = [k, p, q]) (h : q.length ≤ 4) (hv : Lib.atoiAll q = .ok v) :
    entryR head b = if v < 0 ∨ (b.length : Int) ≤ v ∨ b[v.toNat]? ≠ some 10 then none else some (⟨p, if k = [108] then 3 else 1, b.take v.toNat⟩, b.drop (v.toNat + 1)) := by
  unfold entryR
  rw [hw]
  simp only
  rw [if_neg (by omega), hv]

theorem res_ent3 {fn : Func} {t u v : Tmp} {g : Nat} {cs : Array Value} {w : World} {tmps : Array Value} (h : fn.results = #[.cell t 73, .tmp u, .tmp v]) (ht : tmps.getD t undef = .pointer (some ⟨g, 0, none⟩)) (hb : Blk w g 73 cs) (hcs : cs.size = 3) :
    (results fn tmps).run Tryz.prog w = .ok (.tuple #[.agg cs, tmps.getD u undef, tmps.getD v undef]) w := results_aggr3 h ht Tryz.isAgg73 Tryz.sizeOf73 hcs hb
def E0 : Array Value := #[.string .empty, .int .i64 0, .slice none 0 0]
/-- A failing end. -/
theorem entry_fail {w w' : World} {B : Nat} {head b : Txt} {tmps : Array Value} (he : Aside (entryR head b = none)) (hG : Blk w' w.heap.size 73 E0) (hb : Below w.heap.size w w')
    (h4 : tmps.getD 4 undef = .pointer (some ⟨w.heap.size, 0, none⟩)) (h5 : tmps.getD 5 undef = .slice none 0 0) (h6 : tmps.getD 6 undef = .bool false) :
    bodyPost Tryz.prog Tryz.f41 (EntryPost w B head b) Exit.ret { tmps := tmps, defers := [] } w' := by
  refine bodyPost_ret (res_ent3 (t := 4) (u := 5) (v := 6) (g := w.heap.size) rfl h4 hG rfl) rfl ⟨hb, [], 0, [], none, 0, 0, none, 0, 0, [], false, ?_, TextIn.none_ _ _, .inr ⟨rfl, he.out⟩⟩
  rw [h5, h6]
  rfl
theorem blk_zero {w' : World} {g : Nat} (h : Blk w' g 73 E0) : Blk (((w'.setCell ⟨g, 0, none⟩ (.string ⟨#[]⟩)).setCell ⟨g, 1, none⟩ (.int .i64 0)).setCell ⟨g, 2, none⟩ (.slice none 0 0)) g 73 E0 :=
  ((h.set_ 0 (.string ⟨#[]⟩)).set_ 1 (.int .i64 0)).set_ 2 (.slice none 0 0)
theorem below_zero {w w' : World} (h : Below w.heap.size w w') : Below w.heap.size w (((w'.setCell ⟨w.heap.size, 0, none⟩ (.string ⟨#[]⟩)).setCell ⟨w.heap.size, 1, none⟩ (.int .i64 0)).setCell ⟨w.heap.size, 2, none⟩ (.slice none 0 0)) :=
  ((h.setCell (p := ⟨w.heap.size, 0, none⟩) (Nat.le_refl _) _).setCell (p := ⟨w.heap.size, 1, none⟩) (Nat.le_refl _) _).setCell (p := ⟨w.heap.size, 2, none⟩) (Nat.le_refl _) _
theorem atoi_ok {w : World} {q : Txt} {v : Int} (hq : q.length ≤ 4) (hm : AtoiOk w) (hv : Lib.atoiAll q = .ok v) : Calls Tryz.prog 36 #[.string ⟨q.toArray⟩] w fun e w' => e = .returned (.tuple #[.int .i64 v, .nilIface]) ∧ Below w.heap.size w w' := by
  refine (atoi_any w q hq hm).mono ?_
  rintro e w' ⟨hb, u, err, rfl, ⟨rfl, h⟩ | ⟨_, h⟩⟩
  · rw [hv] at h
    injection h with h
    subst h
    exact ⟨rfl, hb⟩
  · exact absurd hv (h v)
theorem atoi_bad {w : World} {q : Txt} (hq : q.length ≤ 4) (hm : AtoiOk w) (hv : ∀ v, Lib.atoiAll q ≠ .ok v) : Calls Tryz.prog 36 #[.string ⟨q.toArray⟩] w fun e w' => ∃ u N, e = .returned (.tuple #[.int .i64 u, .iface 125 (.pointer (some ⟨N, 0, none⟩))]) ∧ Below w.heap.size w w' := by
  refine (atoi_any w q hq hm).mono ?_
  rintro e w' ⟨hb, u, err, rfl, ⟨rfl, h⟩ | ⟨⟨N, rfl⟩, h⟩⟩
  · exact absurd h (hv u)
  · exact ⟨u, N, rfl, hb⟩

/-- A copy of a text's first bytes, in a block of its own. -/
structure ApData (W V : World) (A : Option Addr) (c j x : Nat) (d : Txt) (g c4 : Nat) (w4 : World) : Prop where
  r : (Builtin.append_ #[32, 32] 32 #[.slice (some ⟨x, 0, none⟩) 0 0, .slice A j c]).run Tryz.prog V = .ok (.slice (some ⟨g, 0, none⟩) j c4) w4
  slc : Slc w4 w4.heap.size 1 (some ⟨g, 0, none⟩) j c4 (d.map bv)
  lo : W.heap.size ≤ g
  hi : g < w4.heap.size
  free : FreeB w4 g
  ne : g = x ∨ V.heap.size ≤ g
  bel : Below W.heap.size W w4
  keep : ∀ y, y < V.heap.size → y ≠ x → w4.heap[y]? = V.heap[y]?
  more : V.heap.size ≤ w4.heap.size
theorem ap_data {W V : World} {B : Nat} {A : Option Addr} {n c : Nat} {b : Txt} (h : TextIn W B A n c b) (hB : B ≤ W.heap.size) {j : Nat} (hj : j ≤ n) (hn : n ≤ 1000000000) {x : Nat} (hb : Below W.heap.size W V) (hx : V.heap[x]? = some (.cells #[] 5 (0, 0))) (hxb : W.heap.size ≤ x) :
    ∃ g c4 w4, ApData W V A c j x (b.take j) g c4 w4 := by
  have hown : V.ownsRow W.heap.size 5 1 (.slice (some ⟨x, 0, none⟩) 0 0) 0 (([] : List UInt8).map bv) := ⟨rfl, .inr ⟨x, 0, #[], rfl, hxb, hx, Nat.le_refl _, Nat.zero_le _, rfl, rfl⟩⟩
  obtain ⟨A3, c3, w3, r3, o3, g3, hv3⟩ := append_bytes V W.heap.size _ 0 [] hown B A j c (b.take j) ((h.take hj).slc.below (hb.mono hB)) (by omega) hb.size
  rw [Nat.zero_add] at r3 o3 hv3
  rw [List.nil_append] at o3
  obtain ⟨gd, hA3, hgd, hgd2⟩ : ∃ gd, A3 = some ⟨gd, 0, none⟩ ∧ W.heap.size ≤ gd ∧ gd < w3.heap.size := by
    rcases o3.2 with ⟨hnil, h0⟩ | ⟨gd, cap, cur, e1, e2, e3, _⟩
    · exfalso
      injection hnil with e1 e2 e3
      subst e1
      rcases hv3 with hv3 | hv3 <;> simp [Value.ownBlock] at hv3
    · injection e1 with e1
      exact ⟨gd, e1, e2, (Array.getElem?_eq_some_iff.1 e3).1⟩
  subst hA3
  refine ⟨gd, c3, w3, r3, own_slc_of o3, hgd, hgd2, FreeB.own o3, ?_, hb.grown g3 hb.size (fun q hq => by simp [Value.ownBlock] at hq; omega), fun y hy hne => g3.block y hy (fun e => by simp [Value.ownBlock] at e; omega), g3.size⟩
  rcases hv3 with hv3 | hv3 <;> simp [Value.ownBlock] at hv3
  · exact .inl hv3
  · exact .inr (by omega)
/-- The three orders in which an entry's variable and its bytes may be made. -/
theorem ap_a {W : World} {B : Nat} {A : Option Addr} {n c : Nat} {b : Txt} (h : TextIn W B A n c b) (hB : B ≤ W.heap.size) {j : Nat} (hj : j ≤ n) (hn : n ≤ 1000000000) :
    ∃ g c4 w4, ApData W ((W.alloc (.cells #[.string ⟨#[]⟩, .int .i64 0, .slice none 0 0] 73)).alloc (.cells #[] 5)).drew A c j (W.heap.size + 1) (b.take j) g c4 w4 ∧ Blk w4 W.heap.size 73 #[.string .empty, .int .i64 0, .slice none 0 0] := by
  have hb : Below W.heap.size W ((W.drew.alloc (.cells #[.string .empty, .int .i64 0, .slice none 0 0] 73)).alloc (.cells #[] 5)) := (((Below.refl _ W).drew).alloc (Nat.le_refl _) _).alloc (by simp) _
  obtain ⟨g, c4, w4, D⟩ := ap_data h hB hj hn (x := W.heap.size + 1) hb (by have := heap_alloc_new (W.drew.alloc (.cells #[.string .empty, .int .i64 0, .slice none 0 0] 73)) (.cells #[] 5); simpa using this) (by omega)
  refine ⟨g, c4, w4, D, ?_⟩
  show w4.heap[W.heap.size]? = _
  rw [D.keep W.heap.size (by simp; omega) (by omega), Below.heap_alloc _ _ _ (by simp)]
  exact heap_alloc_new W.drew _
theorem ap_b {W : World} {B : Nat} {A : Option Addr} {n c : Nat} {b : Txt} (h : TextIn W B A n c b) (hB : B ≤ W.heap.size) {j : Nat} (hj : j ≤ n) (hn : n ≤ 1000000000) :
    ∃ g c4 w4, ApData W ((W.alloc (.cells #[] 5)).alloc (.cells #[.string ⟨#[]⟩, .int .i64 0, .slice none 0 0] 73)).drew A c j W.heap.size (b.take j) g c4 w4 ∧ Blk w4 (W.heap.size + 1) 73 #[.string .empty, .int .i64 0, .slice none 0 0] := by
  have hb : Below W.heap.size W ((W.drew.alloc (.cells #[] 5)).alloc (.cells #[.string .empty, .int .i64 0, .slice none 0 0] 73)) := (((Below.refl _ W).drew).alloc (Nat.le_refl _) _).alloc (by simp) _
  obtain ⟨g, c4, w4, D⟩ := ap_data h hB hj hn (x := W.heap.size) hb (by rw [Below.heap_alloc _ _ _ (by simp)]; exact heap_alloc_new W.drew _) (Nat.le_refl _)
  refine ⟨g, c4, w4, D, ?_⟩
  show w4.heap[W.heap.size + 1]? = _
  rw [D.keep (W.heap.size + 1) (by simp) (by omega)]
  have := heap_alloc_new (W.drew.alloc (.cells #[] 5)) (.cells #[.string .empty, .int .i64 0, .slice none 0 0] 73)
  simpa using this
theorem ap_c {W : World} {B : Nat} {A : Option Addr} {n c : Nat} {b : Txt} (h : TextIn W B A n c b) (hB : B ≤ W.heap.size) {j : Nat} (hj : j ≤ n) (hn : n ≤ 1000000000) :
    ∃ g c4 w4, ApData W (W.alloc (.cells #[] 5)).drew A c j W.heap.size (b.take j) g c4 w4 := by
  have hb : Below W.heap.size W (W.drew.alloc (.cells #[] 5)) := ((Below.refl _ W).drew).alloc (Nat.le_refl _) _
  exact ap_data h hB hj hn (x := W.heap.size) hb (heap_alloc_new W.drew _) (Nat.le_refl _)

end Go.Proofs.YtdhlklidenfbeaaGreatDoor
namespace Go.Proofs.YtdhlklidenfbeaaGreatDoor
open Go.RowKit Go.Shelf
set_option linter.unusedVariables false
set_option linter.unusedSimpArgs false

/-- Where the entry's variable holds what was read. -/
structure Mid (w W7 : World) (k p d : Txt) (s g c4 j : Nat) : Prop where
  var : Blk W7 s 73 #[.string ⟨p.toArray⟩, .int .i64 1, .slice (some ⟨g, 0, none⟩) j c4]
  out : Blk W7 w.heap.size 73 #[.string .empty, .int .i64 0, .slice none 0 0]
  wrd : W7.cell? ⟨w.heap.size + 1, 0, none⟩ = some (.string ⟨k.toArray⟩)
  bel : Below w.heap.size w W7
  slc : Slc W7 W7.heap.size 1 (some ⟨g, 0, none⟩) j c4 (d.map bv)
  glo : w.heap.size < g
  ghi : g < W7.heap.size
  free : FreeB W7 g
  slo : w.heap.size + 1 < s
  sne : s ≠ g
theorem slc_far {w : World} {g j c : Nat} {xs : List Value} (h : Slc w w.heap.size 1 (some ⟨g, 0, none⟩) j c xs) {p : Addr} (hp : g ≠ p.block) (u : Value) : Slc (w.setCell p u) (w.setCell p u).heap.size 1 (some ⟨g, 0, none⟩) j c xs := by
  have hsz : (w.setCell p u).heap.size = w.heap.size := by simp [World.setCell]
  refine ⟨h.len, h.le, h.cmax, fun hn => ?_⟩
  obtain ⟨b, off, e1, hb, hc⟩ := h.at_ hn
  injection e1 with e1
  injection e1 with e1 e2
  subst e1 e2
  refine ⟨g, 0, rfl, by rw [hsz]; exact hb, fun i v hu => ?_⟩
  rw [World.cell?_of_block (w := w) (a := ⟨g, 0 + i, none⟩) (Below.heap_setCell w p u g hp)]
  exact hc i v hu
theorem mid_put {w w3 V w4 : World} {A : Option Addr} {c j x : Nat} {k p d : Txt} {g c4 s : Nat} (D : ApData w3 V A c j x d g c4 w4) (hS : Blk w4 s 73 #[.string .empty, .int .i64 0, .slice none 0 0]) (hs3 : w3.heap.size ≤ s) (hsg : s ≠ g) (hz : w.heap.size + 1 < w3.heap.size)
    (hG : Blk w3 w.heap.size 73 #[.string .empty, .int .i64 0, .slice none 0 0]) (hk : w3.cell? ⟨w.heap.size + 1, 0, none⟩ = some (.string ⟨k.toArray⟩)) (hb : Below w.heap.size w w3) :
    Mid w (((w4.setCell ⟨s, 0, none⟩ (.string ⟨p.toArray⟩)).setCell ⟨s, 1, none⟩ (.int .i64 1)).setCell ⟨s, 2, none⟩ (.slice (some ⟨g, 0, none⟩) j c4)) k p d s g c4 j := by
  have hs : w.heap.size + 1 < s := by omega
  have hG4 := hG.below D.bel (by omega)
  have hb4 := hb.trans (D.bel.mono (by omega))
  have hbz := (((D.bel.setCell (p := ⟨s, 0, none⟩) hs3 (.string ⟨p.toArray⟩)).setCell (p := ⟨s, 1, none⟩) hs3 (.int .i64 1)).setCell (p := ⟨s, 2, none⟩) hs3 (.slice (some ⟨g, 0, none⟩) j c4))
  refine ⟨((hS.set_ 0 _).set_ 1 _).set_ 2 _, ((hG4.far (by simp; omega) _).far (by simp; omega) _).far (by simp; omega) _, ?_, ?_, slc_far (slc_far (slc_far D.slc (by simp; omega) _) (by simp; omega) _) (by simp; omega) _, by have := D.lo; omega, by simpa [World.setCell] using D.hi, ((D.free.set_ _ _).set_ _ _).set_ _ _, hs, hsg⟩
  · rw [(hbz.cell (p := ⟨w.heap.size + 1, 0, none⟩) hz)]
    exact hk
  · exact ((hb4.setCell (p := ⟨s, 0, none⟩) (by simp; omega) _).setCell (p := ⟨s, 1, none⟩) (by simp; omega) _).setCell (p := ⟨s, 2, none⟩) (by simp; omega) _
theorem mid_new {w w3 V w4 : World} {A : Option Addr} {c j x : Nat} {k p d : Txt} {g c4 : Nat} (D : ApData w3 V A c j x d g c4 w4) (hz : w.heap.size + 1 < w3.heap.size)
    (hG : Blk w3 w.heap.size 73 #[.string .empty, .int .i64 0, .slice none 0 0]) (hk : w3.cell? ⟨w.heap.size + 1, 0, none⟩ = some (.string ⟨k.toArray⟩)) (hb : Below w.heap.size w w3) :
    Mid w (w4.alloc (.cells #[.string ⟨p.toArray⟩, .int .i64 1, .slice (some ⟨g, 0, none⟩) j c4] 73)) k p d w4.heap.size g c4 j := by
  have hG4 := hG.below D.bel (by omega)
  have hb4 := hb.trans (D.bel.mono (by omega))
  have hl := D.lo
  have hh := D.hi
  have hbz := D.bel.alloc D.bel.size (.cells #[.string ⟨p.toArray⟩, .int .i64 1, .slice (some ⟨g, 0, none⟩) j c4] 73)
  refine ⟨Blk.new _ _ _, hG4.alloc _, ?_, hb4.alloc hb4.size _, ?_, by omega, by simp; omega, D.free.of (Below.heap_alloc _ _ _ hh), by omega, by omega⟩
  · rw [(hbz.cell (p := ⟨w.heap.size + 1, 0, none⟩) hz)]
    exact hk
  · exact (D.slc.below ((Below.refl _ w4).alloc (Nat.le_refl _) _)).more (by simp)
/-- Where the entry is whole. -/
structure Mid8 (w W8 : World) (p d : Txt) (κ : Int) (s g c4 j : Nat) : Prop where
  var : Blk W8 s 73 #[.string ⟨p.toArray⟩, .int .i64 κ, .slice (some ⟨g, 0, none⟩) j c4]
  out : Blk W8 w.heap.size 73 #[.string .empty, .int .i64 0, .slice none 0 0]
  bel : Below w.heap.size w W8
  slc : Slc W8 W8.heap.size 1 (some ⟨g, 0, none⟩) j c4 (d.map bv)
  glo : w.heap.size < g
  ghi : g < W8.heap.size
  free : FreeB W8 g
  slo : w.heap.size + 1 < s
theorem Mid.file {w W7 : World} {k p d : Txt} {s g c4 j : Nat} (M : Mid w W7 k p d s g c4 j) : Mid8 w W7 p d 1 s g c4 j := ⟨M.var, M.out, M.bel, M.slc, M.glo, M.ghi, M.free, M.slo⟩
theorem Mid.link {w W7 : World} {k p d : Txt} {s g c4 j : Nat} (M : Mid w W7 k p d s g c4 j) : Mid8 w (W7.setCell ⟨s, 1, none⟩ (.int .i64 3)) p d 3 s g c4 j := by
  have h1 := M.slo
  have h2 := M.sne
  exact ⟨M.var.set_ 1 _, M.out.far (by simp; omega) _, M.bel.setCell (p := ⟨s, 1, none⟩) (by simp; omega) _, slc_far M.slc (by simp; omega) _, M.glo, by simpa [World.setCell] using M.ghi, M.free.set_ _ _, M.slo⟩
theorem Mid8.keep {w W8 : World} {p d : Txt} {κ : Int} {s g c4 j : Nat} (M : Mid8 w W8 p d κ s g c4 j) : ∀ W' : World, W'.heap[s]? = W8.heap[s]? →
    W'.cell? ⟨s, 0, none⟩ = some (.string ⟨p.toArray⟩) ∧ W'.cell? ⟨s, 1, none⟩ = some (.int .i64 κ) ∧ W'.cell? ⟨s, 2, none⟩ = some (.slice (some ⟨g, 0, none⟩) j c4) := by
  intro W' h
  have hB : Blk W' s 73 #[.string ⟨p.toArray⟩, .int .i64 κ, .slice (some ⟨g, 0, none⟩) j c4] := h.trans M.var
  exact ⟨hB.cell 0, hB.cell 1, hB.cell 2⟩
theorem entry_end {w W8 : World} {B : Nat} {head b p d r : Txt} {κ : Int} {s g c4 j : Nat} (M : Mid8 w W8 p d κ s g c4 j) {A2 : Option Addr} {n2 c2 : Nat} (hT : TextIn W8 B A2 n2 c2 r) (hB : B ≤ w.heap.size) (he : entryR head b = some (⟨p, κ, d⟩, r))
    {tmps : Array Value} (h4 : tmps.getD 4 undef = .pointer (some ⟨w.heap.size, 0, none⟩)) (h5 : tmps.getD 5 undef = .slice A2 n2 c2) (h6 : tmps.getD 6 undef = .bool true) :
    bodyPost Tryz.prog Tryz.f41 (EntryPost w B head b) Exit.ret { tmps := tmps, defers := [] }
      (((W8.setCell ⟨w.heap.size, 0, none⟩ (.string ⟨p.toArray⟩)).setCell ⟨w.heap.size, 1, none⟩ (.int .i64 κ)).setCell ⟨w.heap.size, 2, none⟩ (.slice (some ⟨g, 0, none⟩) j c4)).drew := by
  have h1 := M.glo
  have hb := ((M.bel.setCell (p := ⟨w.heap.size, 0, none⟩) (Nat.le_refl _) (.string ⟨p.toArray⟩)).setCell (p := ⟨w.heap.size, 1, none⟩) (Nat.le_refl _) (.int .i64 κ)).setCell (p := ⟨w.heap.size, 2, none⟩) (Nat.le_refl _) (.slice (some ⟨g, 0, none⟩) j c4)
  have hb8 : Below w.heap.size W8 (((W8.setCell ⟨w.heap.size, 0, none⟩ (.string ⟨p.toArray⟩)).setCell ⟨w.heap.size, 1, none⟩ (.int .i64 κ)).setCell ⟨w.heap.size, 2, none⟩ (.slice (some ⟨g, 0, none⟩) j c4)) :=
    (((Below.mono (Below.refl W8.heap.size W8) M.bel.size).setCell (p := ⟨w.heap.size, 0, none⟩) (Nat.le_refl _) _).setCell (p := ⟨w.heap.size, 1, none⟩) (Nat.le_refl _) _).setCell (p := ⟨w.heap.size, 2, none⟩) (Nat.le_refl _) _
  refine bodyPost_ret (res_ent3 (t := 4) (u := 5) (v := 6) (g := w.heap.size) rfl h4 (((M.out.set_ 0 _).set_ 1 _).set_ 2 _).drew rfl) rfl ⟨hb.drew, p, κ, d, some ⟨g, 0, none⟩, j, c4, A2, n2, c2, r, true, ?_, hT.below (hb8.drew.mono hB), .inl ⟨rfl, he, ⟨g, rfl, by omega, by simpa [World.setCell, World.drew] using M.ghi, ((M.free.set_ _ _).set_ _ _).set_ _ _⟩, (slc_far (slc_far (slc_far M.slc (by simp; omega) _) (by simp; omega) _) (by simp; omega) _).drew⟩⟩
  rw [h5, h6]
  rfl
theorem TextIn.tail_at {w : World} {B bb off n c j : Nat} {s : Txt} (h : TextIn w B (some ⟨bb, off, none⟩) n c s) (hj : j < n) (hc : j + 1 = c) : TextIn w B (some ⟨bb, off, none⟩) (n - c) 0 (s.drop (j + 1)) := by
  obtain ⟨A2, e, h2⟩ := h.from_ (j := j + 1) (by omega)
  unfold Lib.fromV at e
  rw [if_pos hc.symm] at e
  injection e with e1 _ _
  subst e1
  have e3 : n - (j + 1) = n - c := by omega
  have e4 : c - (j + 1) = 0 := by omega
  rwa [e3, e4] at h2
theorem TextIn.tail_in {w : World} {B bb off n c j : Nat} {s : Txt} (h : TextIn w B (some ⟨bb, off, none⟩) n c s) (hj : j < n) (hc : ¬ j + 1 = c) : TextIn w B (some ⟨bb, off + (j + 1), none⟩) (n - (j + 1)) (c - (j + 1)) (s.drop (j + 1)) := by
  obtain ⟨A2, e, h2⟩ := h.from_ (j := j + 1) (by omega)
  unfold Lib.fromV at e
  rw [if_neg (fun e => hc e.symm), Option.map_some, addr_of_add] at e
  injection e with e1 _ _
  subst e1
  exact h2
end Go.Proofs.YtdhlklidenfbeaaGreatDoor
