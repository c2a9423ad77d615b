/- A system's text, and the system of a text: plain, with no program in sight. A script of steps: plain, with no program in sight. activate.empty and activate.may at the steps of the document's examples. The walks of (*strings.Builder).copyCheck and WriteString at this dump: the dump's copyCheck has no panic of its own (it is cut), so that the shelf's contract does not fit. Contracts of the library laid at this dump. -/
import Derived.Test.YtibndaianhlcaaaGreatDoorPart9
import Derived.Test.YtibndaianhlcaaaGreatDoorPart20
import Derived.Test.YtibndaianhlcaaaGreatDoorPart21
import Derived.Deep.DeepCutAuto
import Derived.Deep.CutBlock
import Derived.Test.YtibndaianhlcaaaGreatDoorPart4
import Derived.Shelf.Strings.BuilderK
import Derived.Shelf.LaysM
import Derived.Ground.GgwProg
import Derived.Ground.SlgnProg
import Derived.Ground.SlgfProg
import Derived.Test.YtibndaianhlcaaaGreatDoorProg
namespace Go.Proofs.YtibndaianhlcaaaGreatDoor
set_option linter.unusedVariables false
set_option linter.unusedSimpArgs false

def splitN (c : UInt8) : Txt → List Txt
  | [] => [[]]
  | x :: l => if x = c then [] :: splitN c l else match splitN c l with
    | [] => [[x]]
    | p :: q => (x :: p) :: q
theorem splitN_ne (c : UInt8) (l : Txt) : splitN c l ≠ [] := by
  cases l with
  | nil => simp [splitN]
  | cons x l =>
    unfold splitN
    split
    · simp
    · split <;> simp
theorem splitN_line (c : UInt8) : ∀ (a b : Txt), c ∉ a → splitN c (a ++ c :: b) = a :: splitN c b
  | [], b, _ => by simp [splitN]
  | x :: a, b, h => by
    have hx : ¬ x = c := fun e => h (by rw [e]; exact List.mem_cons_self)
    have ih := splitN_line c a b (fun hm => h (List.mem_cons_of_mem _ hm))
    rw [List.cons_append, splitN, if_neg hx, ih]
/-- A line's first word, and what is behind the blank. -/
def wordT (l : Txt) : Txt := l.takeWhile fun x => decide (x ≠ 32)
def behindT (l : Txt) : Txt := (l.dropWhile fun x => decide (x ≠ 32)).drop 1
theorem word_line : ∀ (w r : Txt), (32 : UInt8) ∉ w → wordT (w ++ 32 :: r) = w ∧ behindT (w ++ 32 :: r) = r
  | [], r, _ => by simp [wordT, behindT]
  | x :: w, r, h => by
    have hx : x ≠ 32 := fun e => h (by rw [e]; exact List.mem_cons_self)
    obtain ⟨h1, h2⟩ := word_line w r (fun hm => h (List.mem_cons_of_mem _ hm))
    unfold wordT behindT at *
    refine ⟨?_, ?_⟩
    · rw [List.cons_append, List.takeWhile_cons_of_pos (by simpa using hx), h1]
    · rw [List.cons_append, List.dropWhile_cons_of_pos (by simpa using hx), h2]
def wRun : Txt := [114, 117, 110]
def wReq : Txt := [114, 101, 113, 117, 105, 114, 101, 115]
def wAft : Txt := [97, 102, 116, 101, 114]
def wUser : Txt := [117, 115, 101, 114]
def wUnit : Txt := [117, 110, 105, 116]
/-- A line is added to a unit; false: it is none of a unit's. -/
def moreU (u : Srv) (w r : Txt) : Srv × Bool :=
  if w = wRun then (⟨u.name, r, u.req, u.aft⟩, true)
  else if w = wReq then (⟨u.name, u.start, u.req ++ [r], u.aft⟩, true)
  else if w = wAft then (⟨u.name, u.start, u.req, u.aft ++ [r]⟩, true)
  else (u, false)
def lastU (l : List Srv) (f : Srv → Srv) : List Srv := match l.getLast? with
  | none => l
  | some u => l.dropLast ++ [f u]
theorem last_id (l : List Srv) : lastU l (fun u => u) = l := by
  rcases List.eq_nil_or_concat l with rfl | ⟨m, u, rfl⟩
  · rfl
  · unfold lastU
    simp
theorem last_app (l : List Srv) (u : Srv) (f : Srv → Srv) : lastU (l ++ [u]) f = l ++ [f u] := by
  unfold lastU
  simp
/-- What a line makes of a system. -/
def sysLine (s : SysP) (l : Txt) : SysP :=
  if wordT l = wUser then ⟨s.files, s.users ++ [behindT l], s.units⟩
  else if wordT l = wUnit then ⟨s.files, s.users, s.units ++ [⟨behindT l, [], [], []⟩]⟩
  else ⟨s.files, s.users, lastU s.units fun u => (moreU u (wordT l) (behindT l)).1⟩
def sysText (s : SysP) (t : Txt) : SysP := (splitN 10 t).foldl sysLine s
theorem sys_line {s : SysP} {a b : Txt} (h : (10 : UInt8) ∉ a) : sysText s (a ++ 10 :: b) = sysText (sysLine s a) b := by
  unfold sysText
  rw [splitN_line 10 a b h]
  rfl
theorem line_user (s : SysP) (n : Txt) : sysLine s ([117, 115, 101, 114, 32] ++ n) = ⟨s.files, s.users ++ [n], s.units⟩ := by
  obtain ⟨h1, h2⟩ := word_line wUser n (by decide)
  have e : ([117, 115, 101, 114, 32] : Txt) ++ n = wUser ++ 32 :: n := rfl
  rw [e]
  unfold sysLine
  rw [h1, h2, if_pos rfl]
theorem line_unit (s : SysP) (n : Txt) : sysLine s ([117, 110, 105, 116, 32] ++ n) = ⟨s.files, s.users, s.units ++ [⟨n, [], [], []⟩]⟩ := by
  obtain ⟨h1, h2⟩ := word_line wUnit n (by decide)
  have e : ([117, 110, 105, 116, 32] : Txt) ++ n = wUnit ++ 32 :: n := rfl
  rw [e]
  unfold sysLine
  rw [h1, h2, if_neg (by decide), if_pos rfl]
theorem line_more {s : SysP} {U : List Srv} {u : Srv} (hu : s.units = U ++ [u]) (w n : Txt) (hw : (32 : UInt8) ∉ w) (h1 : w ≠ wUser) (h2 : w ≠ wUnit) : sysLine s (w ++ 32 :: n) = ⟨s.files, s.users, U ++ [(moreU u w n).1]⟩ := by
  obtain ⟨e1, e2⟩ := word_line w n hw
  unfold sysLine
  rw [e1, e2, if_neg h1, if_neg h2, hu, last_app]
theorem text_users : ∀ (us : List Txt) (s : SysP) (t : Txt), (∀ n ∈ us, (10 : UInt8) ∉ n) → sysText s (us.flatMap (fun n => [117, 115, 101, 114, 32] ++ n ++ [10]) ++ t) = sysText ⟨s.files, s.users ++ us, s.units⟩ t
  | [], s, t, _ => by simp
  | n :: us, s, t, h => by
    have hn : (10 : UInt8) ∉ [117, 115, 101, 114, 32] ++ n := by
      intro hm
      rcases List.mem_append.1 hm with hm | hm
      · revert hm; decide
      · exact h n List.mem_cons_self hm
    have e : (n :: us).flatMap (fun n => [117, 115, 101, 114, 32] ++ n ++ [10]) ++ t = ([117, 115, 101, 114, 32] ++ n) ++ 10 :: (us.flatMap (fun n => [117, 115, 101, 114, 32] ++ n ++ [10]) ++ t) := by simp
    rw [e, sys_line hn, line_user, text_users us _ t (fun m hm => h m (List.mem_cons_of_mem _ hm))]
    simp
theorem text_more (w : Txt) (hw : (32 : UInt8) ∉ w) (hw2 : (10 : UInt8) ∉ w) (h1 : w ≠ wUser) (h2 : w ≠ wUnit) : ∀ (ns : List Txt) (U : List Srv) (u : Srv) (s : SysP) (t : Txt), s.units = U ++ [u] → (∀ n ∈ ns, (10 : UInt8) ∉ n) →
    sysText s (ns.flatMap (fun n => (w ++ [32]) ++ n ++ [10]) ++ t) = sysText ⟨s.files, s.users, U ++ [ns.foldl (fun v n => (moreU v w n).1) u]⟩ t
  | [], U, u, s, t, hu, _ => by simp [← hu]
  | n :: ns, U, u, s, t, hu, h => by
    have hn : (10 : UInt8) ∉ w ++ 32 :: n := by
      intro hm
      rcases List.mem_append.1 hm with hm | hm
      · exact hw2 hm
      · rcases List.mem_cons.1 hm with hm | hm
        · revert hm; decide
        · exact h n List.mem_cons_self hm
    have e : (n :: ns).flatMap (fun n => (w ++ [32]) ++ n ++ [10]) ++ t = (w ++ 32 :: n) ++ 10 :: (ns.flatMap (fun n => (w ++ [32]) ++ n ++ [10]) ++ t) := by simp
    rw [e, sys_line hn, line_more hu w n hw h1 h2, text_more w hw hw2 h1 h2 ns U (moreU u w n).1 _ t rfl (fun m hm => h m (List.mem_cons_of_mem _ hm))]
    rfl
theorem fold_req : ∀ (ns : List Txt) (u : Srv), ns.foldl (fun v n => (moreU v wReq n).1) u = ⟨u.name, u.start, u.req ++ ns, u.aft⟩
  | [], u => by simp
  | n :: ns, u => by
    have e : (moreU u wReq n).1 = ⟨u.name, u.start, u.req ++ [n], u.aft⟩ := by unfold moreU; rw [if_neg (by decide), if_pos rfl]
    rw [List.foldl_cons, e, fold_req ns]
    simp
theorem fold_aft : ∀ (ns : List Txt) (u : Srv), ns.foldl (fun v n => (moreU v wAft n).1) u = ⟨u.name, u.start, u.req, u.aft ++ ns⟩
  | [], u => by simp
  | n :: ns, u => by
    have e : (moreU u wAft n).1 = ⟨u.name, u.start, u.req, u.aft ++ [n]⟩ := by unfold moreU; rw [if_neg (by decide), if_neg (by decide), if_pos rfl]
    rw [List.foldl_cons, e, fold_aft ns]
    simp
/-- No line ends within a unit's words. -/
def Calm (u : Srv) : Prop := (10 : UInt8) ∉ u.name ∧ (10 : UInt8) ∉ u.start ∧ (∀ n ∈ u.req, (10 : UInt8) ∉ n) ∧ (∀ n ∈ u.aft, (10 : UInt8) ∉ n)
theorem text_unit {s : SysP} {u : Srv} (hc : Calm u) (t : Txt) : sysText s ([117, 110, 105, 116, 32] ++ u.name ++ [10] ++ linesU u ++ t) = sysText ⟨s.files, s.users, s.units ++ [u]⟩ t := by
  obtain ⟨c1, c2, c3, c4⟩ := hc
  have n1 : (10 : UInt8) ∉ [117, 110, 105, 116, 32] ++ u.name := by
    intro hm
    rcases List.mem_append.1 hm with hm | hm
    · revert hm; decide
    · exact c1 hm
  have e1 : [117, 110, 105, 116, 32] ++ u.name ++ [10] ++ linesU u ++ t = ([117, 110, 105, 116, 32] ++ u.name) ++ 10 :: (([u.start].flatMap (fun n => (wRun ++ [32]) ++ n ++ [10])) ++ (u.req.flatMap (fun n => (wReq ++ [32]) ++ n ++ [10]) ++ (u.aft.flatMap (fun n => (wAft ++ [32]) ++ n ++ [10]) ++ t))) := by
    simp [linesU, wRun, wReq, wAft]
  rw [e1, sys_line n1, line_unit]
  rw [text_more wRun (by decide) (by decide) (by decide) (by decide) [u.start] s.units ⟨u.name, [], [], []⟩ _ _ rfl (by simpa using c2)]
  rw [text_more wReq (by decide) (by decide) (by decide) (by decide) u.req s.units _ _ _ rfl c3, fold_req]
  rw [text_more wAft (by decide) (by decide) (by decide) (by decide) u.aft s.units _ _ _ rfl c4, fold_aft]
  have e2 : [u.start].foldl (fun v n => (moreU v wRun n).1) (⟨u.name, [], [], []⟩ : Srv) = ⟨u.name, u.start, [], []⟩ := rfl
  rw [e2]
  simp
theorem text_units : ∀ (us : List Srv) (s : SysP) (t : Txt), (∀ u ∈ us, Calm u) → sysText s (us.flatMap (fun u => [117, 110, 105, 116, 32] ++ u.name ++ [10] ++ linesU u) ++ t) = sysText ⟨s.files, s.users, s.units ++ us⟩ t
  | [], s, t, _ => by simp
  | u :: us, s, t, h => by
    rw [List.flatMap_cons, List.append_assoc, text_unit (h u List.mem_cons_self), text_units us _ t (fun v hv => h v (List.mem_cons_of_mem _ hv))]
    simp
/-- A system's text is read as that system. -/
theorem sys_back {s : SysP} (hu : ∀ n ∈ s.users, (10 : UInt8) ∉ n) (hn : ∀ u ∈ s.units, Calm u) (F : List Ent) : sysText ⟨F, [], []⟩ (textS s) = ⟨F, s.users, s.units⟩ := by
  unfold textS
  rw [List.append_assoc, text_users s.users _ _ hu, text_units s.units _ _ hn]
  have e : ([101, 110, 100, 10] : Txt) = [101, 110, 100] ++ 10 :: [] := rfl
  rw [e, sys_line (by decide)]
  have e2 : ∀ s : SysP, sysLine s [101, 110, 100] = s := fun s => by
    unfold sysLine
    rw [if_neg (by decide), if_neg (by decide)]
    have e3 : ∀ l : List Srv, lastU l (fun u => (moreU u (wordT [101, 110, 100]) (behindT [101, 110, 100])).1) = l := fun l => by
      have e4 : (fun u : Srv => (moreU u (wordT [101, 110, 100]) (behindT [101, 110, 100])).1) = fun u => u := by
        funext u
        unfold moreU
        rw [if_neg (by decide), if_neg (by decide), if_neg (by decide)]
      rw [e4, last_id]
    rw [e3]
  rw [e2]
  have e5 : ∀ s : SysP, sysText s [] = s := fun s => by
    unfold sysText
    show sysLine s [] = s
    unfold sysLine
    rw [if_neg (by decide), if_neg (by decide)]
    have e4 : (fun u : Srv => (moreU u (wordT []) (behindT [])).1) = fun u => u := by
      funext u
      unfold moreU
      rw [if_neg (by decide), if_neg (by decide), if_neg (by decide)]
    rw [e4]
    rw [last_id]
  rw [e5]
  simp
end Go.Proofs.YtibndaianhlcaaaGreatDoor
namespace Go.Proofs.YtibndaianhlcaaaGreatDoor
set_option linter.unusedVariables false
set_option linter.unusedSimpArgs false

/-- Has a step no file and no unit, as far as it needs none? -/
def emptyA (a : ActP) : Bool := (decide (a.kind = 4) || decide (a.file.path = [] ∧ a.file.kind = 0 ∧ a.file.data = [])) && (decide (a.kind = 6) || decide (a.unit.name = [] ∧ a.unit.start = [] ∧ a.unit.req = [] ∧ a.unit.aft = []))
/-- May a step be? -/
def mayA (a : ActP) : Bool := emptyA a &&
  (if a.kind = 1 ∨ a.kind = 3 ∨ a.kind = 5 then nameB a.name
   else if a.kind = 2 then rightB [⟨a.name, 1, []⟩]
   else if a.kind = 4 then decide (a.name = a.file.path) && rightB [a.file]
   else if a.kind = 6 then decide (a.name = a.unit.name) && mayU a.unit
   else false)
def wStop : Txt := [115, 116, 111, 112]
def wRemove : Txt := [114, 101, 109, 111, 118, 101]
def wDrop : Txt := [100, 114, 111, 112]
def wStart : Txt := [115, 116, 97, 114, 116]
def wFile : Txt := [102, 105, 108, 101]
def wEnd : Txt := [101, 110, 100, 10]
/-- A step's first line; `dec` tells a number. -/
def headA (dec : Nat → Txt) (a : ActP) : Txt :=
  if a.kind = 1 then wStop ++ 32 :: a.name
  else if a.kind = 2 then wRemove ++ 32 :: a.name
  else if a.kind = 3 then wDrop ++ 32 :: a.name
  else if a.kind = 5 then wUser ++ 32 :: a.name
  else if a.kind = 6 then wStart ++ 32 :: a.name
  else wFile ++ 32 :: (if a.file.kind = 3 then [108, 32] else [102, 32]) ++ a.file.path ++ 32 :: dec a.file.data.length
def bodyA (a : ActP) : Txt := if a.kind = 4 then a.file.data else if a.kind = 6 then linesU a.unit else []
/-- The script of some steps; none: there is none. -/
def textA (dec : Nat → Txt) (l : List ActP) : Option Txt := if l.length ≤ 128 ∧ l.all mayA = true then some (l.flatMap (fun a => headA dec a ++ 10 :: bodyA a) ++ wEnd) else none
/-- A text cut at its first byte of this kind. -/
def frontT (c : UInt8) (l : Txt) : Txt := l.takeWhile fun x => decide (x ≠ c)
def afterT (c : UInt8) (l : Txt) : Txt := (l.dropWhile fun x => decide (x ≠ c)).drop 1
theorem after_less (c : UInt8) {l : Txt} (h : l ≠ []) : (afterT c l).length < l.length := by
  unfold afterT
  rw [List.length_drop]
  have h1 := (List.dropWhile_sublist (fun x => decide (x ≠ c)) (l := l)).length_le
  have h2 := List.length_pos_iff.2 h
  omega
theorem front_line (c : UInt8) : ∀ (w r : Txt), c ∉ w → frontT c (w ++ c :: r) = w ∧ afterT c (w ++ c :: r) = r
  | [], r, _ => by simp [frontT, afterT]
  | x :: w, r, h => by
    have hx : x ≠ c := fun e => h (by rw [e]; exact List.mem_cons_self)
    obtain ⟨h1, h2⟩ := front_line c w r (fun hm => h (List.mem_cons_of_mem _ hm))
    unfold frontT afterT at *
    refine ⟨?_, ?_⟩
    · rw [List.cons_append, List.takeWhile_cons_of_pos (by simpa using hx), h1]
    · rw [List.cons_append, List.dropWhile_cons_of_pos (by simpa using hx), h2]
/-- One line of a script is read; `num` reads a number's text. none: no script. -/
def readA (num : Txt → Option Nat) (out : List ActP) (rest : Txt) : Option (List ActP × Txt) :=
  let line := frontT 10 rest
  let more := afterT 10 rest
  let word := frontT 32 line
  let name := afterT 32 line
  if word = wStop then some (out ++ [⟨1, name, ent0, srv0⟩], more)
  else if word = wRemove then some (out ++ [⟨2, name, ent0, srv0⟩], more)
  else if word = wDrop then some (out ++ [⟨3, name, ent0, srv0⟩], more)
  else if word = wUser then some (out ++ [⟨5, name, ent0, srv0⟩], more)
  else if word = wStart then some (out ++ [⟨6, name, ent0, ⟨name, [], [], []⟩⟩], more)
  else if word = wFile then
    match splitN 32 name with
    | [k, p, d] => match (if d.length ≤ 4 then num d else none) with
      | some n => if n ≤ more.length then some (out ++ [⟨4, p, ⟨p, if k = [108] then 3 else 1, more.take n⟩, srv0⟩], more.drop n) else some (out ++ [⟨0, [], ent0, srv0⟩], [])
      | none => some (out ++ [⟨0, [], ent0, srv0⟩], [])
    | _ => some (out ++ [⟨0, [], ent0, srv0⟩], [])
  else match out.getLast? with
    | none => none
    | some a => if a.kind = 6 ∧ (moreU a.unit word name).2 = true then some (out.dropLast ++ [⟨a.kind, a.name, a.file, (moreU a.unit word name).1⟩], more) else none
end Go.Proofs.YtibndaianhlcaaaGreatDoor
namespace Go.Proofs.YtibndaianhlcaaaGreatDoor
open Go.RowKit Go.Sort Go.Shelf
set_option linter.unusedVariables false
set_option linter.unusedSimpArgs false

/-- No file, no unit: empty lists may lie anywhere. -/
def ev1 (A : Option Addr) (c : Nat) : EV := ⟨[], 0, [], A, 0, c⟩
def sv1 (A : Option Addr) (c : Nat) (A' : Option Addr) (c' : Nat) : SV := ⟨[], [], [], A, 0, c, [], A', 0, c'⟩
set_option maxRecDepth 100000 in
set_option maxHeartbeats 1000000 in
theorem emptyP_any {w : World} {eA : Option Addr} {ec : Nat} {uA : Option Addr} {uc : Nat} {uB : Option Addr} {ud : Nat} (kind : Int) (name : Txt) (hk : kind = 1 ∨ kind = 3 ∨ kind = 5) :
    Calls Tryz.prog 100 #[.agg (avArr ⟨kind, name, ev1 eA ec, sv1 uA uc uB ud⟩)] w fun e w' => e = .returned (.bool true) ∧ Below w.heap.size w w' := by
  have hb : Below w.heap.size w ((w.alloc (.cells (avArr ⟨kind, name, ev1 eA ec, sv1 uA uc uB ud⟩) 61)).alloc (.cells (svArr (sv1 uA uc uB ud)) 59)) := (bel_new _ _).alloc (by simp) _
  unfold avArr ev1 sv1 at hb ⊢
  unfold svArr at hb
  (try simp only at hb)
  rcases hk with rfl | rfl | rfl
  all_goals
    go_enter Tryz.func100, Tryz.ntmps100
    go_wp2_with (fail)
    go_ret
    exact ⟨rfl, hb⟩
set_option maxRecDepth 100000 in
set_option maxHeartbeats 1000000 in
theorem emptyU_any {w : World} {eA : Option Addr} {ec : Nat} (u : SV) :
    Calls Tryz.prog 100 #[.agg (avArr ⟨6, u.name, ev1 eA ec, u⟩)] w fun e w' => e = .returned (.bool true) ∧ Below w.heap.size w w' := by
  have hb : Below w.heap.size w ((w.alloc (.cells (avArr ⟨6, u.name, ev1 eA ec, u⟩) 61)).alloc (.cells (svArr u) 59)) := (bel_new _ _).alloc (by simp) _
  unfold avArr ev1 at hb ⊢
  unfold svArr at hb
  (try simp only at hb)
  go_enter Tryz.func100, Tryz.ntmps100
  go_wp2_with (fail)
  go_ret
  exact ⟨rfl, hb⟩
/-- Two lists of texts put together in a block of their own. -/
structure Both2 (W : World) (u : SV) (g1 c1 : Nat) (w1 : World) (A2 : Option Addr) (c2 : Nat) (w2 : World) : Prop where
  r1 : (Builtin.append_ #[23, 23] 23 #[.slice (some ⟨W.heap.size, 0, none⟩) 0 0, .slice u.A u.n u.c]).run Tryz.prog (W.alloc (.cells #[] 9)) = .ok (.slice (some ⟨g1, 0, none⟩) u.n c1) w1
  r2 : (Builtin.append_ #[23, 23] 23 #[.slice (some ⟨g1, 0, none⟩) u.n c1, .slice u.A2 u.n2 u.c2]).run Tryz.prog w1 = .ok (.slice A2 (u.n + u.n2) c2) w2
  own : w2.ownsRow W.heap.size 9 1 (.slice A2 (u.n + u.n2) c2) (u.n + u.n2) ((u.req ++ u.aft).map encStr)
  bel1 : Below W.heap.size W w1
  bel : Below W.heap.size W w2
theorem both2 {W : World} {B : Nat} (u : SV) (h1 : Slc W B 1 u.A u.n u.c (u.req.map encStr)) (h2 : Slc W B 1 u.A2 u.n2 u.c2 (u.aft.map encStr)) (hB : B ≤ W.heap.size) (hn : u.n ≤ 100000000 ∧ u.n2 ≤ 100000000) :
    ∃ g1 c1 w1 A2 c2 w2, Both2 W u g1 c1 w1 A2 c2 w2 := by
  obtain ⟨g1, c1, w1, S⟩ := strs_copy h1 hB (by omega)
  obtain ⟨i, hi, hz0, hz1, hz2⟩ := info_parts str_info
  have hge := S.ge
  obtain ⟨A2, c2, w2, r2, o2, g2, _⟩ := append_slc (P := Tryz.prog) w1 W.heap.size 23 23 _ i _ 1 16 Tryz.underlying23 hi hz0 hz1 hz2 rfl (by decide) _ u.n _ S.own B u.A2 u.n2 u.c2 (u.aft.map encStr) (h2.below (S.bel.mono hB)) (strs_one u.aft) (by unfold maxLen; omega) (by omega) S.bel.size
  rw [← List.map_append] at o2
  exact ⟨g1, c1, w1, A2, c2, w2, S.run, r2, o2, S.bel, grown_below S.bel S.own S.bel.size g2⟩
set_option maxRecDepth 100000 in
set_option maxHeartbeats 1000000 in
theorem mayP_any {w : World} {eA : Option Addr} {ec : Nat} {uA : Option Addr} {uc : Nat} {uB : Option Addr} {ud : Nat} (kind : Int) (name : Txt) (hk : kind = 1 ∨ kind = 3 ∨ kind = 5) (hl : name.length ≤ 1000000000) :
    Calls Tryz.prog 69 #[.agg (avArr ⟨kind, name, ev1 eA ec, sv1 uA uc uB ud⟩)] w fun e w' => e = .returned (.bool (nameB name)) ∧ Below w.heap.size w w' := by
  obtain ⟨W1, hW1⟩ : ∃ W1, W1 = w.alloc (.cells (avArr ⟨kind, name, ev1 eA ec, sv1 uA uc uB ud⟩) 61) := ⟨_, rfl⟩
  have hb1 : Below w.heap.size w W1 := by rw [hW1]; exact bel_new _ _
  have hG1 : Blk W1 w.heap.size 61 (avArr ⟨kind, name, ev1 eA ec, sv1 uA uc uB ud⟩) := by rw [hW1]; exact Blk.new _ _ _
  have hem := emptyP_any (w := W1) (eA := eA) (ec := ec) (uA := uA) (uc := uc) (uB := uB) (ud := ud) kind name hk
  have HK := Lib.hid (fun (W : World) (hW : Below W1.heap.size W1 W) => show W.cell? ⟨w.heap.size, 0, none⟩ = some (.int .i64 kind) ∧ W.cell? ⟨w.heap.size, 1, none⟩ = some (.string ⟨name.toArray⟩) from ⟨(hG1.below hW hG1.lt).cell 0, (hG1.below hW hG1.lt).cell 1⟩)
  have HN := Lib.hid (fun (W : World) => name_any ⟨name.toArray⟩ W (by rw [bsz_mk]; unfold maxLen; omega))
  have HB1 := Lib.hid hb1
  have HW1 := Lib.hid hW1
  rw [hW1] at hem
  unfold avArr ev1 sv1 at hem ⊢
  simp only at hem ⊢
  clear hb1 hG1 hW1
  rcases hk with rfl | rfl | rfl
  all_goals
    go_enter Tryz.func69, Tryz.ntmps69
    go_wp2_with (first
      | (go_at_call 100; refine hem.mono ?_; clear hem; rintro e2 w2 ⟨rfl, hb2⟩; have hb2' := (show Below W1.heap.size W1 w2 by rw [HW1.out]; exact hb2); obtain ⟨y0, y1⟩ := HK.out w2 hb2'; have hnm := HN.out w2; have HB2 := Lib.hid (HB1.out.trans (hb2'.mono HB1.out.size)); clear hb2 hb2')
      | (go_at_call 39; refine hnm.mono ?_; clear hnm; rintro e3 w3 ⟨rfl, hb3⟩))
    go_ret
    exact ⟨rfl, HB2.out.trans (hb3.mono HB2.out.size)⟩
theorem start_fresh {u : Srv} : doM newM (startA u) = if mayU u && u.req.all (hasU []) then (⟨[], [], [u], []⟩, 0) else (newM, 70) := start_new (U := []) rfl (by decide)
theorem mayU_both (u : Srv) : mayU ⟨u.name, u.start, [], u.req ++ u.aft⟩ = mayU u := by simp [mayU]
set_option maxRecDepth 100000 in
set_option maxHeartbeats 4000000 in
theorem mayU_any {w : World} {B : Nat} {eA : Option Addr} {ec : Nat} (u : SV) (h1 : Slc w B 1 u.A u.n u.c (u.req.map encStr)) (h2 : Slc w B 1 u.A2 u.n2 u.c2 (u.aft.map encStr)) (hB : B ≤ w.heap.size) (hs : SmallU u) :
    Calls Tryz.prog 69 #[.agg (avArr ⟨6, u.name, ev1 eA ec, u⟩)] w fun e w' => e = .returned (.bool (mayU u.srv)) ∧ Below w.heap.size w w' := by
  obtain ⟨W1, hW1⟩ : ∃ W1, W1 = w.alloc (.cells (avArr ⟨6, u.name, ev1 eA ec, u⟩) 61) := ⟨_, rfl⟩
  have hb1 : Below w.heap.size w W1 := by rw [hW1]; exact bel_new _ _
  have hG1 : Blk W1 w.heap.size 61 (avArr ⟨6, u.name, ev1 eA ec, u⟩) := by rw [hW1]; exact Blk.new _ _ _
  have hem := emptyU_any (w := W1) (eA := eA) (ec := ec) u
  have HK := Lib.hid (fun (W : World) (hW : Below W1.heap.size W1 W) => hG1.below hW hG1.lt)
  have HB1 := Lib.hid hb1
  have HW1 := Lib.hid hW1
  have H1 := Lib.hid h1
  have H2 := Lib.hid h2
  have HB := Lib.hid hB
  have HS := Lib.hid hs
  have HGL := Lib.hid hG1.lt
  rw [hW1] at hem
  obtain ⟨nm, st, rq, A, n, c, af, A2, n2, c2⟩ := u
  unfold avArr ev1 at hem HK ⊢
  simp only at hem HK ⊢
  clear hb1 hG1 hW1 h1 h2 hB hs
  go_enter Tryz.func69, Tryz.ntmps69
  go_upto_region 14 with (go_at_call 100; refine hem.mono ?_; clear hem; rintro e2 w2 ⟨rfl, hb2⟩; have hb2' := (show Below W1.heap.size W1 w2 by rw [HW1.out]; exact hb2); have hG2 := HK.out w2 hb2'; have y0 := hG2.cell 0; have y1 := hG2.cell 1; have y5 := hG2.cell 5; have y6 := hG2.cell 6; have y7 := hG2.cell 7; have y8 := hG2.cell 8; simp only [List.getElem?_toArray, List.getElem?_cons_zero, List.getElem?_cons_succ] at y0 y1 y5 y6 y7 y8; have HB2 := Lib.hid hb2'; clear hb2 hb2' hG2)
  have HZ := Lib.hid (show w.heap.size < w2.heap.size from Nat.lt_of_lt_of_le HGL.out HB2.out.size)
  have hwl : w.heap.size < w2.heap.size := HZ.out
  obtain ⟨W3, hW3⟩ : ∃ W3, W3 = (w2.alloc (.cells #[.string ⟨nm.toArray⟩, .string ⟨st.toArray⟩, .slice A n c, .slice A2 n2 c2] 59)).drew := ⟨_, rfl⟩
  have hb3 : Below w2.heap.size w2 W3 := by rw [hW3]; exact (bel_new _ _).drew
  have hz3 : W3.heap.size = w2.heap.size + 1 := by rw [hW3]; simp
  have hG3 : Blk W3 w2.heap.size 59 #[.string ⟨nm.toArray⟩, .string ⟨st.toArray⟩, .slice A n c, .slice A2 n2 c2] := by rw [hW3]; exact (Blk.new _ _ _).drew
  have hbw2 := HB1.out.trans (HB2.out.mono HB1.out.size)
  have hwb := Nat.le_trans HB.out hbw2.size
  obtain ⟨g1, c1, w4, A5, c5, w5, D⟩ := both2 (W := W3) ⟨nm, st, rq, A, n, c, af, A2, n2, c2⟩ (H1.out.below ((hbw2.mono HB.out).trans (hb3.mono hwb))) (H2.out.below ((hbw2.mono HB.out).trans (hb3.mono hwb))) (by omega) ⟨by have := HS.out.n; simp only at this ⊢; omega, by have := HS.out.n2; simp only at this ⊢; omega⟩
  have r1 := D.r1
  have r2 := D.r2
  have hG4 := hG3.below D.bel1 hG3.lt
  have hG5 := hG3.below D.bel hG3.lt
  have k42 := hG4.cell 2
  have k43 := hG4.cell 3
  have k52 := hG5.cell 2
  have k53 := hG5.cell 3
  have f52 := hG5.frozen 2
  have f53 := hG5.frozen 3
  simp only [List.getElem?_toArray, List.getElem?_cons_zero, List.getElem?_cons_succ] at k42 k43 k52 k53
  rw [hz3, hW3] at r1
  have HR1 : Hid ((Builtin.append_ #[23, 23] 23 #[.slice (some ⟨w2.heap.size + 1, 0, none⟩) 0 0, .slice A n c]).run Tryz.prog ((w2.alloc (.cells #[.string ⟨nm.toArray⟩, .string ⟨st.toArray⟩, .slice A n c, .slice A2 n2 c2] 59)).alloc (.cells #[] 9)).drew = .ok (.slice (some ⟨g1, 0, none⟩) n c1) w4) := r1
  have HR2 : Hid ((Builtin.append_ #[23, 23] 23 #[.slice (some ⟨g1, 0, none⟩) n c1, .slice A2 n2 c2]).run Tryz.prog w4 = .ok (.slice A5 (n + n2) c5) w5) := r2
  have HU6 : Hid (Blk ((w5.setCell ⟨w2.heap.size, 2, none⟩ (.slice none 0 0)).setCell ⟨w2.heap.size, 3, none⟩ (.slice A5 (n + n2) c5)) w2.heap.size 59 #[.string ⟨nm.toArray⟩, .string ⟨st.toArray⟩, .slice none 0 0, .slice A5 (n + n2) c5]) := (hG5.set_ 2 (.slice none 0 0)).set_ 3 (.slice A5 (n + n2) c5)
  have HB6 : Hid (Below W1.heap.size W1 ((w5.setCell ⟨w2.heap.size, 2, none⟩ (.slice none 0 0)).setCell ⟨w2.heap.size, 3, none⟩ (.slice A5 (n + n2) c5))) := by
    have e1 := HB2.out.trans ((hb3.trans (D.bel.mono hb3.size)).mono HB2.out.size)
    exact (e1.setCell (p := ⟨w2.heap.size, 2, none⟩) HB2.out.size _).setCell (p := ⟨w2.heap.size, 3, none⟩) HB2.out.size _
  have HS6 : Hid (Slc ((w5.setCell ⟨w2.heap.size, 2, none⟩ (.slice none 0 0)).setCell ⟨w2.heap.size, 3, none⟩ (.slice A5 (n + n2) c5)) ((w5.setCell ⟨w2.heap.size, 2, none⟩ (.slice none 0 0)).setCell ⟨w2.heap.size, 3, none⟩ (.slice A5 (n + n2) c5)).heap.size 1 A5 (n + n2) c5 ((rq ++ af).map encStr)) := by
    have e1 := own_slc_of D.own
    have e2 : ∀ x, A5 = some x → W3.heap.size ≤ x.block := fun x hx => (D.own.lt x.block (by rw [hx]; rfl)).1
    have e3 := (e1.apartB (w' := w5.setCell ⟨w2.heap.size, 2, none⟩ (.slice none 0 0)) (fun x hx => Below.heap_setCell _ _ _ _ (by have := e2 x hx; simp only; omega))).apartB (w' := (w5.setCell ⟨w2.heap.size, 2, none⟩ (.slice none 0 0)).setCell ⟨w2.heap.size, 3, none⟩ (.slice A5 (n + n2) c5)) (fun x hx => Below.heap_setCell _ _ _ _ (by have := e2 x hx; simp only; omega))
    exact e3.more (by simp [World.setCell])
  have HA6 := Lib.hid (show ∀ x, A5 = some x → w2.heap.size < x.block from fun x hx => by have := (D.own.lt x.block (by rw [hx]; rfl)).1; omega)
  clear D r1 r2 hG3 hG4 hG5 hb3 hz3 hW3 hbw2 hwb
  go_cut [] (fun wx => ∃ (A5 : Option Addr) (c5 : Nat), Blk wx w2.heap.size 59 #[.string ⟨nm.toArray⟩, .string ⟨st.toArray⟩, .slice none 0 0, .slice A5 (n + n2) c5] ∧ Slc wx wx.heap.size 1 A5 (n + n2) c5 ((rq ++ af).map encStr) ∧ Below W1.heap.size W1 wx)
  case first =>
    go_region_law (first
      | (refine step_append_at (by rfl) _ _ _ (by rfl) HR1.out (by with_reducible rfl) (by rfl) (by rfl) (by rfl) ?_)
      | (refine step_append_at (by rfl) _ _ _ (by rfl) HR2.out (by with_reducible rfl) (by rfl) (by rfl) (by rfl) ?_))
    all_goals go_wp2_with (fail)
    all_goals go_meet
    all_goals case rel => exact ⟨A5, c5, HU6.out, HS6.out, HB6.out⟩
  case rest =>
    obtain ⟨A6, c6, hG, hS, hb⟩ := hcut
    have hd := (Below.refl wc.heap.size wc).drew
    have HKW := Lib.hid (fun (W : World) (hW : Below wc.heap.size wc W) => show W.cell? ⟨w.heap.size, 1, none⟩ = some (.string ⟨nm.toArray⟩) ∧ W.cell? ⟨w2.heap.size, 0, none⟩ = some (.string ⟨nm.toArray⟩) ∧ W.cell? ⟨w2.heap.size, 1, none⟩ = some (.string ⟨st.toArray⟩) ∧ W.cell? ⟨w2.heap.size, 2, none⟩ = some (.slice none 0 0) ∧ W.cell? ⟨w2.heap.size, 3, none⟩ = some (.slice A6 (n + n2) c6) from by
      have e1 := HK.out W (hb.trans (hW.mono hb.size))
      have e2 := hG.below hW hG.lt
      exact ⟨e1.cell 1, e2.cell 0, e2.cell 1, e2.cell 2, e2.cell 3⟩)
    have hnew := new_any wc.drew
    have hsu := HS.out
    have hsa : SmallA ⟨6, nm, ev0, ⟨nm, st, [], none, 0, 0, rq ++ af, A6, n + n2, c6⟩⟩ := by
      have a1 := hsu.n
      have a2 := hsu.n2
      have a3 := hsu.name
      have a4 := hsu.start
      refine ⟨⟨by show 0 ≤ 1000000000; omega, by show 0 ≤ 1000000000; omega, by show n + n2 ≤ 1000000000; simp only at a1 a2; omega⟩, Nat.le_trans a3 (by decide), by show ([] : Txt).length ≤ _; simp, Nat.le_trans a4 (by decide), fun t ht => ?_⟩
      rcases List.mem_cons.1 ht with h9 | h9
      · rw [h9]; exact Nat.le_trans a3 (by decide)
      · exact Nat.le_trans (hsu.texts t (by simpa using h9)) (by decide)
    have HSA := Lib.hid hsa
    clear hsa
    have HDO := Lib.hid (fun (w7 : World) (hR : MRun wc.drew w7.heap.size w7 (fun k => k = wc.drew.heap.size) wc.drew.heap.size newM) => hR.do_ (a := ⟨6, nm, ev0, ⟨nm, st, [], none, 0, 0, rq ++ af, A6, n + n2, c6⟩⟩) (C := wc.heap.size) ⟨slc_none _ _ _, slc_none _ _ _, hS.below (hd.trans hR.bel)⟩ hR.bel.size HSA.out (apart_low (u := ⟨nm, st, [], none, 0, 0, rq ++ af, A6, n + n2, c6⟩) (slc_none wc wc.heap.size 1) hS (fun k hk => by rw [show k = wc.drew.heap.size from hk]; exact Nat.le_refl _)))
    have HBF := Lib.hid (show Below w.heap.size w wc from HB1.out.trans (hb.mono HB1.out.size))
    have HD := Lib.hid hd
    obtain ⟨k1, k2, k3, k4, k5⟩ := HKW.out _ hd
    have HRES := Lib.hid (show doM newM (⟨6, nm, ev0, ⟨nm, st, [], none, 0, 0, rq ++ af, A6, n + n2, c6⟩⟩ : AV).act = if mayU ⟨nm, st, rq, af⟩ = true then (⟨[], [], [⟨nm, st, [], rq ++ af⟩], []⟩, 0) else (newM, 70) by
      have e1 : (⟨6, nm, ev0, ⟨nm, st, [], none, 0, 0, rq ++ af, A6, n + n2, c6⟩⟩ : AV).act = startA ⟨nm, st, [], rq ++ af⟩ := rfl
      have e2 := mayU_both ⟨nm, st, rq, af⟩
      simp only at e2
      rw [e1, start_fresh, e2]
      simp)
    clear hd hG hS hb hsu
    have HSP := Lib.hid (show SmallP (⟨6, nm, ev0, ⟨nm, st, [], none, 0, 0, rq ++ af, A6, n + n2, c6⟩⟩ : AV).act from ⟨by show ([] : Txt).length ≤ _; simp, by show ([] : List Txt).length ≤ _; simp, by
      show (rq ++ af).length ≤ _
      have a1 := H1.out.len
      have a2 := H2.out.len
      have a3 := HS.out.n
      have a4 := HS.out.n2
      simp at a1 a2 a3 a4
      rw [List.length_append]
      omega⟩)
    obtain ⟨x, hx⟩ : ∃ x, x = mayU ⟨nm, st, rq, af⟩ := ⟨_, rfl⟩
    have HCODE := Lib.hid (show (doM newM (⟨6, nm, ev0, ⟨nm, st, [], none, 0, 0, rq ++ af, A6, n + n2, c6⟩⟩ : AV).act).2 = if x = true then 0 else 70 by rw [HRES.out, hx]; split <;> rfl)
    have HX := Lib.hid hx
    clear hx HRES
    unfold avArr ev0 at HDO
    simp only at HDO
    go_wp2_with (fail)
    go_region_law (first
      | (go_simp; go_at_call 20; refine hnew.mono ?_; clear hnew; rintro e7 w7 ⟨rfl, hm7, hb7⟩; have hR7 := mrun_start hm7 hb7; obtain ⟨m1, m2, m3, m4, m5⟩ := HKW.out w7 (HD.out.trans hb7); have hdo := HDO.out w7 hR7; have HR7 := Lib.hid hR7; clear hm7 hb7 hR7)
      | (go_simp; go_at_call 42; refine hdo.mono ?_; clear hdo; intro e8 w8 hq; obtain ⟨rfl, h8, -⟩ := HR7.out.did HSP.out hq; have HB8 := Lib.hid (HBF.out.trans ((HD.out.trans h8.bel).mono HBF.out.size)); clear hq h8; rw [HCODE.out]))
    all_goals
      cases x <;>
      (go_wp2_with (fail)
       go_ret
       exact ⟨congrArg (fun b => Ending.returned (Value.bool b)) HX.out, HB8.out⟩)
end Go.Proofs.YtibndaianhlcaaaGreatDoor
namespace Go.Proofs.YtibndaianhlcaaaGreatDoor
open Go.RowKit
set_option linter.unusedVariables false
set_option linter.unusedSimpArgs false

theorem size_builder : (Tryz.prog.info? 113).map (·.size) = some 2 := by kernel_rfl
theorem lies_builder : liesAt Tryz.prog Tryz.prog.depth 113 (2 / Tryz.prog.cellsOf 113) 0 113 1 = true := by kernel_rfl
set_option maxRecDepth 100000 in
theorem check_any (B b : Nat) (bs : List Value) (w : World) (h : Lib.IsBuilderF 113 5 B b bs w) :
    Calls Tryz.prog 101 #[.pointer (some ⟨b, 0, none⟩)] w fun e w' => e = .returned (.tuple #[]) ∧ Lib.BuilderAtF 113 5 B b (.pointer (some ⟨b, 0, none⟩)) bs w' ∧ Below B w w' ∧ Lib.OthersKept 5 (some b) w w' := by
  rcases h with h | h
  · have c0 := h.cell0
    have f0 := h.frozen0
    have hs := h.shape
    have H := Lib.hid h
    clear h
    go_enter Tryz.func101, Tryz.ntmps101
    obtain ⟨j, hj, hjs⟩ := Option.map_eq_some_iff.1 size_builder
    go_wp2
    rw [Lib.run_to_unsafe w ⟨b, 0, none⟩ Tryz.underlying111 Tryz.underlying153 hj (by rw [hjs]; decide) hs (Nat.zero_lt_succ 1)]
    simp only [Result.andThen]
    rw [Oper.upon_value]
    go_wp2
    rw [run_callFunc_extern Tryz.func125 (by kernel_rfl) (by kernel_rfl) (by kernel_rfl) (e := Extern.AbiNoEscape.same) (by kernel_rfl)]
    rw [Lib.run_noEscape]
    simp only [Result.andThen]
    rw [Oper.upon_value]
    go_wp2
    rw [Lib.run_from_unsafe w ⟨b, 0, none⟩ Tryz.underlying153 Tryz.underlying111 hj hs lies_builder]
    simp only [Result.andThen]
    rw [Oper.upon_value]
    go_wp2
    go_end0
    exact ⟨rfl, H.out.used _, (Below.refl B w).setCell (p := ⟨b, 0, none⟩) H.out.1 _, (Lib.OthersKept.refl _ _ w).setCell ⟨b, 0, none⟩ rfl _⟩
  · have c0 := h.cell0
    have hs := h.shape
    have hlt := h.lt
    have H := Lib.hid h
    clear h
    go_enter Tryz.func101, Tryz.ntmps101
    obtain ⟨j, hj, _⟩ := Option.map_eq_some_iff.1 size_builder
    go_wp2
    rw [Lib.run_neq_ptr_same w _ Tryz.underlying111 hj]
    go_wp2
    go_end0
    exact ⟨rfl, H.out, Below.refl B _, Lib.OthersKept.refl _ _ _⟩

theorem byte_ne_builder : 113 ≠ 5 := by decide
set_option maxRecDepth 100000 in
set_option maxHeartbeats 2000000 in
/-- (*strings.Builder).WriteString: the bytes stand behind those that were there. -/
theorem ws_any (B b : Nat) (bs : List Value) (s : ByteArray) (w : World) (h : Lib.IsBuilderF 113 5 B b bs w) (hlen : bs.length + s.size ≤ 140737488355328) (hBw : B ≤ w.heap.size) :
    Calls Tryz.prog 70 #[.pointer (some ⟨b, 0, none⟩), .string s] w fun e w' => e = .returned (.tuple #[.int .i64 s.size, .nilIface]) ∧ Lib.IsBuilderF 113 5 B b (bs ++ Lib.strCells s) w' ∧ Below B w w' ∧ Lib.OthersKept 5 (some b) w w' := by
  obtain ⟨i0, hi, hz0, hz1, hz2⟩ := info_parts byte_info
  have hck := check_any B b bs w h
  go_enter Tryz.func70, Tryz.ntmps70
  go_wp2_with (go_at_call 101; refine hck.mono ?_)
  rintro e w1 ⟨rfl, h1, hb1, hk1⟩
  obtain ⟨hB, v, hbk, hown, hne⟩ := h1
  have c0 : w1.cell? ⟨b, 0, none⟩ = some (.pointer (some ⟨b, 0, none⟩)) := by rw [Lib.cell_of_heap hbk]; rfl
  have c1 : w1.cell? ⟨b, 1, none⟩ = some v := by rw [Lib.cell_of_heap hbk]; rfl
  go_wp2_with (at_builtin; refine Lib.wpList_append_own_stringF _ rfl _ _ 33 9 rfl B 5 i0 Tryz.underlying33 Tryz.underlying9 hi hz0 hz1 hz2 _ _ _ rfl hown s rfl ?c3 ?c4 ?c5 ?_)
  case c3 => unfold maxLen; omega
  case c4 => omega
  case c5 => have := hb1.size; omega
  intro v' w2 hown' hgrow _
  have hlt : b < w1.heap.size := by
    rcases Nat.lt_or_ge b w1.heap.size with h' | h'
    · exact h'
    · simp [Array.getElem?_eq_none h'] at hbk
  have hb2 : w2.heap[b]? = some (.cells #[.pointer (some ⟨b, 0, none⟩), v] 113 (0, 0)) := by
    rw [hgrow.block b hlt (fun e => hne e.symm)]
    exact hbk
  have d0 : w2.cell? ⟨b, 0, none⟩ = some (.pointer (some ⟨b, 0, none⟩)) := by rw [Lib.cell_of_heap hb2]; rfl
  have d1 : w2.cell? ⟨b, 1, none⟩ = some v := by rw [Lib.cell_of_heap hb2]; rfl
  have f1 : w2.frozen? ⟨b, 1, none⟩ = false := Lib.frozen_of_heap hb2 1
  obtain ⟨ao, n', cap, rfl⟩ : ∃ ao n' cap, v' = .slice ao n' cap := by
    rcases hown'.2 with ⟨hv, _⟩ | ⟨g, cap, cur, fz, hv, _⟩
    · exact ⟨_, _, _, hv⟩
    · exact ⟨_, _, _, hv⟩
  go_wp2
  go_ret2
  refine ⟨rfl, .inr ?_, ?_, (hk1.grown hgrow (Lib.ownsRowF_kind hown)).setCell ⟨b, 1, none⟩ rfl _⟩
  · exact Lib.BuilderAtF.put (T := 113) (e := 5) hB hb2 (bs' := bs ++ Lib.strCells s) (by simpa [Lib.strCells_length] using hown') byte_ne_builder
  · exact (hb1.grown hgrow (by have := hb1.size; omega) (fun k hk => (hown.lt k hk).1)).setCell (p := ⟨b, 1, none⟩) hB _
end Go.Proofs.YtibndaianhlcaaaGreatDoor
namespace Go.Proofs
open Go.Shelf
def Tryz.lays169_ren : Go.Shelf.Ren := ⟨fun | 169 => 74 | n => n, fun | 70 => 111 | 9 => 9 | 0 => 0 | 72 => 113 | 37 => 33 | 127 => 137 | 3 => 3 | 5 => 5 | n => n, fun | n => n⟩
theorem Tryz.lays169 : Go.Proofs.Lays.n169 Tryz.prog Tryz.lays169_ren := {
  mixed := by kernel_rfl
  f169 := Tryz.func74.trans (congrArg some (by kernel_rfl))
  t0 := Tryz.underlying0
  a0 := Tryz.isAgg0
  z0 := Tryz.sizeOf0
  v0 := Tryz.zeroValue0
  t3 := Tryz.underlying3
  a3 := Tryz.isAgg3
  z3 := Tryz.sizeOf3
  v3 := Tryz.zeroValue3
  t9 := Tryz.underlying9
  a9 := Tryz.isAgg9
  z9 := Tryz.sizeOf9
  v9 := Tryz.zeroValue9
  t37 := Tryz.underlying33
  a37 := Tryz.isAgg33
  z37 := Tryz.sizeOf33
  v37 := Tryz.zeroValue33
  t70 := Tryz.underlying111
  a70 := Tryz.isAgg111
  z70 := Tryz.sizeOf111
  v70 := Tryz.zeroValue111
  t72 := Tryz.underlying113
  a72 := Tryz.isAgg113
  z72 := Tryz.sizeOf113
  v72 := Tryz.zeroValue113
  t127 := Tryz.underlying137
  a127 := Tryz.isAgg137
  z127 := Tryz.sizeOf137
  v127 := Tryz.zeroValue137 }
theorem Tryz.Builder_Extra_169 : Builder.Extra Tryz.prog Tryz.lays169_ren := {
  sizeBuilder := by kernel_rfl
  liesBuilder := by kernel_rfl
  t5 := Tryz.underlying5
  a5 := Tryz.isAgg5
  z5 := Tryz.sizeOf5
  v5 := Tryz.zeroValue5
  infoByte := by kernel_rfl
  cellsByte := by kernel_rfl
  sizeByte := by kernel_rfl
  neB5 := by decide }
open Go.RowKit in
/-- (*strings.Builder).String: "String returns the accumulated string.": WHATEVER THE BUILDER HOLDS; THE FORM '_k': OVER 'Lib.IsBuilderF' (a builder that 'String()' may have read), AND WITH THE FRAME THAT REACHES ABOVE THE BUILDER: 'Lib.OthersKept': every block that is not b and is no row of uint8's stands as it stood: the iterator of a range among them. (LAID: no walk: one application.) -/
theorem Tryz.Builder_String_any_k (B b : Nat) (l : List UInt8) (w : World) (h : Lib.IsBuilderF 113 5 B b (Lib.byteCells l) w) (hBw : B ≤ w.heap.size) :
    Calls Tryz.prog 74 #[.pointer (some ⟨b, 0, none⟩)] w fun e w' => e = .returned (.string ⟨l.toArray⟩) ∧ (Lib.IsBuilderF 113 5 B b (Lib.byteCells l) w' ∧ Below B w w' ∧ Lib.OthersKept 5 (some b) w w') := Any.Builder_String_any_k Tryz.lays169 Tryz.Builder_Extra_169 B b l w h hBw
end Go.Proofs
