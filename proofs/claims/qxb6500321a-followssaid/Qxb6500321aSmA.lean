/-
  The compiler by itself: a machine that lays cells whose targets are names of blocks.
-/
import Derived.Test.Qxb6500321aPrA
set_option linter.unusedSimpArgs false
set_option linter.unusedVariables false
set_option maxRecDepth 100000
set_option linter.unusedSectionVars false
namespace Go.Proofs.Qxb6500321a
open Go Go.Vc

/-- A body: its instructions, its labels, and what a plain instruction takes and gives. -/
structure BD where
  n : Nat
  ins : Nat → Ins
  nt : Nat
  tab : Nat → Int
  ef : Ins → Option (Nat × Nat)
/-- A target: a cell's number, the end of block o, the other arm of if o. -/
abbrev Sy := Sum Int (Sum Nat Nat)
@[match_pattern] abbrev Sy.k (x : Int) : Sy := Sum.inl x
@[match_pattern] abbrev Sy.e (o : Nat) : Sy := Sum.inr (Sum.inl o)
@[match_pattern] abbrev Sy.c (o : Nat) : Sy := Sum.inr (Sum.inr o)
theorem Sy.cs {motive : Sy → Prop} (k : ∀ x : Int, motive (.k x)) (e : ∀ o : Nat, motive (.e o)) (c : ∀ o : Nat, motive (.c o)) (s : Sy) : motive s :=
  match s with
  | .inl x => k x
  | .inr (.inl o) => e o
  | .inr (.inr o) => c o
theorem Sy.k.injEq (a b : Int) : (Sy.k a = Sy.k b) = (a = b) := by simp only [Sy.k, Sum.inl.injEq]
theorem Sy.e.injEq (a b : Nat) : (Sy.e a = Sy.e b) = (a = b) := by simp only [Sy.e, Sum.inr.injEq, Sum.inl.injEq]
theorem Sy.c.injEq (a b : Nat) : (Sy.c a = Sy.c b) = (a = b) := by simp only [Sy.c, Sum.inr.injEq]
structure SC where
  op : Int
  s : Sy
  y : Int
/-- An open block: o = 0: the body; o = i + 1: opened at i. -/
structure SF where
  o : Nat
  op : Int
  fl : Nat
  ar : Nat
  st : Nat
  cn : Bool
structure SS where
  A : List SC
  fs : List SF
  h : Nat
  dead : Nat
  en : Nat → Option Nat
  el : Nat → Option Nat
def up1 (f : Nat → Option Nat) (o : Nat) (v : Nat) : Nat → Option Nat := fun j => if j = o then some v else f j
theorem up1_same (f : Nat → Option Nat) (o v : Nat) : up1 f o v o = some v := if_pos rfl
theorem up1_ne (f : Nat → Option Nat) {o j : Nat} (v : Nat) (h : j ≠ o) : up1 f o v j = f j := if_neg h

def arP (x : Ins) : Nat := if x.x = 64 then 0 else 1
def skipP (op : Int) (d : Nat) : Bool × Nat :=
  if d = 0 then (false, 0) else if op = 2 ∨ op = 3 ∨ op = 4 then (true, d + 1) else if op = 5 then (decide (1 < d), d) else if op = 11 then (if d = 1 then (false, 1) else (true, d - 1)) else (true, d)
def openS (i : Nat) (x : Ins) (S : SS) : Option SS :=
  match S.fs with
  | [] => none
  | f :: _ =>
    if S.fs.length = 7 then none
    else if x.op = 4 then
      (if S.h ≤ f.fl then none else some { S with A := S.A ++ [⟨4, .c (i + 1), 0⟩], fs := ⟨i + 1, x.op, S.h - 1, arP x, S.A.length + 1, true⟩ :: S.fs, h := S.h - 1 })
    else some { S with fs := ⟨i + 1, x.op, S.h, arP x, S.A.length, false⟩ :: S.fs }
def turnA (S : SS) (f : SF) : List SC := if S.dead = 0 then S.A ++ [⟨224, .e f.o, 0⟩] else S.A
def turnS (S : SS) : Option SS :=
  match S.fs with
  | [] => none
  | f :: r =>
    if S.dead = 0 ∧ S.h ≠ f.fl + f.ar then none
    else if f.cn = false then none
    else some { A := turnA S f, fs := { f with cn := false } :: r, h := f.fl, dead := 0, en := S.en, el := up1 S.el f.o (turnA S f).length }
def shutS (S : SS) : Option SS :=
  match S.fs with
  | [] => none
  | f :: r =>
    if S.dead = 0 ∧ S.h ≠ f.fl + f.ar then none
    else if 10 < f.fl + f.ar then none
    else some { A := if r.length = 0 then S.A ++ [⟨11, .k 0, 0⟩] else S.A, fs := r, h := f.fl + f.ar, dead := 0, en := up1 S.en f.o S.A.length, el := if f.cn = true then up1 S.el f.o S.A.length else S.el }
def brC (op : Int) (g : SF) : SC := if g.op = 3 then ⟨op, .k g.st, g.fl⟩ else ⟨op, .e g.o, (g.ar : Int) * 4294967296 + g.fl⟩
def brS (x : Ins) (S : SS) : Option SS :=
  match S.fs with
  | [] => none
  | f :: _ =>
    match S.fs[x.x.toNat]? with
    | none => none
    | some g =>
      if S.h < f.fl + (if x.op = 13 then 1 else 0) then none
      else some { S with A := S.A ++ [brC x.op g], h := S.h - (if x.op = 13 then 1 else 0), dead := if x.op = 12 then 1 else S.dead }
def rowsS (fs : List SF) (tab : Nat → Int) : Nat → Nat → Option (List SC)
  | 0, _ => some []
  | n + 1, a => match fs[(tab a).toNat]? with
    | none => none
    | some g => (rowsS fs tab n (a + 1)).map (brC 225 g :: ·)
def tabS (B : BD) (x : Ins) (S : SS) : Option SS :=
  match S.fs with
  | [] => none
  | f :: _ =>
    if S.h ≤ f.fl ∨ x.y < 1 ∨ (B.nt : Int) < x.y ∨ (B.nt : Int) - x.y < x.x then none
    else match rowsS S.fs B.tab x.y.toNat x.x.toNat with
      | none => none
      | some cs => some { S with A := S.A ++ (⟨14, .k x.y, 0⟩ :: cs), h := S.h - 1, dead := 1 }
def retS (S : SS) : SS := { S with A := S.A ++ [⟨15, .k 0, 0⟩], dead := 1 }
def plainS (B : BD) (x : Ins) (S : SS) : Option SS :=
  match S.fs with
  | [] => none
  | f :: _ =>
    match B.ef x with
    | none => none
    | some (t, g) =>
      if S.h < f.fl + t ∨ 10 + t < S.h + g then none
      else some { S with A := S.A ++ [⟨x.op, .k x.x, x.y⟩], h := S.h + g - t, dead := if x.op = 0 then 1 else S.dead }
def liveS (B : BD) (i : Nat) (x : Ins) (S : SS) : Option SS :=
  if x.op = 2 ∨ x.op = 3 ∨ x.op = 4 then openS i x S
  else if x.op = 5 then turnS S
  else if x.op = 11 then (match shutS S with | none => none | some S' => if S'.fs.length = 0 ∧ i + 1 ≠ B.n then none else some S')
  else if x.op = 12 ∨ x.op = 13 then brS x S
  else if x.op = 14 then tabS B x S
  else if x.op = 15 then some (retS S)
  else plainS B x S
def stepS (B : BD) (i : Nat) (S : SS) : Option SS :=
  if (skipP (B.ins i).op S.dead).1 = true then some { S with dead := (skipP (B.ins i).op S.dead).2 } else liveS B i (B.ins i) S
def initS (res : Nat) : SS := ⟨[], [⟨0, 11, 0, res, 0, false⟩], 0, 0, fun _ => none, fun _ => none⟩
/-- From instruction i on: where it first fails, or the end. -/
def goS (B : BD) : Nat → Nat → SS → Sum Nat SS
  | 0, i, S => if S.fs.length = 0 then .inr S else .inl i
  | k + 1, i, S => match stepS B i S with
    | none => .inl i
    | some S' => goS B k (i + 1) S'
theorem goS_succ (B : BD) (k i : Nat) (S : SS) : goS B (k + 1) i S = match stepS B i S with | none => .inl i | some S' => goS B k (i + 1) S' := rfl
def syX (S : SS) : Sy → Int
  | .k x => x
  | .e o => ((S.en o).getD 0 : Nat)
  | .c o => ((S.el o).getD 0 : Nat)
def outC (S : SS) : List Ins := S.A.map fun c => ⟨c.op, syX S c.s, c.y⟩

/-! ### The compiler as it is -/
structure PS where
  cells : List Ins
  k : List CT
  h : Int
  dead : Nat
def topFl : List CT → Nat
  | [] => 0
  | c :: _ => c.fl
def setXs (cells : List Ins) : List Nat → Int → List Ins
  | [], _ => cells
  | m :: r, v => setXs (setX cells m v) r v
theorem setXs_len (v : Int) : ∀ (ms : List Nat) (cells : List Ins), (setXs cells ms v).length = cells.length
  | [], _ => rfl
  | m :: r, cells => by show (setXs (setX cells m v) r v).length = _; rw [setXs_len v r, setX_len]
theorem setXs_get (v : Int) (j : Nat) : ∀ (ms : List Nat) (cells : List Ins), (setXs cells ms v)[j]? = if j ∈ ms then cells[j]?.map (fun i => { i with x := v }) else cells[j]?
  | [], cells => by simp [setXs]
  | m :: r, cells => by
    show (setXs (setX cells m v) r v)[j]? = _
    rw [setXs_get v j r, setX_get]
    by_cases h1 : m = j
    · subst h1
      rw [if_pos rfl, if_pos (show m ∈ m :: r by simp)]
      split
      · cases cells[m]? <;> rfl
      · rfl
    · rw [if_neg h1]
      by_cases h2 : j ∈ r
      · rw [if_pos h2, if_pos (by simp [h2])]
      · rw [if_neg h2, if_neg (by simp [h2]; exact fun e => h1 e.symm)]
def openP (x : Ins) (p : PS) : Bool × PS :=
  if p.k.length = 7 then (false, p)
  else if x.op = 4 then
    (if p.h - 1 < topFl p.k then (false, { p with h := p.h - 1 })
     else (true, { p with cells := p.cells ++ [⟨4, 0, 0⟩], k := ⟨x.op, (p.h - 1).toNat, arP x, p.cells.length + 1, 0, p.cells.length, 0⟩ :: p.k, h := p.h - 1 }))
  else (true, { p with k := ⟨x.op, p.h.toNat, arP x, p.cells.length, 0, 0, 0⟩ :: p.k })
def turnC (p : PS) : List Ins := if p.dead = 0 then p.cells ++ [⟨224, 0, 0⟩] else p.cells
def turnP (p : PS) : Bool × PS :=
  match p.k with
  | [] => (false, p)
  | c :: r =>
    if p.dead = 0 ∧ p.h ≠ ((c.fl + c.ar : Nat) : Int) then (false, p)
    else if c.cn = 0 then (false, p)
    else (true, { cells := setX (turnC p) c.cn (((turnC p).length - 1 : Nat) : Int), k := { c with cn := 0, jm := if p.dead = 0 then p.cells.length else c.jm } :: r, h := c.fl, dead := 0 })
def shutC (ms : List Nat) (c : CT) (cells : List Ins) : List Ins :=
  let v : Int := ((cells.length - 1 : Nat) : Int)
  let c1 := setXs cells ms v
  let c2 := if c.cn = 0 then c1 else setX c1 c.cn v
  if c.jm = 0 then c2 else setX c2 c.jm v
def shutP (ms : List Nat) (p : PS) : Bool × PS :=
  match p.k with
  | [] => (false, p)
  | c :: r =>
    if p.dead = 0 ∧ p.h ≠ ((c.fl + c.ar : Nat) : Int) then (false, p)
    else if 10 < c.fl + c.ar then (false, p)
    else (true, { cells := if r.length = 0 then shutC ms c p.cells ++ [⟨11, 0, 0⟩] else shutC ms c p.cells, k := r, h := ((c.fl + c.ar : Nat) : Int), dead := 0 })
def branchP (op : Int) (l : Nat) (p : PS) : PS :=
  match p.k[l]? with
  | none => p
  | some g => if g.op = 3 then { p with cells := p.cells ++ [⟨op, ((g.st - 1 : Nat) : Int), g.fl⟩] }
    else { p with cells := p.cells ++ [⟨op, g.pt, (g.ar : Int) * 4294967296 + g.fl⟩], k := p.k.set l { g with pt := p.cells.length } }
def cbrP (x : Ins) (p : PS) : Bool × PS :=
  let p1 : PS := { p with h := p.h - (if x.op = 13 then 1 else 0) }
  if (p.k.length : Int) ≤ x.x ∨ p1.h < topFl p.k then (false, p1)
  else (true, { branchP x.op x.x.toNat p1 with dead := if x.op = 12 then 1 else p.dead })
def crowsP (tab : Nat → Int) : Nat → Nat → PS → Bool × PS
  | 0, _, p => (true, { p with dead := 1 })
  | n + 1, a, p => if (p.k.length : Int) ≤ tab a then (false, p) else crowsP tab n (a + 1) (branchP 225 (tab a).toNat p)
theorem crowsP_succ (tab : Nat → Int) (n a : Nat) (p : PS) : crowsP tab (n + 1) a p = if (p.k.length : Int) ≤ tab a then (false, p) else crowsP tab n (a + 1) (branchP 225 (tab a).toNat p) := rfl
def ctabP (nt : Nat) (tab : Nat → Int) (x : Ins) (p : PS) : Bool × PS :=
  let p1 : PS := { p with h := p.h - 1 }
  if p1.h < topFl p.k ∨ x.y < 1 ∨ (nt : Int) < x.y ∨ (nt : Int) - x.y < x.x then (false, p1)
  else crowsP tab x.y.toNat x.x.toNat { p1 with cells := p.cells ++ [⟨14, x.y, 0⟩] }
def plainP (ef : Ins → Option (Nat × Nat)) (x : Ins) (p : PS) : Bool × PS :=
  match ef x with
  | none => (false, p)
  | some (t, g) =>
    if p.h - t < topFl p.k ∨ 10 < p.h - t + g then (false, p)
    else (true, { p with cells := p.cells ++ [x], h := p.h - t + g, dead := if x.op = 0 then 1 else p.dead })

/-- A chain through the cells' own targets, down to the sentinel. -/
def Chn (cells : List Ins) : Nat → List Nat → Prop
  | a, [] => a = 0
  | a, m :: r => a = m ∧ 0 < m ∧ ∃ i, cells[m]? = some i ∧ i.op ≠ 0 ∧ ∃ b : Nat, i.x = (b : Int) ∧ b < m ∧ Chn cells b r
theorem Chn.low {cells : List Ins} : ∀ {ms : List Nat} {a b : Nat}, Chn cells a ms → a < b → ∀ m, m ∈ ms → m < b
  | [], a, b, h, hb, m, hm => by cases hm
  | m0 :: r, a, b, ⟨e, _, i, h1, h2, c, h3, h4, h5⟩, hb, m, hm => by
    rcases List.mem_cons.1 hm with rfl | hm
    · omega
    · exact Chn.low h5 (by omega) m hm
theorem Chn.pos {cells : List Ins} : ∀ {ms : List Nat} {a : Nat}, Chn cells a ms → ∀ m, m ∈ ms → 0 < m ∧ m < cells.length
  | [], a, h, m, hm => by cases hm
  | m0 :: r, a, ⟨e, h0, i, h1, h2, c, h3, h4, h5⟩, m, hm => by
    rcases List.mem_cons.1 hm with rfl | hm
    · exact ⟨h0, (List.getElem?_eq_some_iff.1 h1).1⟩
    · exact Chn.pos h5 m hm
theorem Chn.ext {cells cells' : List Ins} : ∀ {ms : List Nat} {a : Nat}, Chn cells a ms → (∀ m, m ∈ ms → ∀ i, cells[m]? = some i → cells'[m]? = some i) → Chn cells' a ms
  | [], a, h, _ => h
  | m0 :: r, a, ⟨e, h0, i, h1, h2, c, h3, h4, h5⟩, hx => ⟨e, h0, i, hx m0 (by simp) i h1, h2, c, h3, h4, Chn.ext h5 (fun m hm => hx m (by simp [hm]))⟩
end Go.Proofs.Qxb6500321a
