/- Plain law: what the program computes, in plain lists of bytes: sums of blocks, P and Q, healing, which part is wrong, where blocks stand, and an array of disks as a state with its moves. No condition. -/
import Derived.Test.YtmgppnceddnlmaaGf
namespace Go.Proofs.Ytmgppnceddnlmaa

abbrev Blk := List UInt8

/-- Byte 'at' of the sum of blocks, each so many times. -/
def dot : List Blk → List UInt8 → Nat → UInt8
  | b :: l, t :: ts, i => gm t (b.getD i 0) ^^^ dot l ts i
  | _, _, _ => 0
def bsize (l : List Blk) : Nat := (l.headD []).length
/-- Sum of blocks of one length, each so many times. -/
def bsum (l : List Blk) (t : List UInt8) : Blk := (List.range (bsize l)).map (dot l t)
def ones (n : Nat) : List UInt8 := List.replicate n 1
def pows (n : Nat) : List UInt8 := (List.range n).map (gp 2)
def pOf (l : List Blk) : Blk := bsum l (ones l.length)
def qOf (l : List Blk) : Blk := bsum l (pows l.length)
def bplus (a b : Blk) : Blk := bsum [a, b] [1, 1]
def btimes (a : Blk) (c : UInt8) : Blk := bsum [a] [c]
def zeros (n : Nat) : Blk := List.replicate n 0

/-- The fault of blocks: 3: not of one length; 1: too long; 0: none. -/
def blocksE (l : List Blk) : Nat :=
  if l.any (fun b => b.length != bsize l) then 3 else if 16 < bsize l then 1 else 0

def lastLen : List Blk → List Bool → Nat → Nat
  | b :: l, x :: xs, n => lastLen l xs (if x then n else b.length)
  | _, _, n => n
def cleaned : List Blk → List Bool → Nat → List Blk
  | b :: l, x :: xs, n => (if x then zeros n else b) :: cleaned l xs n
  | l, _, _ => l
def goneOf (k : Nat) (lost : List Bool) : List Nat := (List.range k).filter fun i => lost.getD i false

/-- Data with what is lost made anew. -/
def healedS (data : List Blk) (gone : List Nat) (p q : Blk) (lp lq : Bool) : List Blk :=
  let dp := bplus (pOf data) p
  let dq := bplus (qOf data) q
  match gone with
  | [i, k] =>
    let x := btimes (bplus (btimes dp (gp 2 k)) dq) (gi (gp 2 i ^^^ gp 2 k))
    (data.set i x).set k (bplus dp x)
  | [i] => if lp = false then data.set i dp else if lq = false then data.set i (btimes dq (gi (gp 2 i))) else data
  | _ => data

def healS (parts : List Blk) (lost : List Bool) : List Blk :=
  let k := parts.length - 2
  let out := cleaned parts lost (lastLen parts lost 0)
  let data := healedS (out.take k) (goneOf k lost) (out.getD k []) (out.getD (k + 1) []) (lost.getD k false) (lost.getD (k + 1) false)
  data ++ [pOf data, qOf data]

def haveOf : List Blk → List Bool → List Blk
  | b :: l, x :: xs => if x then haveOf l xs else b :: haveOf l xs
  | _, _ => []

/-- Heal: the parts, and the fault. -/
def healE (parts : List Blk) (lost : List Bool) : List Blk × Nat :=
  if parts.length < 3 ∨ 12 < parts.length then ([], 1)
  else if lost.length ≠ parts.length then ([], 3)
  else if (haveOf parts lost).length + 2 < parts.length then ([], 8)
  else if blocksE (haveOf parts lost) ≠ 0 then ([], blocksE (haveOf parts lost))
  else (healS parts lost, 0)

/-- Are all parts but the i-th alike? -/
def sameBut (i : Nat) : Nat → List Blk → List Blk → Bool
  | j, a :: l, b :: m => (j == i || a == b) && sameBut i (j + 1) l m
  | _, _, _ => true
def lostAt (n i : Nat) : List Bool := (List.replicate n false).set i true
/-- The first part from i on such that with another block there all is right. -/
def locateFrom (parts : List Blk) : Nat → Nat → Option Nat
  | 0, _ => none
  | f + 1, i => if sameBut i 0 (healS parts (lostAt parts.length i)) parts then some i else locateFrom parts f (i + 1)
/-- Locate, of parts that are blocks: the place (-1: none), and the fault. -/
def locateS (parts : List Blk) : Int × Nat :=
  let k := parts.length - 2
  if pOf (parts.take k) = parts.getD k [] ∧ qOf (parts.take k) = parts.getD (k + 1) [] then (-1, 0)
  else match locateFrom parts parts.length 0 with
    | some i => ((i : Int), 0)
    | none => (0, 8)
def locateE (parts : List Blk) : Int × Nat :=
  if parts.length < 3 ∨ 12 < parts.length then (0, 1)
  else if blocksE parts ≠ 0 then (0, blocksE parts)
  else locateS parts

/-! ### Where blocks stand -/
def lay (n row i : Nat) : Nat := (n - 1 - row % n + 2 + i) % n
def order (n row : Nat) : List Nat := (List.range n).map (lay n row)

/-! ### All disks together -/
structure St where
  n : Nat
  rows : Nat
  size : Nat
  cell : Nat → Nat → Blk
  failed : Nat → Bool
  built : Nat → Nat

def St.new (n rows size : Nat) : St := { n, rows, size, cell := fun _ _ => zeros size, failed := fun _ => false, built := fun _ => rows }
def St.lost (s : St) (d row : Nat) : Bool := s.failed d || decide (s.built d ≤ row)
def St.part (s : St) (row d : Nat) : Blk := if s.lost d row then [] else s.cell d row
def St.parts (s : St) (row : Nat) : List Blk := (order s.n row).map (s.part row)
def St.losts (s : St) (row : Nat) : List Bool := (order s.n row).map fun d => s.lost d row
def St.lostN (s : St) (row : Nat) : Nat := ((List.range s.n).filter fun d => s.lost d row).length
def St.setCell (s : St) (d row : Nat) (b : Blk) : St := { s with cell := fun d' r' => if d' = d ∧ r' = row then b else s.cell d' r' }
def St.setFailed (s : St) (d : Nat) (x : Bool) : St := { s with failed := fun d' => if d' = d then x else s.failed d' }
def St.setBuilt (s : St) (d : Nat) (k : Nat) : St := { s with built := fun d' => if d' = d then k else s.built d' }

/-- A row is written, the first j of its parts: what is not lost has it. -/
def St.putTo (s : St) (row : Nat) (l : List Blk) : Nat → St
  | 0 => s
  | j + 1 => if s.lost (lay s.n row j) row then s.putTo row l j else (s.putTo row l j).setCell (lay s.n row j) row (l.getD j [])
def St.putRow (s : St) (row : Nat) (l : List Blk) : St := s.putTo row l s.n
/-- A disk has its part of a row, if it is among the first j. -/
def St.bldTo (s : St) (d row : Nat) (l : List Blk) : Nat → St
  | 0 => s
  | j + 1 => if lay s.n row j = d then (s.bldTo d row l j).setCell d row (l.getD j []) else s.bldTo d row l j

def St.read (s : St) (block : Int) : Blk × Nat :=
  if block < 0 ∨ (s.rows * (s.n - 2) : Nat) ≤ block then ([], 1)
  else
    let b := block.toNat
    let row := b / (s.n - 2)
    let i := b % (s.n - 2)
    if s.lost (lay s.n row i) row = false then (s.cell (lay s.n row i) row, 0)
    else if (healE (s.parts row) (s.losts row)).2 ≠ 0 then ([], (healE (s.parts row) (s.losts row)).2)
    else ((healE (s.parts row) (s.losts row)).1.getD i [], 0)

/-- The row of a block with the block there. -/
def rowWith (l : List Blk) (i : Nat) (b : Blk) : List Blk :=
  let data := (l.set i b).take (l.length - 2)
  data ++ [pOf data, qOf data]

def St.write (s : St) (block : Int) (b : Blk) : St × Nat :=
  if block < 0 ∨ (s.rows * (s.n - 2) : Nat) ≤ block then (s, 1)
  else if b.length ≠ s.size then (s, 3)
  else
    let k := block.toNat
    let row := k / (s.n - 2)
    let r := healE (s.parts row) (s.losts row)
    if r.2 ≠ 0 then (s, r.2)
    else (s.putRow row (rowWith r.1 (k % (s.n - 2)) b), 0)

def St.fail (s : St) (d : Int) : St × Nat :=
  if d < 0 ∨ (s.n : Int) ≤ d then (s, 1)
  else if s.failed d.toNat then (s, 6)
  else (s.setFailed d.toNat true, 0)

def St.replace (s : St) (d : Int) : St × Nat :=
  if d < 0 ∨ (s.n : Int) ≤ d then (s, 1)
  else if s.failed d.toNat = false then (s, 6)
  else ((s.setFailed d.toNat false).setBuilt d.toNat 0, 0)

def St.rebuild (s : St) (d : Int) : St × Nat × Nat :=
  if d < 0 ∨ (s.n : Int) ≤ d then (s, 0, 1)
  else if s.failed d.toNat = true ∨ s.built d.toNat = s.rows then (s, 0, 6)
  else
    let row := s.built d.toNat
    let r := healE (s.parts row) (s.losts row)
    if r.2 ≠ 0 then (s, 0, r.2)
    else ((s.bldTo d.toNat row r.1 s.n).setBuilt d.toNat (row + 1), s.rows - (row + 1), 0)

def St.poke (s : St) (d row : Int) (b : Blk) : St × Nat :=
  if d < 0 ∨ (s.n : Int) ≤ d ∨ row < 0 ∨ (s.rows : Int) ≤ row then (s, 1)
  else if b.length ≠ s.size then (s, 3)
  else if s.lost d.toNat row.toNat then (s, 6)
  else (s.setCell d.toNat row.toNat b, 0)

/-- A row is scrubbed: which disk was wrong (-1: none), and the fault. -/
def St.scrub (s : St) (row : Nat) : St × Int × Nat :=
  if s.losts row |>.any id then (s, 0, 6)
  else
    let r := locateE (s.parts row)
    if r.2 ≠ 0 then (s, 0, r.2)
    else if r.1 < 0 then (s, -1, 0)
    else
      let i := r.1.toNat
      let h := healE (s.parts row) (lostAt s.n i)
      if h.2 ≠ 0 then (s, 0, h.2)
      else (s.setCell (lay s.n row i) row (h.1.getD i []), (lay s.n row i : Int), 0)

end Go.Proofs.Ytmgppnceddnlmaa
