/- The plain model of package heap: a memory as lists and numbers, and what each function of the package does to it ('none': Go would panic there, or a loop's fuel is used up). No program in sight. -/
namespace Go.Proofs.Hp

/-- A space: its words, the number of its first word, how many are taken, and at which words objects begin. -/
structure Sp where
  words : List Int
  frm : Nat
  used : Nat
  starts : List Bool

namespace Sp
def top (s : Sp) : Int := (s.frm : Int) + (s.used : Int)
def has (s : Sp) (a : Int) : Bool := decide ((s.frm : Int) ≤ a) && decide (a < (s.frm : Int) + (s.used : Int))
def idx (s : Sp) (a : Int) : Nat := a.toNat - s.frm
def begins (s : Sp) (a : Int) : Bool := s.has a && s.starts.getD (s.idx a) false
def ok (s : Sp) (a : Int) : Bool := decide ((s.frm : Int) ≤ a) && decide (a < (s.frm : Int) + (s.words.length : Int))
def get (s : Sp) (a : Int) : Int := s.words.getD (s.idx a) 0
def put (s : Sp) (a v : Int) : Sp := { s with words := s.words.set (s.idx a) v }
def room (s : Sp) : Int := (s.words.length : Int) - (s.used : Int)
/-- 'take' and 'lay': n words, all 0 but the first one, which is the shape. -/
def taken (s : Sp) (n : Nat) : Sp := { s with words := s.words.take s.used ++ List.replicate n 0 ++ s.words.drop (s.used + n), used := s.used + n }
def lay (s : Sp) (n : Nat) (shape : Int) : Sp :=
  { s with words := (s.words.take s.used ++ List.replicate n 0 ++ s.words.drop (s.used + n)).set s.used shape, used := s.used + n, starts := s.starts.set s.used true }
def empty (s : Sp) : Sp := { s with used := 0, starts := List.replicate s.starts.length false }
def fresh (frm n : Nat) : Sp := { words := List.replicate n 0, frm := frm, used := 0, starts := List.replicate n false }
/-- What 'copy' puts behind a word: as many words as there are. -/
def paste (s : Sp) (i : Nat) (xs : List Int) : Sp := { s with words := s.words.take i ++ xs ++ s.words.drop (i + xs.length) }
end Sp

/-- Which space. -/
inductive Wh where
  | y | n | o

structure Mem where
  shapes : List (List Bool)
  young : Sp
  now : Sp
  other : Sp
  known : List (Int × Int)
  busy : Bool
  scan : Int
  moved : List (Int × Int)
  left : Int

namespace Mem
def sp (m : Mem) : Wh → Sp
  | .y => m.young
  | .n => m.now
  | .o => m.other
def setSp (m : Mem) (s : Sp) : Wh → Mem
  | .y => { m with young := s }
  | .n => { m with now := s }
  | .o => { m with other := s }

/-- The shape of a number; 'none' where there is none. -/
def shapeAt (m : Mem) (v : Int) : Option (List Bool) := if 0 ≤ v then m.shapes[v.toNat]? else none
def fieldsAt (m : Mem) (s : Sp) (a : Int) : Option (List Bool) := if s.ok a then m.shapeAt (s.get a) else none
def size (m : Mem) (s : Sp) (a : Int) : Option Nat := (m.fieldsAt s a).map fun l => l.length + 1
def cur (m : Mem) (a : Int) : Option Wh := if m.young.begins a then some .y else if m.now.begins a then some .n else none

def look (m : Mem) (a : Int) : Option Int := m.moved.lookup a

/-- What is emptied. -/
def src (y : Bool) : Wh := if y then .y else .o

/-- An object of n words is moved. -/
def move (m : Mem) (y : Bool) (a : Int) (n : Nat) : Mem :=
  { m with
    now := (m.now.lay n ((m.sp (src y)).get a)).paste m.now.used (((m.sp (src y)).words.drop ((m.sp (src y)).idx a)).take n)
    moved := m.moved ++ [(a, m.now.top)]
    left := if y then m.left else m.left - (n : Int) }

/-- What a word that refers becomes ('y': the young space is emptied, else the former half). -/
def forward (m : Mem) (y : Bool) (a : Int) : Option (Mem × Int) :=
  if (m.sp (src y)).begins a then
    match m.look a with
    | some to => some (m, to)
    | none =>
      match m.size (m.sp (src y)) a with
      | none => none
      | some n =>
        if m.now.used + n ≤ m.now.words.length ∧ (y = true ∨ (n : Int) ≤ m.left) ∧ (m.sp (src y)).idx a + n ≤ (m.sp (src y)).words.length then
          some (m.move y a n, m.now.top)
        else none
  else some (m, a)

/-- 'forward' at a taken word of a space. -/
def fwdIn (m : Mem) (y : Bool) (wh : Wh) (a : Int) : Option Mem :=
  if (m.sp wh).has a then
    match m.forward y ((m.sp wh).get a) with
    | some (m', to) => some (m'.setSp ((m'.sp wh).put a to) wh)
    | none => none
  else none

def fwdAll (y : Bool) : Mem → List Int → Option (List Int × Mem)
  | m, [] => some ([], m)
  | m, r :: rs =>
    match m.forward y r with
    | none => none
    | some (m1, r1) =>
      match fwdAll y m1 rs with
      | none => none
      | some (rs1, m2) => some (r1 :: rs1, m2)

def fwdKnown : Mem → List (Int × Int) → Option Mem
  | m, [] => some m
  | m, k :: ks =>
    match m.fwdIn true .n (k.1 + 1 + k.2) with
    | none => none
    | some m1 => fwdKnown m1 ks

def scanFields (m : Mem) (a : Int) : List Bool → Int → Option Mem
  | [], _ => some m
  | b :: bs, i =>
    if b then
      match m.fwdIn true .n (a + 1 + i) with
      | none => none
      | some m1 => scanFields m1 a bs (i + 1)
    else scanFields m a bs (i + 1)

def scanAll : Nat → Mem → Int → Option Mem
  | 0, _, _ => none
  | k + 1, m, a =>
    if a < m.now.top then
      match m.fieldsAt m.now a with
      | none => none
      | some l =>
        match scanFields m a l 0 with
        | none => none
        | some m1 =>
          match m1.size m1.now a with
          | none => none
          | some n => scanAll k m1 (a + (n : Int))
    else some m

def minor (m : Mem) (roots : List Int) : Option (List Int × Mem) :=
  match fwdAll true { m with moved := [] } roots with
  | none => none
  | some (out, m1) =>
    match fwdKnown m1 m1.known with
    | none => none
    | some m2 =>
      match scanAll (m.now.words.length + 1) m2 m.now.top with
      | none => none
      | some m3 => some (out, { m3 with moved := m.moved, young := m3.young.empty, known := [] })

/-- The first error of roots (of a memory that New made). -/
def rooted (m : Mem) (roots : List Int) : Int :=
  if roots.length > 200 then 3 else if roots.any (fun r => r != 0 && (m.cur r).isNone) then 5 else 0

def meetY (m : Mem) (l : List Int) (a : Int) : List Int := if m.young.begins a && !l.contains a then l ++ [a] else l

/-- The values of the fields that refer. -/
def refVals (s : Sp) (a : Int) : List Bool → Int → Option (List Int)
  | [], _ => some []
  | b :: bs, i =>
    if b then
      if s.ok (a + 1 + i) then (refVals s a bs (i + 1)).map fun l => s.get (a + 1 + i) :: l else none
    else refVals s a bs (i + 1)

def knownVals (s : Sp) : List (Int × Int) → Option (List Int)
  | [] => some []
  | k :: ks => if s.ok (k.1 + 1 + k.2) then (knownVals s ks).map fun l => s.get (k.1 + 1 + k.2) :: l else none

def neededLoop (m : Mem) : Nat → Nat → Int → List Int → Option Int
  | 0, _, _, _ => none
  | k + 1, i, n, l =>
    match l[i]? with
    | none => some n
    | some a =>
      match m.fieldsAt m.young a with
      | none => none
      | some sh =>
        match refVals m.young a sh 0 with
        | none => none
        | some vs => neededLoop m k (i + 1) (n + ((sh.length + 1 : Nat) : Int)) (vs.foldl m.meetY l)

def needed (m : Mem) (roots : List Int) : Option Int :=
  match knownVals m.now m.known with
  | none => none
  | some vs => neededLoop m (m.young.words.length + 1) 0 0 (vs.foldl m.meetY (roots.foldl m.meetY []))

/-- A result: a value and an error. -/
def minorE (m : Mem) (roots : List Int) : Option (Mem × List Int × Int) :=
  if m.rooted roots ≠ 0 then some (m, [], m.rooted roots)
  else
    match m.needed roots with
    | none => none
    | some n => if n > m.now.room - m.left then some (m, [], 14) else (m.minor roots).map fun r => (r.2, r.1, 0)

def flipE (m : Mem) (roots : List Int) : Option (Mem × List Int × Int) :=
  if m.busy then some (m, [], 12)
  else
    match m.minorE roots with
    | none => none
    | some (m1, out, e) =>
      if e ≠ 0 then some (m1, [], e)
      else (fwdAll false { m1 with now := m1.other, other := m1.now, busy := true, scan := (m1.other.frm : Int), left := (m1.now.used : Int), moved := [] } out).map fun r => (r.2, r.1, 0)

def objAt (starts : List Bool) : Nat → Option Nat
  | 0 => if starts.getD 0 false then some 0 else none
  | i + 1 => if starts.getD (i + 1) false then some (i + 1) else objAt starts i

def stepLoop : Nat → Mem → Option Mem
  | 0, m => some m
  | k + 1, m =>
    if m.scan = m.now.top then some m
    else if m.now.ok m.scan then
      match objAt m.now.starts (m.now.idx m.scan) with
      | none => none
      | some o =>
        match (if m.now.idx m.scan = o then some m else
          match m.shapeAt (m.now.words.getD o 0) with
          | none => none
          | some l => match l[m.now.idx m.scan - o - 1]? with
            | none => none
            | some true => m.fwdIn false .n m.scan
            | some false => some m) with
        | none => none
        | some m1 => stepLoop k { m1 with scan := m1.scan + 1 }
    else none

def stepE (m : Mem) (words : Int) : Option (Mem × Int × Int) :=
  if words < 0 then some (m, 0, 1)
  else if !m.busy then some (m, 0, 0)
  else
    match stepLoop words.toNat m with
    | none => none
    | some m1 =>
      if m1.now.top - m1.scan = 0 then some ({ m1 with busy := false, left := 0, moved := [], other := m1.other.empty }, 0, 0)
      else some (m1, m1.now.top - m1.scan, 0)

def allocE (m : Mem) (shape : Int) : Mem × Int × Int :=
  match m.shapeAt shape with
  | none => (m, 0, 1)
  | some l =>
    if m.young.room < ((l.length + 1 : Nat) : Int) then (m, 0, 14)
    else ({ m with young := m.young.lay (l.length + 1) shape }, m.young.top, 0)

def shapeE (m : Mem) (a : Int) : Int × Int :=
  match m.cur a with
  | none => (0, 5)
  | some wh => ((m.sp wh).get a, 0)

/-- The place of a field: the space, and whether it refers; or an error. 'none': a panic. -/
def fieldE (m : Mem) (a f : Int) : Option (Int ⊕ (Wh × Bool)) :=
  match m.cur a with
  | none => some (.inl 5)
  | some wh =>
    match m.shapeAt ((m.sp wh).get a) with
    | none => none
    | some l =>
      if 0 ≤ f then
        match l[f.toNat]? with
        | none => some (.inl 1)
        | some r => if (m.sp wh).ok (a + 1 + f) then some (.inr (wh, r)) else none
      else some (.inl 1)

def getE (m : Mem) (a f : Int) : Option (Mem × Int × Int) :=
  match m.fieldE a f with
  | none => none
  | some (.inl e) => some (m, 0, e)
  | some (.inr (wh, r)) =>
    match (if r && m.busy then m.fwdIn false wh (a + 1 + f) else some m) with
    | none => none
    | some m1 => some (m1, (m1.sp wh).get (a + 1 + f), 0)

def setE (m : Mem) (a f v : Int) : Option (Mem × Int) :=
  match m.fieldE a f with
  | none => none
  | some (.inl e) => some (m, e)
  | some (.inr (wh, r)) =>
    if r && (v != 0 && (m.cur v).isNone) then some (m, 5)
    else
      let m1 := m.setSp ((m.sp wh).put (a + 1 + f) v) wh
      if r && (m1.now.begins a && (m1.young.begins v && !m1.known.contains (a, f))) then (if m1.known.length < 1048576 then some ({ m1 with known := m1.known ++ [(a, f)] }, 0) else none)
      else some (m1, 0)

/-- The error of sizes and New. -/
def sizedE (shapes : List (List Bool)) : Int := if shapes.length > 60 then 3 else if shapes.any (fun s => s.length > 60) then 3 else 0
def newE (shapes : List (List Bool)) (half young : Int) : Int :=
  if sizedE shapes ≠ 0 then 3 else if half > 4096 then 3 else if young > 1024 then 3 else if half < 1 then 1 else if young < 1 then 1 else 0
def newM (shapes : List (List Bool)) (half young : Nat) : Mem :=
  { shapes := shapes, young := Sp.fresh 1 young, now := Sp.fresh (1 + young) half, other := Sp.fresh (1 + young + half) half, known := [], busy := false, scan := 0, moved := [], left := 0 }

/-- 'Check': the fields of an object in order; 's' is 'now' or 'young'. -/
def fineField (m : Mem) (isNow : Bool) (s : Sp) (a i : Int) : Bool :=
  let v := s.get (a + 1 + i)
  !(v != 0 && (m.cur v).isNone && !(m.busy && m.other.begins v && isNow && decide (a + 1 + i ≥ m.scan))) && !(isNow && (m.young.begins v && !m.known.contains (a, i)))

def fineFrom (m : Mem) (isNow : Bool) (s : Sp) (a : Int) : List Bool → Int → Option Bool
  | [], _ => some true
  | b :: bs, i =>
    if b then
      if s.ok (a + 1 + i) then (if m.fineField isNow s a i then fineFrom m isNow s a bs (i + 1) else some false) else none
    else fineFrom m isNow s a bs (i + 1)

def orderedFrom (m : Mem) (isNow : Bool) (s : Sp) : Nat → Int → Option Bool
  | 0, _ => none
  | k + 1, a =>
    if a < s.top then
      if s.begins a then
        match m.fieldsAt s a with
        | none => none
        | some l =>
          match fineFrom m isNow s a l 0 with
          | none => none
          | some false => some false
          | some true =>
            if s.idx a + l.length + 1 ≤ s.starts.length then
              if ((s.starts.drop (s.idx a + 1)).take l.length).contains true then some false
              else orderedFrom m isNow s k (a + ((l.length + 1 : Nat) : Int))
            else none
      else some false
    else some (decide (a = s.top))

def checkE (m : Mem) : Option Int :=
  match orderedFrom m false m.young (m.young.words.length + 1) m.young.frm with
  | none => none
  | some false => some 11
  | some true =>
    match orderedFrom m true m.now (m.now.words.length + 1) m.now.frm with
    | none => none
    | some false => some 11
    | some true => some 0
end Mem
end Go.Proofs.Hp
