/- The table of chunks as a list: what each operation of the chapter computes. Plain Lean: no program, no memory. -/
namespace Go.Proofs.Ytknkifanpppglaa

structure U3 where
  row : Int
  group : Int
  unit : Int
  deriving DecidableEq

structure Ck where
  id : Int
  dig : List Int
  print : Int
  pos : U3
  lost : Bool
  refs : List (Int × Int)
  deriving DecidableEq

structure Opn where
  kind : Int
  id : Int
  tenant : Int
  n : Int
  pos : U3
  d : Int
  print : Int

def zeroU : U3 := ⟨0, 0, 0⟩
def U3.ok (u : U3) : Bool := decide (0 ≤ u.row) && decide (u.row < 4096) && (decide (0 ≤ u.group) && decide (u.group < 64)) && (decide (0 ≤ u.unit) && decide (u.unit < 32))
def tenB (t : Int) : Bool := decide (0 ≤ t) && decide (t < 16)
def most : Int := 2147483647

def idxOf (l : List Ck) (id : Int) : Option Nat := l.findIdx? (fun c => c.id == id)
def getC (l : List Ck) (id : Int) : Option Ck := l.find? (fun c => c.id == id)
def atU (l : List Ck) (u : U3) : Option Int := (l.find? (fun c => !c.lost && c.pos == u)).map (·.id)
def liveL (l : List Ck) (row group : Int) : List Int := (List.range 32).filterMap (fun (n : Nat) => atU l ⟨row, group, (n : Int)⟩)
def lostL (l : List Ck) (d : List Int) : List Int := (l.filter (fun c => c.lost && c.dig == d)).map (·.id)
def heldL (r : List (Int × Int)) (t : Int) : Int := ((r.find? (fun x => x.1 == t)).map (·.2)).getD 0
def totalL (r : List (Int × Int)) : Int := (r.map (·.2)).sum
def withL (r : List (Int × Int)) (t n : Int) : List (Int × Int) :=
  r.filter (fun x => decide (x.1 < t)) ++ ((if n > 0 then [(t, n)] else []) ++ r.filter (fun x => decide (t < x.1)))
def countL (l : List Ck) (t : Int) : Int := (l.map (fun c => heldL c.refs t)).sum

/-- the first place k whose Id is not k + 1 -/
def slotFrom : List Ck → Nat → Nat
  | [], k => k
  | c :: r, k => if c.id = (k : Int) + 1 then slotFrom r (k + 1) else k
def slot (l : List Ck) : Nat := slotFrom l 0

def addL (l : List Ck) (d : List Int) (p : Int) (u : U3) (t : Int) : List Ck × Int × Int :=
  if !u.ok || !tenB t then (l, 0, 1) else
  if (atU l u).isSome then (l, 0, 20) else
  if 65536 ≤ l.length then (l, 0, 2) else
  (l.take (slot l) ++ (⟨(slot l : Int) + 1, d, p, u, false, [(t, 1)]⟩ :: l.drop (slot l)), (slot l : Int) + 1, 0)

def argsBad (t n : Int) : Bool := !tenB t || decide (n < 1) || decide (most < n)
def setAt (l : List Ck) (k : Nat) (f : Ck → Ck) : List Ck := l.modify k f

def referL (l : List Ck) (id t n : Int) : List Ck × Int :=
  match idxOf l id with
  | none => (l, 12)
  | some k =>
    if argsBad t n then (l, 1) else
    match l[k]? with
    | none => (l, 12)
    | some c => if totalL c.refs + n > most then (l, 2) else (l.set k { c with refs := withL c.refs t (heldL c.refs t + n) }, 0)

def unreferL (l : List Ck) (id t n : Int) : List Ck × Bool × Int :=
  match idxOf l id with
  | none => (l, false, 12)
  | some k =>
    if argsBad t n then (l, false, 1) else
    match l[k]? with
    | none => (l, false, 12)
    | some c =>
      if heldL c.refs t - n < 0 then (l, false, 12) else
      if withL c.refs t (heldL c.refs t - n) ≠ [] then (l.set k { c with refs := withL c.refs t (heldL c.refs t - n) }, false, 0) else
      (l.eraseIdx k, true, 0)

def moveL (l : List Ck) (id : Int) (u : U3) : List Ck × Int :=
  match idxOf l id with
  | none => (l, 12)
  | some k =>
    if !u.ok then (l, 1) else
    if ((atU l u).map (fun o => decide (o ≠ id))).getD false then (l, 20) else
    match l[k]? with
    | none => (l, 12)
    | some c => (l.set k { c with pos := u, lost := false }, 0)

def loseL (l : List Ck) (id : Int) : List Ck × Int :=
  match idxOf l id with
  | none => (l, 12)
  | some k =>
    match l[k]? with
    | none => (l, 12)
    | some c => (l.set k { c with pos := zeroU, lost := true }, 0)

def digOf (d : Int) : List Int := List.replicate 16 d

def opL (l : List Ck) (o : Opn) : List Ck × Int × Int :=
  if o.kind = 1 then addL l (digOf o.d) o.print o.pos o.tenant else
  if o.kind = 2 then ((referL l o.id o.tenant o.n).1, 0, (referL l o.id o.tenant o.n).2) else
  if o.kind = 3 then ((unreferL l o.id o.tenant o.n).1, (if (unreferL l o.id o.tenant o.n).2.1 then 1 else 0), (unreferL l o.id o.tenant o.n).2.2) else
  if o.kind = 4 then ((moveL l o.id o.pos).1, 0, (moveL l o.id o.pos).2) else
  if o.kind = 5 then ((loseL l o.id).1, 0, (loseL l o.id).2) else
  (l, 0, 0)

/-- The table's invariant: Ids rise from 1; references rise by tenant; units are valid and no two chunks have one. -/
structure CkOk (c : Ck) : Prop where
  id1 : 1 ≤ c.id
  id2 : c.id ≤ 65536
  dig : c.dig.length = 16
  refs : c.refs.Pairwise (fun x y => x.1 < y.1)
  refsNe : c.refs ≠ []
  ref1 : ∀ x ∈ c.refs, 0 ≤ x.1 ∧ x.1 < 16 ∧ 1 ≤ x.2
  tot : totalL c.refs ≤ most
  pos : c.lost = false → c.pos.ok = true
  gone : c.lost = true → c.pos = zeroU

structure Inv (l : List Ck) : Prop where
  ids : l.Pairwise (fun a b => a.id < b.id)
  each : ∀ c ∈ l, CkOk c
  uniq : l.Pairwise (fun a b => a.lost = false → b.lost = false → a.pos ≠ b.pos)

end Go.Proofs.Ytknkifanpppglaa
