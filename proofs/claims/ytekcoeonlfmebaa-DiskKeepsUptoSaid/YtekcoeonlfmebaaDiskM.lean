/- A disk by definition: its state, and what each call makes of it. No program in sight. -/
namespace Go.Proofs.Ytekcoeonlfmebaa.Kit

abbrev Nm := List UInt8
/-- A file: its name, its bytes, how many are synced. -/
structure Fl where
  name : Nm
  data : List UInt8
  syn : Nat
deriving DecidableEq
/-- A disk: its files by rising name. -/
structure DS where
  cap : Nat
  files : List Fl
  fuse : Int
  down : Bool

def nameByte (c : UInt8) : Bool := (97 ≤ c && c ≤ 122) || (48 ≤ c && c ≤ 57) || c == 46 || c == 45 || c == 95
def goodN (n : Nm) : Bool := decide (0 < n.length ∧ n.length ≤ 40) && n.all nameByte
def usedF (l : List Fl) : Nat := (l.map fun f => f.data.length).sum
def DS.used (s : DS) : Nat := usedF s.files
def DS.find (s : DS) (n : Nm) : Option Fl := s.files.find? (fun f => f.name == n)

/-- The files with this one among them. -/
def ins (f : Fl) : List Fl → List Fl
  | [] => [f]
  | g :: l => if f.name < g.name then f :: g :: l else g :: ins f l
def outF (n : Nm) (l : List Fl) : List Fl := l.filter (fun f => f.name != n)
/-- The file of a name, changed. -/
def updF (n : Nm) (h : Fl → Fl) (l : List Fl) : List Fl := l.map (fun f => if f.name = n then h f else f)

/-- A call that changes: what it answers where the power stays, what it does then. -/
def DS.change (s : DS) (e : Nat) (h : DS → DS) : Nat × DS :=
  if s.down = true then (34, s) else if e ≠ 0 then (e, s) else if s.fuse = 0 then (34, { s with down := true, fuse := -1 })
  else (0, h { s with fuse := if 0 < s.fuse then s.fuse - 1 else s.fuse })
def DS.there (s : DS) (n : Nm) : Nat := if goodN n = true then (if (s.find n).isSome = true then 0 else 31) else 32
def DS.create (s : DS) (n : Nm) : Nat × DS :=
  s.change (if goodN n = true then (if (s.find n).isSome = true then 33 else if 64 ≤ s.files.length then 2 else 0) else 32) fun s => { s with files := ins ⟨n, [], 0⟩ s.files }
def DS.append (s : DS) (n : Nm) (b : List UInt8) : Nat × DS :=
  s.change (if s.there n ≠ 0 then s.there n else if s.cap < s.used + b.length then 30 else 0) fun s => { s with files := updF n (fun f => { f with data := f.data ++ b }) s.files }
def DS.sync (s : DS) (n : Nm) : Nat × DS := s.change (s.there n) fun s => { s with files := updF n (fun f => { f with syn := f.data.length }) s.files }
def DS.remove (s : DS) (n : Nm) : Nat × DS := s.change (s.there n) fun s => { s with files := outF n s.files }
def moved (a b : Nm) (l : List Fl) : List Fl := if a = b then l else match l.find? (fun f => f.name == a) with
  | some f => ins { f with name := b } (outF b (outF a l))
  | none => l
def DS.rename (s : DS) (a b : Nm) : Nat × DS := s.change (if goodN b = true then s.there a else 32) fun s => { s with files := moved a b s.files }
def DS.setFuse (s : DS) (n : Int) : Nat × DS := if n < -1 ∨ 1048576 < n then (1, s) else if s.down = true then (34, s) else (0, { s with fuse := n })
/-- How many bytes of the i-th file a crash leaves. -/
def leftOf (f : Fl) (i : Nat) (keep : List Int) : Nat :=
  if keep = [] then f.syn else f.syn + min (keep.getD (i % keep.length) 0).toNat (f.data.length - f.syn)
def crashed (keep : List Int) : Nat → List Fl → List Fl
  | _, [] => []
  | i, f :: l => { f with data := f.data.take (leftOf f i keep), syn := leftOf f i keep } :: crashed keep (i + 1) l
def DS.crash (s : DS) (keep : List Int) : DS := { s with files := crashed keep 0 s.files, fuse := -1, down := false }

/-- What holds of every disk. -/
structure DS.Ok (s : DS) : Prop where
  cap : s.cap ≤ 1048576
  used : s.used ≤ s.cap
  few : s.files.length ≤ 64
  rise : (s.files.map (·.name)).Pairwise (· < ·)
  good : ∀ f ∈ s.files, goodN f.name = true
  syn : ∀ f ∈ s.files, f.syn ≤ f.data.length
  fuse : -1 ≤ s.fuse ∧ s.fuse ≤ 1048576
  fell : s.down = true → s.fuse = -1
end Go.Proofs.Ytekcoeonlfmebaa.Kit
