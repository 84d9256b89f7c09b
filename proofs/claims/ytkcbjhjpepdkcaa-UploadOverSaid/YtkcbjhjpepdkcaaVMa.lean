import Derived.ProofKit
import Derived.Below
import Derived.KernelRfl
set_option linter.unusedVariables false
set_option linter.unusedSimpArgs false
namespace Go.VM
/-! ### Values, blocks, environments -/
/-- How much room lies behind a slice: not known; or none, if so; or so many places in all. -/
inductive Tg where
  | loose
  | cut (b : Bool)
  | exact (n : Nat)
inductive V where
  | bad
  | nil
  | bool (b : Bool)
  | int (k : IntKind) (n : Int)
  | str (s : List UInt8)
  | lst (nl : Option Bool) (t : Tg) (e n : Nat) (f : Nat → List V)
  | own (nl : Option Bool) (r e off n : Nat) (t : Tg)
  | agg (cs : List V)
  | tup (vs : List V)
  | ptr (r off : Nat)
  | eptr (r e i off : Nat)
  | iptr (cs : List V) (off : Nat)
  | fn (f : Nat) (first caps : List V)
inductive Blk where
  | box (cs : List V)
  | arr (e n : Nat) (f : Nat → List V)
  | dead
abbrev Heap := List Blk
structure Ctx where
  w : World
  I : Nat → Prop
  locs : List (Option (Nat × Nat))
abbrev Ctx.bare (c : Ctx) : Ctx := { c with locs := [] }
/-- what is known of being nil -/
def Nlr (nl : Option Bool) (A : Option Addr) : Prop := ∀ b, nl = some b → (b = true ↔ A = none)
/-- what is known of it behind an append of so many -/
def napp (nl : Option Bool) (m : Nat) : Option Bool := match m with | 0 => nl | _ + 1 => some false
/-- each of the first cells is of one cell -/
def One (n : Nat) (g : Nat → Option Value) : Prop := ∀ j x, j < n → g j = some x → x.oneCell' = true
mutual
/-- A value of the model reads, in a context, as an abstract value. -/
def VR (c : Ctx) : V → Value → Prop
  | .bad, _ => True
  | .nil, v => v = .slice none 0 0
  | .bool b, v => v = .bool b
  | .int k n, v => v = .int k n
  | .str s, v => v = .string ⟨s.toArray⟩
  | .lst nl tight e n f, v => ∃ A cap, v = .slice A n cap ∧ n ≤ cap ∧ (tight = .cut true → cap = n) ∧ Nlr nl A ∧ (A = none → cap = 0) ∧
      ∀ i, i < n → ∃ a, A = some a ∧ c.I a.block ∧ (f i).length = e ∧ One e (fun j => c.w.cell? (a.add (i * e + j))) ∧ VRs { c with locs := [] } (f i) fun j => c.w.cell? (a.add (i * e + j))
  | .own nl r e off n tight, v => ∃ A cap, v = .slice A n cap ∧ (n ≤ cap ∧ ∀ C, tight = .exact C → cap = C) ∧ (tight = .cut true → cap = n) ∧ Nlr nl A ∧
      match c.locs[r]? with
      | some (some (b, m)) => off + cap ≤ m ∧ (0 < cap → A = some ⟨b, off * e, none⟩)
      | some none => cap = 0
      | none => False
  | .agg cs, v => ∃ us, v = .agg us ∧ us.size = cs.length ∧ One cs.length (fun j => us[j]?) ∧ VRs c cs fun j => us[j]?
  | .tup cs, v => ∃ us, v = .tuple us ∧ us.size = cs.length ∧ VRs c cs fun j => us[j]?
  | .ptr r off, v => match c.locs[r]? with
      | some (some (b, _)) => v = .pointer (some ⟨b, off, none⟩)
      | _ => False
  | .eptr r e i off, v => match c.locs[r]? with
      | some (some (b, _)) => v = .pointer (some ⟨b, i * e + off, none⟩)
      | _ => False
  | .iptr cs off, v => ∃ b o, v = .pointer (some ⟨b, o + off, none⟩) ∧ c.I b ∧ One cs.length (fun j => c.w.cell? ⟨b, o + j, none⟩) ∧ VRs { c with locs := [] } cs fun j => c.w.cell? ⟨b, o + j, none⟩
  | .fn f first caps, v => ∃ us ws, v = .func (.func f) us ws ∧ us.size = first.length ∧ ws.size = caps.length ∧ (VRs c first fun j => us[j]?) ∧ VRs c caps fun j => ws[j]?
def VRs (c : Ctx) : List V → (Nat → Option Value) → Prop
  | [], _ => True
  | v :: vs, g => (∃ u, g 0 = some u ∧ VR c v u) ∧ VRs c vs fun j => g (j + 1)
end

abbrev Path := List (Nat × Bool × Bool)
structure Ent where
  t : Nat
  s : Nat
  p : Path
  v : V
abbrev Env := List Ent
def get : Env → Nat → Nat × Path × V
  | [], _ => (0, [], .bad)
  | e :: r, t => bif Nat.beq e.t t then (e.s, e.p, e.v) else get r t
def beqB : Bool → Bool → Bool
  | true, true => true
  | false, false => true
  | _, _ => false
def band : Bool → Bool → Bool
  | true, b => b
  | false, _ => false
def ppre : Path → Path → Bool
  | [], _ => true
  | (a, x, _) :: p, (b, y, _) :: q => band (Nat.beq a b) (band (beqB x y) (ppre p q))
  | _ :: _, [] => false
def evt (E : Env) (p : Path) (t : Nat) : V :=
  match get E t with
  | (_, q, v) => bif ppre q p then v else .bad
def ofV : Value → V
  | .bool b => .bool b
  | .int k n => .int k n
  | .string s => .str s.data.toList
  | .slice none 0 0 => .nil
  | _ => .bad
def ev (E : Env) (p : Path) : Operand → V
  | .tmp t => evt E p t
  | .const v => ofV v
  | .func f => .fn f [] []
  | .global _ => .bad
def evs (E : Env) (p : Path) : List Operand → List V
  | [] => []
  | x :: r => ev E p x :: evs E p r
/-- what must hold for an operation under a guard to run -/
def pc : Path → Prop
  | [] => True
  | (_, b, x) :: p => x = b ∧ pc p
def padd : Path → Nat × Bool × Bool → Path
  | [], x => [x]
  | y :: p, x => y :: padd p x
def put (E : Env) (d : Option Nat) (s : Nat) (p : Path) (v : V) : Env :=
  match d with
  | some t => ⟨t, s, p, v⟩ :: E
  | none => E
/-- at a region's begin: what hung on a guard is not known any more -/
def clean : Env → Env
  | [] => []
  | ⟨t, _, [], v⟩ :: r => ⟨t, 0, [], v⟩ :: clean r
  | ⟨t, _, _ :: _, _⟩ :: r => ⟨t, 0, [], .bad⟩ :: clean r

/-! ### Types of the program -/
def tsize (P : Program) (t : Nat) : Nat := match P.info? t with | some i => i.size | none => 0
def tbytes (P : Program) (t : Nat) : Nat := match P.info? t with | some i => i.bytes | none => 0
def tagg (P : Program) (t : Nat) : Option Bool := match P.underlying t with | some (.struct _) | some (.array _ _) => some true | some _ => some false | none => none
def telem (P : Program) (t : Nat) : Option Nat := match P.underlying t with | some (.slice e) => if tsize P e = 0 then none else some e | _ => none
def tfield (P : Program) (t k : Nat) : Option (Nat × Nat) := match P.underlying t with | some (.struct fs) => (match fs[k]? with | some f => if tsize P f.type = 0 then none else some (f.offset, f.type) | none => none) | _ => none
def tplaces (P : Program) (t : Nat) : Option (List (Nat × Nat)) := match P.underlying t with | some (.struct fs) => fs.toList.mapM (fun f => (P.info? f.type).map fun i => (f.offset, i.size)) | _ => none
def pnth : List (Nat × Nat) → Nat → Option (Nat × Nat)
  | [], _ => none
  | x :: _, 0 => some x
  | _ :: l, n + 1 => pnth l n
def ofVs : List Value → List V
  | [] => []
  | v :: r => ofV v :: ofVs r
def tzero (P : Program) (t : Nat) : Option (List V) := match P.info? t with | some i => (match i.zero with | some z => if z.cells.toList.all (·.oneCell') && z.cells.size == i.size then some (ofVs z.cells.toList) else none | none => none) | none => none
/-- what a type is; `flat`: a struct of whole numbers, bools and texts alone (0: bool, 1: a whole number, 2: a text) -/
inductive TK where
  | bool | int (k : IntKind) | str | slice | flat (ks : List Nat) | other
def flatAt (P : Program) : List Field → Nat → Option (List Nat)
  | [], _ => some []
  | f :: fs, i => if f.name != "_" && f.offset == i then
      (match P.underlying f.type, flatAt P fs (i + 1) with
      | some .bool, some ks => some (0 :: ks)
      | some (.int _), some ks => some (1 :: ks)
      | some .string, some ks => some (2 :: ks)
      | _, _ => none) else none
def tkind (P : Program) (t : Nat) : TK :=
  match P.underlying t with
  | some .bool => .bool
  | some (.int k) => .int k
  | some .string => .str
  | some (.slice _) => .slice
  | some (.struct fs) => (match flatAt P fs.toList 0 with
    | some ks => if !P.stoodInHeld t && !P.eqGuardType P.depth t then .flat ks else .other
    | none => .other)
  | _ => .other
structure TI where
  size : Nat
  bytes : Nat
  agg : Option Bool
  elem : Option Nat
  kind : TK
  zero : Option (List V)
def ti (P : Program) (t : Nat) : TI := ⟨tsize P t, tbytes P t, tagg P t, telem P t, tkind P t, tzero P t⟩

/-! ### What operations make of values -/
inductive R where
  | no
  | ok (v : V)
  | chk (p : Prop) (v : V)
def ikn : IntKind → Nat
  | .i8 => 0 | .i16 => 1 | .i32 => 2 | .i64 => 3 | .u8 => 4 | .u16 => 5 | .u32 => 6 | .u64 => 7
/-- two cells of a kind (0: bool, 1: a whole number, 2: a text) held against each other -/
def eq1 : Nat → V → V → Option Bool
  | 0, .bool a, .bool b => some (decide (a = b))
  | 1, .int k a, .int l b => bif Nat.beq (ikn k) (ikn l) then some (decide (a = b)) else none
  | 2, .str a, .str b => some (decide (a = b))
  | _, _, _ => none
def eqs : List Nat → List V → List V → Option Bool
  | [], [], [] => some true
  | k :: ks, x :: xs, y :: ys => (match ks with
    | [] => (match xs, ys with | [], [] => eq1 k x y | _, _ => none)
    | _ => (match eq1 k x y, eqs ks xs ys with
      | some a, some b => some (a && b)
      | _, _ => none))
  | _, _, _ => none
def blt (a b : List UInt8) : Bool := Op.bytesLess a b
def bin (op : BinOp) (K : TK) (x y : V) : R :=
  match x, y with
  | .int k a, .int l b =>
    bif Nat.beq (ikn k) (ikn l) then
    (match op with
    | .add => .ok (.int k (k.wrap (a + b)))
    | .sub => .ok (.int k (k.wrap (a - b)))
    | .mul => .ok (.int k (k.wrap (a * b)))
    | .quo => .chk (b ≠ 0) (.int k (k.wrap (a.tdiv b)))
    | .rem => .chk (b ≠ 0) (.int k (a.tmod b))
    | .eql => .ok (.bool (decide (a = b)))
    | .neq => .ok (.bool (!decide (a = b)))
    | .lss => .ok (.bool (decide (a < b)))
    | .leq => .ok (.bool (decide (a ≤ b)))
    | .gtr => .ok (.bool (decide (b < a)))
    | .geq => .ok (.bool (decide (b ≤ a)))
    | _ => .no)
    else .no
  | .str a, .str b =>
    (match op with
    | .add => .chk (a.length + b.length ≤ 9223372036854775807) (.str (a ++ b))
    | .eql => .ok (.bool (decide (a = b)))
    | .neq => .ok (.bool (!decide (a = b)))
    | .lss => .ok (.bool (blt a b))
    | .leq => .ok (.bool (blt a b || decide (a = b)))
    | .gtr => .ok (.bool (!(blt a b || decide (a = b))))
    | .geq => .ok (.bool (!blt a b))
    | _ => .no)
  | .bool a, .bool b =>
    (match op, K with
    | .eql, .bool => .ok (.bool (decide (a = b)))
    | .neq, .bool => .ok (.bool (!decide (a = b)))
    | _, _ => .no)
  | .lst nl _ _ _ _, .nil | .own nl _ _ _ _ _, .nil =>
    (match op, K with
    | .eql, .slice => (match nl with | some b => .ok (.bool b) | none => .no)
    | .neq, .slice => (match nl with | some b => .ok (.bool (!b)) | none => .no)
    | _, _ => .no)
  | .nil, .nil =>
    (match op, K with
    | .eql, .slice => .ok (.bool true)
    | .neq, .slice => .ok (.bool false)
    | _, _ => .no)
  | .agg xs, .agg ys =>
    (match K with
    | .flat ks => (match op, eqs ks xs ys with
      | .eql, some b => .ok (.bool b)
      | .neq, some b => .ok (.bool (!b))
      | _, _ => .no)
    | _ => .no)
  | _, _ => .no
def un (op : UnOp) (x : V) : R :=
  match op, x with
  | .not, .bool b => .ok (.bool (!b))
  | .neg, .int k n => .ok (.int k (k.wrap (0 - n)))
  | _, _ => .no
def vlen (K : TK) (x : V) : R :=
  match K, x with
  | .str, .str s => .ok (.int .i64 (s.length : Int))
  | .slice, .lst _ _ _ n _ | .slice, .own _ _ _ _ n _ => .ok (.int .i64 (n : Int))
  | .slice, .nil => .ok (.int .i64 0)
  | _, _ => .no
@[irreducible] def bsel (c a b : Bool) : Bool := bif c then a else b
def pickV (c a b : V) : R :=
  match c with
  | .bool c => (match a, b with
    | .bool a, .bool b => .ok (.bool (bsel c a b))
    | _, _ => .ok .bad)
  | _ => .no
def nth : List V → Nat → V
  | [], _ => .bad
  | v :: _, 0 => v
  | _ :: vs, n + 1 => nth vs n
def dr : Nat → List V → List V
  | 0, l => l
  | _ + 1, [] => []
  | n + 1, _ :: l => dr n l
def tk : Nat → List V → List V
  | 0, _ => []
  | _ + 1, [] => []
  | n + 1, v :: l => v :: tk n l
def spl : List V → Nat → List V → List V
  | [], _, _ => []
  | c :: cs, 0, [] => c :: cs
  | _ :: cs, 0, v :: vs => v :: spl cs 0 vs
  | c :: cs, n + 1, vs => c :: spl cs n vs
def len : List V → Nat
  | [] => 0
  | _ :: l => len l + 1
/-- a value's cells -/
def cellsOf : V → Option (List V)
  | .agg cs => some cs
  | .bad | .tup _ => none
  | v => some [v]
/-- a variable of a type, whose cells begin at an offset -/
def loadV (T : TI) (cs : List V) (off : Nat) : R :=
  match T.agg with
  | some true => bif Nat.ble (off + T.size) (len cs) then .ok (.agg (tk T.size (dr off cs))) else .no
  | some false => bif Nat.blt off (len cs) then .ok (nth cs off) else .no
  | none => .no
def hget : Heap → Nat → Blk
  | [], _ => .dead
  | b :: _, 0 => b
  | _ :: h, n + 1 => hget h n
def hset : Heap → Nat → Blk → Heap
  | [], _, _ => []
  | _ :: h, 0, b => b :: h
  | c :: h, n + 1, b => c :: hset h n b
def hlen : Heap → Nat
  | [] => 0
  | _ :: h => hlen h + 1
def hadd : Heap → Blk → Heap
  | [], b => [b]
  | c :: h, b => c :: hadd h b
def load (T : TI) (H : Heap) (a : V) : R :=
  match a with
  | .ptr r off => (match hget H r with | .box cs => loadV T cs off | _ => .no)
  | .eptr r e i off => (match hget H r with
    | .arr e' n f => bif Nat.beq e e' then (match loadV T (f i) off with | .ok v => .chk (i < n) v | _ => .no) else .no
    | _ => .no)
  | .iptr cs off => loadV T cs off
  | _ => .no
def fieldAddr (o : Option (Nat × Nat)) (a : V) : R :=
  match o with
  | some (k, _) => (match a with
    | .ptr r off => .ok (.ptr r (off + k))
    | .eptr r e i off => .ok (.eptr r e i (off + k))
    | .iptr cs off => .ok (.iptr cs (off + k))
    | _ => .no)
  | none => .no
def fieldV (o : Option (Nat × Nat)) (T : TI) (x : V) : R :=
  match o, x with
  | some (k, _), .agg cs => loadV T cs k
  | _, _ => .no
/-- an element's address (`e`: how many cells an element has) -/
def indexAddr (e : Nat) (x i : V) : R :=
  match x, i with
  | .lst _ _ e' n f, .int _ i => bif Nat.beq e e' then .chk (0 ≤ i ∧ i < (n : Int)) (.iptr (f i.toNat) 0) else .no
  | .own _ r e' off n _, .int _ i => bif Nat.beq e e' then .chk (0 ≤ i ∧ i < (n : Int)) (.eptr r e (off + i.toNat) 0) else .no
  | _, _ => .no
def indexS (K : TK) (x i : V) : R :=
  match K, x, i with
  | .str, .str s, .int _ i => .chk (0 ≤ i ∧ i < (s.length : Int)) (.int .u8 ((s.getD i.toNat 0).toNat : Int))
  | _, _, _ => .no
/-- a cut of a text -/
def sliceS (s : List UInt8) (lo hi : Option V) : R :=
  match lo, hi with
  | none, none => .ok (.str s)
  | some (.int _ l), none => .chk (0 ≤ l ∧ l ≤ (s.length : Int)) (.str (s.drop l.toNat))
  | none, some (.int _ h) => .chk (0 ≤ h ∧ h ≤ (s.length : Int)) (.str (s.take h.toNat))
  | some (.int _ l), some (.int _ h) => .chk (0 ≤ l ∧ l ≤ h ∧ h ≤ (s.length : Int)) (.str ((s.take h.toNat).drop l.toNat))
  | _, _ => .no
/-- a cut of a slice of n elements: where it begins, how many it has, what is known of the room behind it, and what must hold -/
inductive Cut where
  | no
  | cut (l h : Nat) (t : Tg) (q : Prop)
def unx : Tg → Tg
  | .exact _ => .loose
  | t => t
def shT : Tg → Nat → Tg
  | .exact C, l => .exact (C - l)
  | t, _ => t
def hiT : Tg → Nat → Tg
  | .exact C, l => .exact (C - l)
  | _, _ => .loose
def cpT : Tg → Nat → Nat
  | .exact C, _ => C
  | _, n => n
def cutV (n cp : Nat) (t : Tg) (lo hi mx : Option V) : Cut :=
  match lo, hi, mx with
  | none, none, none => .cut 0 n t True
  | some (.int _ l), none, none => .cut l.toNat n (shT t l.toNat) (0 ≤ l ∧ l ≤ (n : Int))
  | none, some (.int _ h), none => .cut 0 h.toNat (hiT t 0) (0 ≤ h ∧ h ≤ (cp : Int))
  | some (.int _ l), some (.int _ h), none => .cut l.toNat h.toNat (hiT t l.toNat) (0 ≤ l ∧ l ≤ h ∧ h ≤ (cp : Int))
  | none, some (.int _ h), some (.int _ m) => .cut 0 h.toNat (.cut (decide (m = h))) (0 ≤ h ∧ h ≤ m ∧ m ≤ (n : Int))
  | some (.int _ l), some (.int _ h), some (.int _ m) => .cut l.toNat h.toNat (.cut (decide (m = h))) (0 ≤ l ∧ l ≤ h ∧ h ≤ m ∧ m ≤ (n : Int))
  | _, _, _ => .no
/-- a cut (`e`: how many cells an element of the slice's type has) -/
def sliceV (K : TK) (e : Nat) (x : V) (lo hi mx : Option V) : R :=
  match (match K with | .slice => bif Nat.beq e 0 then TK.other else K | _ => K), x, mx with
  | .str, .str s, none => sliceS s lo hi
  | .slice, .lst nl t e' n f, _ => bif Nat.beq e e' then
    (match cutV n n (unx t) lo hi mx with
    | .cut l h t q => .chk q (.lst nl t e (h - l) fun i => f (l + i))
    | .no => .no) else .no
  | .slice, .own nl r e' off n t, _ => bif Nat.beq e e' then
    (match cutV n (cpT t n) t lo hi mx with
    | .cut l h t q => .chk q (.own nl r e (off + l) (h - l) t)
    | .no => .no) else .no
  | _, _, _ => .no
def extractV (x : V) (i : Nat) : R :=
  match x with
  | .tup vs => bif Nat.blt i (len vs) then .ok (nth vs i) else .no
  | _ => .no
/-- parts into a row of cells; `pl`: where a part lies, and how many cells it has -/
def fillV (pl : Nat → Option (Nat × Nat)) : List V → List (Nat × V) → Option (List V)
  | cs, [] => some cs
  | cs, (i, v) :: rest => (match pl i, cellsOf v with
    | some (off, n), some vs => bif band (Nat.beq (len vs) n) (Nat.ble (off + n) (len cs)) then fillV pl (spl cs off vs) rest else none
    | _, _ => none)
def convV (S D : TK) (x : V) : R :=
  match x, S, D with
  | .int _ n, .int _, .int k => .ok (.int k (k.wrap n))
  | .str s, .str, .str => .ok (.str s)
  | _, _, _ => .no
end Go.VM
