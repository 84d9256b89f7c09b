import Derived.Test.YtkcbjhjpepdkcaaVMb
set_option linter.unusedVariables false
set_option linter.unusedSimpArgs false
namespace Go.VM
/-! ### States -/
/-- where a call began; which blocks that were there it may write -/
structure Fr where
  c0 : Ctx
  X : Nat → Prop
  nt : Nat
def Wr (F : Fr) (b : Nat) : Prop := F.c0.w.heap.size ≤ b ∨ F.X b
structure FR (F : Fr) (w : World) : Prop where
  os : w.os = F.c0.w.os
  tape : w.tape = F.c0.w.tape
  output : w.output = F.c0.w.output
  size : F.c0.w.heap.size ≤ w.heap.size
  block : ∀ k, k < F.c0.w.heap.size → ¬ F.X k → w.heap[k]? = F.c0.w.heap[k]?
def Live : Blk → Prop
  | .dead => False
  | _ => True
/-- a row of cells holds what a block says -/
def Cont (c : Ctx) (C : Array Value) (cap : Nat) : Blk → Prop
  | .box cs => C.size = cs.length ∧ One cs.length (fun j => C[j]?) ∧ VRs c cs fun j => C[j]?
  | .arr e n f => C.size = cap * e ∧ n ≤ cap ∧ ∀ i, i < n → (f i).length = e ∧ One e (fun j => C[i * e + j]?) ∧ VRs c (f i) fun j => C[i * e + j]?
  | .dead => True
def BlkOk (F : Fr) (c : Ctx) (x : Blk) : Option (Nat × Nat) → Prop
  | some (b, cap) => Live x → ∃ C el, c.w.heap[b]? = some (.cells C el) ∧ Cont c C cap x ∧ ¬ c.I b ∧ Wr F b
  | none => match x with
    | .arr _ n _ => n = 0
    | .box _ => False
    | .dead => True
structure SR (F : Fr) (c : Ctx) (H : Heap) : Prop where
  fr : FR F c.w
  le : Le F.c0 c
  len : c.locs.length = H.length
  blk : ∀ (r : Nat) (b : Blk) (l : Option (Nat × Nat)), H[r]? = some b → c.locs[r]? = some l → BlkOk F c b l
  inj : ∀ (r r' : Nat) (x x' : Blk) (b m m' : Nat), H[r]? = some x → H[r']? = some x' → Live x → Live x' → c.locs[r]? = some (some (b, m)) → c.locs[r']? = some (some (b, m')) → r = r'
  imm : ∀ b, c.I b → b < c.w.heap.size
  old : ∀ b, c.I b → F.c0.I b ∨ F.c0.w.heap.size ≤ b
abbrev tmpOf (a : Act) (t : Nat) : Value := a.tmps.getD t undef
def ER (c : Ctx) (E : Env) (a : Act) : Prop :=
  ∀ t, (pc (get E t).2.1 → VR c (get E t).2.2 (tmpOf a t)) ∧ (¬ pc (get E t).2.1 → tmpOf a t = undef)
/-- every temporary that is written is there -/
def okc (n : Nat) : Code → Bool
  | .region _ ops _ => ops.toList.all fun o => match o.dst with | some d => Nat.blt d n | none => true
  | .seq a b => okc n a && okc n b
  | .cond _ a b => okc n a && okc n b
  | .block _ b => okc n b
  | .loop b => okc n b
  | .scope b => okc n b
  | _ => true
structure AO (F : Fr) (a : Act) : Prop where
  defers : a.defers = []
  size : a.tmps.size = F.nt
inductive X where
  | normal
  | exit (n : Nat)
  | ret
/-- what the machine comes to, said of abstract states -/
def lift (F : Fr) (K : X → Env → Heap → Prop) : Exit → Act → World → Prop
  | .normal, a, w => ∃ c E H, c.w = w ∧ SR F c H ∧ ER c E a ∧ AO F a ∧ K .normal E H
  | .exit i, a, w => ∃ c E H, c.w = w ∧ SR F c H ∧ ER c E a ∧ AO F a ∧ K (.exit i) E H
  | .ret, a, w => ∃ c E H, c.w = w ∧ SR F c H ∧ ER c E a ∧ AO F a ∧ K .ret E H
  | _, _, _ => False
/-- a function that has a body -/
def fbody (P : Program) (f : Nat) : Bool := match P.funcs[f]? with | some fn => fn.body.isSome && fn.name != "runtime.NumGoroutine" | none => false
/-- a call, said of abstract states -/
def cw (P : Program) (f : Nat) (args : List V) (H : Heap) (K : V → Heap → Prop) : Prop :=
  fbody P f = true ∧ ∀ (F : Fr) (c : Ctx), SR F c H → ∀ us : Array Value, us.size = args.length → (VRs c args fun j => us[j]?) →
    Calls P f us c.w fun e w' => ∃ c' u v H', e = .returned u ∧ c'.w = w' ∧ Le c c' ∧ SR F c' H' ∧ VR c' v u ∧ K v H'
/-- a call that stands under a guard: it makes nothing new -/
def cg (P : Program) (f : Nat) (args : List V) (H : Heap) (p : Path) (K : V → Prop) : Prop :=
  ∃ v, (pc p → cw P f args H fun v' H' => v' = v ∧ H' = H) ∧ K v
@[congr] theorem cw_congr {P : Program} {f : Nat} {args args' : List V} {H H' : Heap} {K : V → Heap → Prop} (h1 : args = args') (h2 : H = H') : cw P f args H K = cw P f args' H' K := by rw [h1, h2]
@[congr] theorem cg_congr {P : Program} {f : Nat} {args args' : List V} {H H' : Heap} {p : Path} {K : V → Prop} (h1 : args = args') (h2 : H = H') : cg P f args H p K = cg P f args' H' p K := by rw [h1, h2]
/-- a loop, a region that draws its order (`n`: how many of the blocks were there when the call began) -/
def cx (P : Program) (n : Nat) (code : Code) (E : Env) (H : Heap) (K : X → Env → Heap → Prop) : Prop :=
  ∀ (F : Fr) (c : Ctx) (a : Act), F.c0.locs.length ≤ n → SR F c H → ER c E a → AO F a → okc F.nt code = true → code.wp P (lift F K) a c.w

/-! ### The executor -/
def onth : List Oper → Nat → Option Oper
  | [], _ => none
  | o :: _, 0 => some o
  | _ :: os, n + 1 => onth os n
/-- the guards that an operation stands under -/
def gp (ops : List Oper) (E : Env) (g : Option (Nat × Bool)) : Option Path :=
  match g with
  | none => some []
  | some (i, b) => (match onth ops i with
    | some o => (match o.dst with
      | some t => (match get E t with
        | (s, q, .bool x) => bif Nat.beq s (i + 1) then some (padd q (i, b, x)) else none
        | _ => none)
      | none => none)
    | none => none)
/-- what must hold for an operation not to panic, where it runs -/
def Sd (p : Path) (q : Prop) : Prop := pc p → q
def Sq (q : Prop) : Prop := q
theorem Sd.of {p : Path} {q : Prop} (h : pc p → q) : Sd p q := h
theorem Sd.mk {p : Path} {q : Prop} (h : q) : Sd p q := fun _ => h
theorem Sq.mk {q : Prop} (h : q) : Sq q := h
def rk (p : Path) (r : R) (K : V → Prop) : Prop :=
  match r with
  | .no => False
  | .ok v => K v
  | .chk q v => Sd p q ∧ K v
/-- a bool or a whole number that was reckoned gets a name of its own -/
def rv (v : V) (K : V → Prop) : Prop :=
  match v with
  | .bool b => ∀ x, x = b → K (.bool x)
  | .int k n => ∀ x, x = n → K (.int k x)
  | v => K v
def rkv (p : Path) (r : R) (K : V → Prop) : Prop :=
  match r with
  | .no => False
  | .ok v => rv v K
  | .chk q v => Sd p q ∧ rv v K
theorem rv_out {v : V} {K : V → Prop} (h : rv v K) : K v := by
  unfold rv at h
  split at h
  · exact h _ rfl
  · exact h _ rfl
  · exact h
theorem rkv_rk {p : Path} {r : R} {K : V → Prop} (h : rkv p r K) : rk p r K := by
  cases r with
  | no => exact h
  | ok v => exact rv_out h
  | chk q v => exact ⟨h.1, rv_out h.2⟩
def boxV (T : TI) (x : V) : Option (List V) :=
  match T.agg with
  | some true => (match x with | .agg cs => bif Nat.beq (len cs) T.size then some cs else none | _ => none)
  | some false => bif Nat.beq T.size 1 then (match x with | .bad | .agg _ | .tup _ => none | x => some [x]) else none
  | none => none
def storeV (T : TI) (H : Heap) (a x : V) (K : Heap → Prop) : Prop :=
  match boxV T x with
  | some vs => (match a with
    | .ptr r off => (match hget H r with
      | .box cs => bif Nat.ble (off + len vs) (len cs) then K (hset H r (.box (spl cs off vs))) else False
      | _ => False)
    | .eptr r e i off => (match hget H r with
      | .arr e' n f => bif band (Nat.beq e e') (Nat.ble (off + len vs) e) then Sq (i < n) ∧ K (hset H r (.arr e n fun j => bif Nat.beq j i then spl (f j) off vs else f j)) else False
      | _ => False)
    | _ => False)
  | none => False
/-- a slice's elements, as they are -/
def view (e : Nat) (H : Heap) (x : V) : Option (Prop × Nat × (Nat → List V)) :=
  match x with
  | .nil => some (True, 0, fun _ => [])
  | .lst _ _ e' n f => bif Nat.beq e e' then some (True, n, f) else none
  | .own _ r e' off n _ => (match hget H r with
    | .arr e'' m f => bif band (Nat.beq e e') (Nat.beq e e'') then some (off + n ≤ m, n, fun i => f (off + i)) else none
    | _ => none)
  | _ => none
def join (n : Nat) (f g : Nat → List V) : Nat → List V := fun i => bif Nat.blt i n then f i else g (i - n)
/-- some elements put over others -/
def over (i m : Nat) (g f : Nat → List V) : Nat → List V := fun q => if i ≤ q ∧ q < i + m then g (q - i) else f q
def appendV (e bytes : Nat) (H : Heap) (s x : V) (K : V → Heap → Prop) : Prop :=
  match view e H x with
  | some (q, m, g) => (match s with
    | .nil => Sq (q ∧ m * bytes ≤ 140737488355328) ∧ K (.own (napp (some true) m) (hlen H) e 0 m .loose) (hadd H (.arr e m g))
    | .lst nl (.cut b) e' n f => bif Nat.beq e e' then
        Sq (q ∧ b = true ∧ (n = 0 ∨ 0 < m) ∧ (n + m) * bytes ≤ 140737488355328) ∧ K (.own (napp nl m) (hlen H) e 0 (n + m) .loose) (hadd H (.arr e (n + m) (join n f g))) else False
    | .own nl r e' off n (.cut b) => (match view e H s with
      | some (q', _, f) => Sq (q ∧ q' ∧ b = true ∧ (n = 0 ∨ 0 < m) ∧ (n + m) * bytes ≤ 140737488355328) ∧ K (.own (napp nl m) (hlen H) e 0 (n + m) .loose) (hadd H (.arr e (n + m) (join n f g)))
      | none => False)
    | .own nl r e' off n .loose => (match hget H r with
      | .arr e'' n' f => bif band (Nat.beq e e') (Nat.beq e e'') then
        Sq (q ∧ off = 0 ∧ n = n' ∧ (n + m) * bytes ≤ 140737488355328) ∧ K (.own (napp nl m) (hlen H) e 0 (n + m) .loose) (hadd (hset H r .dead) (.arr e (n + m) (join n f g))) else False
      | _ => False)
    | .own nl r e' off n (.exact C) => (match hget H r with
      | .arr e'' n' f => bif band (Nat.beq e e') (Nat.beq e e'') then
        Sq (q ∧ off + n ≤ n' ∧ (n + m) * bytes ≤ 140737488355328) ∧
        (n + m ≤ C → K (.own nl r e off (n + m) (.exact C)) (hset H r (.arr e (max n' (off + n + m)) (over (off + n) m g f)))) ∧
        (C < n + m → K (.own (napp nl m) (hlen H) e 0 (n + m) .loose) (hadd H (.arr e (n + m) (join n (fun i => f (off + i)) g)))) else False
      | _ => False)
    | _ => False)
  | none => False
def rep : Nat → List V → List V
  | 0, _ => []
  | n + 1, z => aps z (rep n z)
where
  aps : List V → List V → List V
    | [], l => l
    | v :: r, l => v :: aps r l
def mkArr (e n : Nat) (cs : List V) : Nat → List V :=
  match n with
  | 1 => fun _ => cs
  | _ => fun i => tk e (dr (i * e) cs)
def buildSliceV (e : Nat) (z : Option (List V)) (n : Nat) (parts : List (Nat × V)) (H : Heap) (K : V → Heap → Prop) : Prop :=
  match z with
  | some z => (match fillV (fun i => some (i * e, e)) (rep n z) parts with
    | some cs => bif Nat.ble (n * e) 16777216 then K (.own (some false) (hlen H) e 0 n (.cut true)) (hadd H (.arr e n (mkArr e n cs))) else False
    | none => False)
  | none => False
def clearV (e : Nat) (z : List V) (H : Heap) (x : V) (K : Heap → Prop) : Prop :=
  match x with
  | .nil => K H
  | .own nl r e' off n t => (match hget H r with
    | .arr e'' n' f => bif band (Nat.beq e e') (Nat.beq e e'') then Sq (off ≤ n') ∧ K (hset H r (.arr e (max n' (off + n)) (over off n (fun _ => z) f))) else False
    | _ => False)
  | _ => False
def copyV (e : Nat) (H : Heap) (d x : V) (K : Nat → Heap → Prop) : Prop :=
  match view e H x with
  | some (q, m, g) => (match d with
    | .nil => Sq q ∧ K 0 H
    | .own nl r e' off n t => (match hget H r with
      | .arr e'' n' f => bif band (Nat.beq e e') (Nat.beq e e'') then Sq (q ∧ off ≤ n') ∧ K (min m n) (hset H r (.arr e (max n' (off + min m n)) (over off (min m n) g f))) else False
      | _ => False)
    | _ => False)
  | none => False
def capV (K : TK) (x : V) : R :=
  match K, x with
  | .slice, .own _ _ _ _ _ (.exact C) => .ok (.int .i64 (C : Int))
  | .slice, .own _ _ _ _ n (.cut true) => .ok (.int .i64 (n : Int))
  | .slice, .nil => .ok (.int .i64 0)
  | _, _ => .no
def maxV (x y : V) : R :=
  match x, y with
  | .int k a, .int l b => bif Nat.beq (ikn k) (ikn l) then .ok (.int k (if b > a then b else a)) else .no
  | _, _ => .no
def minV (x y : V) : R :=
  match x, y with
  | .int k a, .int l b => bif Nat.beq (ikn k) (ikn l) then .ok (.int k (if b < a then b else a)) else .no
  | _, _ => .no
def xb (P : Program) (b : Builtin) (ts : List Nat) (xs : List V) (p : Path) (H : Heap) (K : V → Heap → Prop) : Prop :=
  match b, ts, xs with
  | .len, [t], [x] => rk p (vlen (tkind P t) x) fun v => K v H
  | .append, t :: u :: [], [s, x] => (match p with
    | [] => bif Nat.beq t u then (match telem P t with
      | some e => (match tzero P e with
        | some _ => bif Nat.beq (tbytes P e) 0 then False else appendV (tsize P e) (tbytes P e) H s x K
        | none => False)
      | none => False) else False
    | _ => False)
  | .clear, [t], [x] => (match p with
    | [] => (match telem P t with
      | some e => (match tzero P e with
        | some z => clearV (tsize P e) z H x (K (.tup []))
        | none => False)
      | none => False)
    | _ => False)
  | .copy, [t, _], [d, s] => (match p with
    | [] => (match telem P t with
      | some e => copyV (tsize P e) H d s fun k H => K (.int .i64 (k : Int)) H
      | none => False)
    | _ => False)
  | .cap, [t], [x] => rk p (capV (tkind P t) x) fun v => K v H
  | .max, _, [x, y] => rk p (maxV x y) fun v => K v H
  | .min, _, [x, y] => rk p (minV x y) fun v => K v H
  | _, _, _ => False
/-- how many cells an element of a slice type has -/
def tesize (P : Program) (T : Nat) : Nat := match telem P T with | some e => tsize P e | none => 0
def evp (E : Env) (p : Path) : List (Nat × Operand) → List (Nat × V)
  | [] => []
  | (i, x) :: r => (i, ev E p x) :: evp E p r
def evo (E : Env) (p : Path) : Option Operand → Option V
  | none => none
  | some x => some (ev E p x)
/-- the way on which a `pick` takes its operand -/
def pk (E : Env) (p : Path) (c : Operand) (b : Bool) : Path :=
  match c with
  | .tmp t => (match get E t with
    | (i + 1, _, _) => padd p (i, b, b)
    | _ => p)
  | _ => p
def app : List V → List V → List V
  | [], l => l
  | v :: r, l => v :: app r l
/-- what follows a call's end -/
def kp (K : Env → Heap → Prop) (E : Env) (d : Option Nat) (k : Nat) (p : Path) (v : V) (H : Heap) : Prop := K (put E d (k + 1) p v) H
def kq (K : Env → Heap → Prop) (E : Env) (d : Option Nat) (k : Nat) (p : Path) (H : Heap) (v : V) : Prop := K (put E d (k + 1) p v) H
def xo (P : Program) (k : Nat) (o : Oper) (p : Path) (E : Env) (H : Heap) (K : Env → Heap → Prop) : Prop :=
  match o.op with
  | .move x | .assign x => K (put E o.dst (k + 1) p (ev E p x)) H
  | .pick c a b => rkv p (pickV (ev E p c) (ev E (pk E p c true) a) (ev E (pk E p c false) b)) fun v => K (put E o.dst (k + 1) p v) H
  | .binOp op T x y _ => rkv p (bin op (tkind P T) (ev E p x) (ev E p y)) fun v => K (put E o.dst (k + 1) p v) H
  | .unOp op _ x => rkv p (un op (ev E p x)) fun v => K (put E o.dst (k + 1) p v) H
  | .extract x i => rk p (extractV (ev E p x) i) fun v => K (put E o.dst (k + 1) p v) H
  | .nilCheck x => (match ev E p x with
    | .ptr r off => K (put E o.dst (k + 1) p (.ptr r off)) H
    | .eptr r e i off => K (put E o.dst (k + 1) p (.eptr r e i off)) H
    | .iptr cs off => K (put E o.dst (k + 1) p (.iptr cs off)) H
    | _ => False)
  | .fieldAddr T x f => rk p (fieldAddr (tfield P T f) (ev E p x)) fun v => K (put E o.dst (k + 1) p v) H
  | .index T x i => rkv p (indexS (tkind P T) (ev E p x) (ev E p i)) fun v => K (put E o.dst (k + 1) p v) H
  | .indexAddr T x i => (match telem P T with
    | some e => rk p (indexAddr (tsize P e) (ev E p x) (ev E p i)) fun v => K (put E o.dst (k + 1) p v) H
    | none => False)
  | .load T x => rk p (load (ti P T) H (ev E p x)) fun v => K (put E o.dst (k + 1) p v) H
  | .slice T x lo hi mx => rk p (sliceV (tkind P T) (tesize P T) (ev E p x) (evo E p lo) (evo E p hi) (evo E p mx)) fun v => K (put E o.dst (k + 1) p v) H
  | .convert S D x => rkv p (convV (tkind P S) (tkind P D) (ev E p x)) fun v => K (put E o.dst (k + 1) p v) H
  | .field T x f => (match tfield P T f with
    | some (k', t) => rk p (fieldV (some (k', t)) (ti P t) (ev E p x)) fun v => K (put E o.dst (k + 1) p v) H
    | none => False)
  | .makeFunc (.func f) first caps => K (put E o.dst (k + 1) p (.fn f (evs E p first.toList) (evs E p caps.toList))) H
  | .alloc T => (match p, tzero P T with
    | [], some z => K (put E o.dst (k + 1) p (.ptr (hlen H) 0)) (hadd H (.box z))
    | _, _ => False)
  | .box T x => (match p, boxV (ti P T) (ev E p x) with
    | [], some cs => K (put E o.dst (k + 1) p (.ptr (hlen H) 0)) (hadd H (.box cs))
    | _, _ => False)
  | .store T a x => (match p with
    | [] => storeV (ti P T) H (ev E p a) (ev E p x) fun H => K (put E o.dst (k + 1) p .bad) H
    | _ => False)
  | .buildSlice T n parts => (match p, telem P T with
    | [], some e => buildSliceV (tsize P e) (tzero P e) n (evp E p parts.toList) H fun v H => K (put E o.dst (k + 1) p v) H
    | _, _ => False)
  | .build T parts => (match tzero P T, tplaces P T with
    | some z, some pl => (match fillV (pnth pl) z (evp E p parts.toList) with
      | some cs => K (put E o.dst (k + 1) p (.agg cs)) H
      | none => False)
    | _, _ => False)
  | .call c => (match c.callee with
    | .builtin b => xb P b c.argTypes.toList (evs E p c.args.toList) p H fun v H => K (put E o.dst (k + 1) p v) H
    | .value f => (match ev E p f with
      | .fn g first caps => (match p with
        | [] => cw P g (app first (app (evs E p c.args.toList) caps)) H (kp K E o.dst k [])
        | y :: q => cg P g (app first (app (evs E (y :: q) c.args.toList) caps)) H (y :: q) (kq K E o.dst k (y :: q) H))
      | _ => False)
    | _ => False)
  | _ => False
def xs (P : Program) (ops : List Oper) : Nat → List Oper → (Env → Heap → Prop) → Env → Heap → Prop
  | _, [], K, E, H => K E H
  | k, o :: os, K, E, H => (match gp ops E o.guard with
    | some p => xo P k o p E H (xs P ops (k + 1) os K)
    | none => False)
def xc (P : Program) (n : Nat) : Code → Env → Heap → (X → Env → Heap → Prop) → Prop
  | .skip, E, H, K => K .normal E H
  | .region id ops d, E, H, K => (match d with
    | false => xs P ops.toList 0 ops.toList (K .normal) (clean E) H
    | true => cx P n (.region id ops true) E H K)
  | .seq a b, E, H, K => xc P n a E H fun x E H => (match x with | .normal => xc P n b E H K | .exit i => K (.exit i) E H | .ret => K .ret E H)
  | .cond c t e, E, H, K => (match ev (clean E) [] c with
    | .bool b => (b = true → xc P n t E H K) ∧ (b = false → xc P n e E H K)
    | _ => False)
  | .block id b, E, H, K => xc P n b E H fun x E H => (match x with | .normal => K .normal E H | .exit i => (bif Nat.beq i id then K .normal E H else K (.exit i) E H) | .ret => K .ret E H)
  | .loop b, E, H, K => cx P n (.loop b) E H K
  | .exit i, E, H, K => K (.exit i) E H
  | .ret, E, H, K => K .ret E H
  | _, _, _, _ => False
end Go.VM
