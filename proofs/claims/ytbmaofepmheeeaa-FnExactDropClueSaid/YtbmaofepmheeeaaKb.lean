/- The executor: what an operation, a region, a piece of code asks and does over abstract states. -/
import Derived.Test.YtbmaofepmheeeaaKa
import Derived.OrdersHeld
namespace Go.Proofs.Ytbmaofepmheeeaa
open Go Go.RowKit

structure St where
  env : List (Nat × SV)
  objs : Objs
  n : Nat

def getE : List (Nat × SV) → Nat → SV
  | [], _ => .un
  | (k, v) :: r, t => if t = k then v else getE r t

def constCV : Value → CV
  | .slice none 0 0 => .nilsl
  | v => .d (.v v)

def cvOf : DC → CV
  | .v v => constCV v
  | d => .d d

def constSV : Value → SV
  | .agg cs => if cs.toList.all Value.oneCell' then .one (.agg (cs.toList.map constCV)) else .un
  | .tuple _ => .un
  | v => .one (.c (constCV v))

def St.eval (st : St) : Operand → SV
  | .tmp t => if t < st.n then getE st.env t else .un
  | .const v => constSV v
  | .global _ => .un
  | .func f => .one (.c (.fn f []))

def St.put (st : St) (dst : Option Tmp) (v : SV) : St :=
  match dst with
  | some d => { st with env := (d, v) :: st.env }
  | none => st

def St.withObjs (st : St) (objs : Objs) : St := { st with objs := objs }

inductive TK where
  | struct (fs : List (Nat × Nat))
  | array (n : Nat) (e : TypeId)
  | slice (e : TypeId)
  | map (k e : TypeId)
  | str
  | int (k : IntKind)
  | bool
  | bad
  | other

structure TyI where
  size : Nat
  bytes : Nat
  zero : List CV
  kind : TK

def kindX (P : Program) (t : TypeId) : TK :=
  match P.underlying t with
  | some (.struct fs) =>
    match fs.toList.mapM (fun f => (P.info? f.type).map fun i => (f.offset, i.size)) with
    | some ps => .struct ps
    | none => .bad
  | some (.array n e) => .array n e
  | some (.slice e) => .slice e
  | some (.map k e) => .map k e
  | some .string => .str
  | some (.int k) => .int k
  | some .bool => .bool
  | _ => .other

def isAggV : Value → Bool
  | .agg _ => true
  | _ => false

def TK.agg : TK → Bool
  | .struct _ | .array _ _ | .bad => true
  | _ => false

def tyX (P : Program) (t : TypeId) : Option TyI :=
  (P.info? t).bind fun i => i.zero.bind fun z =>
    if z.cells.toList.all Value.oneCell' && z.cells.size == i.size && (P.underlying t).isSome && isAggV z == (kindX P t).agg then some { size := i.size, bytes := i.bytes, zero := z.cells.toList.map constCV, kind := kindX P t } else none

/-- A program, with what is known of its types -/
structure Gen where
  P : Program
  ty : TypeId → Option TyI
  ok : ∀ t T, ty t = some T → tyX P t = some T
  mixed : P.follows .mixedOrders = true
  sized : Nat.blt 0 P.types.size = true

abbrev vI (n : Int) : CV := .d (.v (.int .i64 n))
abbrev vB (b : Bool) : CV := .d (.v (.bool b))

def SV.cells : SV → Option (List CV)
  | .one (.c x) => some [x]
  | .one (.agg xs) => some xs
  | _ => none

/-- The version of an object that is there, and the object. -/
def objAt (objs : Objs) (o ver : Nat) : Option OB :=
  match objs[o]? with
  | some (v, b) => if v = ver then some b else none
  | none => none

def aliveB (objs : Objs) (o ver : Nat) : Bool :=
  match objAt objs o ver with
  | some .dead => false
  | some _ => true
  | none => false

abbrev alive (objs : Objs) (o ver : Nat) : Prop := aliveB objs o ver = true

def peel : OB → OB
  | .fro _ b => peel b
  | b => b

/-- What an object holds, whoever may write it. -/
def objRd (objs : Objs) (o ver : Nat) : Option OB :=
  match objAt objs o ver with
  | some .dead => none
  | some b => some (peel b)
  | none => none

/-- The row in cell p of a row of elements of e cells. -/
def rowAt (e : Nat) (xs : List (List GC)) (p : Nat) : Option (Nat × List (List DC)) :=
  match (xs[p / e]?).bind (·[p % e]?) with
  | some (.row e' ys) => some (e', ys)
  | _ => none

def setG (e : Nat) (xs : List (List GC)) (p : Nat) (g : GC) : List (List GC) :=
  match xs[p / e]? with
  | some x => xs.set (p / e) (x.set (p % e) g)
  | none => xs

/-- A row in a row, whichever it is. -/
structure RowAt (e0 : Nat) (xs : List (List GC)) (p e : Nat) (P : List (List DC) → Prop) : Prop where
  ex : ∃ ys, rowAt e0 xs p = some (e, ys) ∧ P ys

theorem RowAt.mk' {e0 : Nat} {xs : List (List GC)} {p e : Nat} {P : List (List DC) → Prop} {ys : List (List DC)} (h : rowAt e0 xs p = some (e, ys)) (g : P ys) : RowAt e0 xs p e P := ⟨ys, h, g⟩

/-- An element of a list with rows in it, whichever it is. -/
structure ElG (xs : List (List GC)) (i : Nat) (p : List GC → Prop) : Prop where
  all : ∀ x, xs[i]? = some x → p x

/-- What a map has at a key. -/
structure MapAt (es : List (List Int × DV)) (k : List Int) (p : Option DV → Prop) : Prop where
  at_ : p (es.lookup k)

def updM (es : List (List Int × DV)) (k : List Int) (v : DV) : List (List Int × DV) :=
  match es with
  | [] => [(k, v)]
  | (k', v') :: r => if k' == k then (k, v) :: r else (k', v') :: updM r k v

/-- A test that is decided on the spot. -/
def chkP (p : Prop) [Decidable p] (q : Prop) : Prop :=
  match decide p with
  | true => q
  | false => False

theorem chkP_iff {p q : Prop} [Decidable p] : chkP p q ↔ p ∧ q := by
  unfold chkP
  split
  · rename_i h; exact ⟨fun g => ⟨of_decide_eq_true h, g⟩, (·.2)⟩
  · rename_i h; exact ⟨fun g => g.elim, fun g => absurd g.1 (of_decide_eq_false h)⟩

/-- A test that may go both ways. -/
def Br (t : Bool) (p q : Prop) : Prop := @Bool.rec (fun _ => Prop) q p t

theorem Br.mk {t : Bool} {p q : Prop} (h : t = true → p) (g : t = false → q) : Br t p q := by
  cases t
  · exact g rfl
  · exact h rfl

theorem Br.yes {t : Bool} {p q : Prop} (h : Br t p q) (ht : t = true) : p := by subst ht; exact h

theorem Br.no {t : Bool} {p q : Prop} (h : Br t p q) (ht : t = false) : q := by subst ht; exact h

/-- A guard: what is to be done if the test is as wanted, and if not. -/
def Gd (t want : Bool) (p q : Prop) : Prop :=
  match want with
  | true => Br t p q
  | false => Br t q p

theorem Gd.yes {t want : Bool} {p q : Prop} (h : Gd t want p q) (ht : t = want) : p := by
  subst ht; cases t <;> exact h

theorem Gd.no {t want : Bool} {p q : Prop} (h : Gd t want p q) (ht : t ≠ want) : q := by
  cases want <;> cases t
  · exact absurd rfl ht
  · exact h
  · exact h
  · exact absurd rfl ht

/-- An element of a list, whichever it is. -/
structure El (xs : List (List DC)) (i : Nat) (p : List DC → Prop) : Prop where
  all : ∀ x, xs[i]? = some x → p x

theorem El.get {xs : List (List DC)} {i : Nat} {p : List DC → Prop} {x : List DC} (h : xs[i]? = some x) (g : p x) : El xs i p :=
  ⟨fun y hy => by rw [h] at hy; cases hy; exact g⟩

def fNatIn : List Nat → Nat → (Nat → Prop) → Prop
  | [], n, K => K n
  | l :: r, n, K => match Nat.beq n l with
    | true => K l
    | false => fNatIn r n K

/-- A small number, as a numeral. -/
def fNat (n : Nat) (K : Nat → Prop) : Prop := fNatIn [0, 1, 2, 3, 4, 5, 6, 7, 8, 9, 10, 11, 12, 13, 14, 15, 16, 17, 18, 19, 20, 21, 22, 23, 24, 25, 26, 27, 28, 29, 30, 31, 32, 33, 34, 35, 36, 37, 38, 39, 40, 41, 42, 43, 44, 45, 46, 47, 48, 49, 50, 51, 52, 53, 54, 55, 56, 57, 58, 59] n K

theorem fNatIn_eq (n : Nat) (K : Nat → Prop) : ∀ l, fNatIn l n K = K n
  | [] => rfl
  | l :: r => by
    unfold fNatIn
    split
    · rename_i h; rw [Nat.eq_of_beq_eq_true h]
    · exact fNatIn_eq n K r

theorem fNat_eq (n : Nat) (K : Nat → Prop) : fNat n K = K n := fNatIn_eq n K _

/-- A value, laid open to its head. -/
def fDC (x : DC) (K : DC → Prop) : Prop :=
  match x with
  | .v (.int k n) => K (.v (.int k n))
  | .v (.bool b) => K (.v (.bool b))
  | .v (.string s) => K (.v (.string s))
  | .v y => K (.v y)
  | .list e xs => K (.list e xs)

theorem fDC_eq (x : DC) (K : DC → Prop) : fDC x K = K x := by
  unfold fDC; split <;> rfl

def fCV (x : CV) (K : CV → Prop) : Prop :=
  match x with
  | .d y => fDC y fun y => K (.d y)
  | .nilsl => K .nilsl
  | .esl => K .esl
  | .ptr o ver off => fNat o fun o => fNat ver fun ver => fNat off fun off => K (.ptr o ver off)
  | .eptr o ver e i j => fNat o fun o => fNat ver fun ver => fNat e fun e => fNat j fun j => K (.eptr o ver e i j)
  | .ip e xs i j => fNat j fun j => K (.ip e xs i j)
  | .sl o ver e off len cap => fNat o fun o => fNat ver fun ver => fNat e fun e => K (.sl o ver e off len cap)
  | .gsl o ver p e off len => fNat o fun o => fNat ver fun ver => fNat e fun e => K (.gsl o ver p e off len)
  | .gptr o ver p e i j => fNat o fun o => fNat ver fun ver => fNat e fun e => fNat j fun j => K (.gptr o ver p e i j)
  | .mp o ver => fNat o fun o => fNat ver fun ver => K (.mp o ver)
  | .fn f caps => K (.fn f caps)

theorem fCV_eq (x : CV) (K : CV → Prop) : fCV x K = K x := by
  unfold fCV; split <;> simp [fNat_eq, fDC_eq]

def fCs : List CV → (List CV → Prop) → Prop
  | [], K => K []
  | x :: r, K => fCV x fun x => fCs r fun r => K (x :: r)

theorem fCs_eq : ∀ (xs : List CV) (K : List CV → Prop), fCs xs K = K xs
  | [], _ => rfl
  | x :: r, K => by unfold fCs; rw [fCV_eq, fCs_eq r]

def fV1 (x : V1) (K : V1 → Prop) : Prop :=
  match x with
  | .c x => fCV x fun x => K (.c x)
  | .agg xs => fCs xs fun xs => K (.agg xs)

theorem fV1_eq (x : V1) (K : V1 → Prop) : fV1 x K = K x := by
  unfold fV1; split <;> simp [fCV_eq, fCs_eq]

def fVs : List V1 → (List V1 → Prop) → Prop
  | [], K => K []
  | x :: r, K => fV1 x fun x => fVs r fun r => K (x :: r)

theorem fVs_eq : ∀ (xs : List V1) (K : List V1 → Prop), fVs xs K = K xs
  | [], _ => rfl
  | x :: r, K => by unfold fVs; rw [fV1_eq, fVs_eq r]

def fSV (x : SV) (K : SV → Prop) : Prop :=
  match x with
  | .un => K .un
  | .one x => fV1 x fun x => K (.one x)
  | .tup xs => fVs xs fun xs => K (.tup xs)

theorem fSV_eq (x : SV) (K : SV → Prop) : fSV x K = K x := by
  unfold fSV; split <;> simp [fV1_eq, fVs_eq]

def fOB (b : OB) (K : OB → Prop) : Prop :=
  match b with
  | .dead => K .dead
  | .box cs => fCs cs fun cs => K (.box cs)
  | .arr e xs => fNat e fun e => K (.arr e xs)
  | .grid e xs => fNat e fun e => K (.grid e xs)
  | .map a es => K (.map a es)
  | .fro r b => fOB b fun b => match r with
    | true => K (.fro true b)
    | false => K (.fro false b)

theorem fOB_eq : ∀ (b : OB) (K : OB → Prop), fOB b K = K b
  | .dead, _ => rfl
  | .box cs, _ => by simp [fOB, fCs_eq]
  | .arr e xs, _ => by simp [fOB, fNat_eq]
  | .grid e xs, _ => by simp [fOB, fNat_eq]
  | .map a es, _ => rfl
  | .fro true b, _ => by simp [fOB, fOB_eq b]
  | .fro false b, _ => by simp [fOB, fOB_eq b]

def fObjs : Objs → (Objs → Prop) → Prop
  | [], K => K []
  | (v, b) :: r, K => fNat v fun v => fOB b fun b => fObjs r fun r => K ((v, b) :: r)

theorem fObjs_eq : ∀ (xs : Objs) (K : Objs → Prop), fObjs xs K = K xs
  | [], _ => rfl
  | (v, b) :: r, K => by unfold fObjs; rw [fNat_eq, fOB_eq, fObjs_eq r]

def binInt (op : BinOp) (k : IntKind) (a b : Int) (K : CV → Prop) : Prop :=
  match op with
  | .add => K (.d (.v (.int k (k.wrap (a + b)))))
  | .sub => K (.d (.v (.int k (k.wrap (a - b)))))
  | .mul => K (.d (.v (.int k (k.wrap (a * b)))))
  | .quo => b ≠ 0 ∧ K (.d (.v (.int k (k.wrap (a.tdiv b)))))
  | .rem => b ≠ 0 ∧ K (.d (.v (.int k (a.tmod b))))
  | .eql => K (vB (a == b))
  | .neq => K (vB (a != b))
  | .lss => K (vB (decide (a < b)))
  | .leq => K (vB (decide (a ≤ b)))
  | .gtr => K (vB (decide (a > b)))
  | .geq => K (vB (decide (a ≥ b)))
  | _ => False

def binX (isB : Bool) (op : BinOp) (x y : CV) (K : CV → Prop) : Prop :=
  match x, y with
  | .d (.v (.bool a)), .d (.v (.bool b)) =>
    match isB with
    | false => False
    | true => match op with
      | .eql => K (vB (a == b))
      | .neq => K (vB (!(a == b)))
      | _ => False
  | .d (.v (.int k a)), .d (.v (.int k' b)) =>
    match op with
    | .shl => 0 ≤ b ∧ K (.d (.v (.int k (k.wrap (a * 2 ^ (min b.toNat k.bits))))))
    | .shr => 0 ≤ b ∧ K (.d (.v (.int k (a.fdiv (2 ^ (min b.toNat k.bits))))))
    | .and => chkP (k = k') <| K (.d (.v (.int k (k.wrap ((BitVec.ofInt k.bits a &&& BitVec.ofInt k.bits b).toNat : Int)))))
    | op => chkP (k = k') <| binInt op k a b K
  | .d (.v (.string a)), .d (.v (.string b)) =>
    match op with
    | .add => a.size + b.size ≤ 140737488351232 ∧ K (.d (.v (.string (a ++ b))))
    | .eql => K (vB (a.toList == b.toList))
    | .neq => K (vB (!(a.toList == b.toList)))
    | _ => False
  | _, _ => False

/-- A slice may be nil only if p. -/
structure NilQ (p A B : Prop) : Prop where
  nil : p → A
  no : B

/-- A slice against nil. -/
def nilX (objs : Objs) (op : BinOp) (x : CV) (K : CV → Prop) : Prop :=
  match op with
  | .eql => (match x with
    | .nilsl => K (vB true)
    | .d (.list e xs) => NilQ (xs = [] ∨ e = 0) (K (vB true)) (K (vB false))
    | .sl o ver _ _ len _ => chkP (alive objs o ver) <| NilQ (len = 0) (K (vB true)) (K (vB false))
    | _ => False)
  | .neq => (match x with
    | .nilsl => K (vB false)
    | .d (.list e xs) => NilQ (xs = [] ∨ e = 0) (K (vB false)) (K (vB true))
    | .sl o ver _ _ len _ => chkP (alive objs o ver) <| NilQ (len = 0) (K (vB false)) (K (vB true))
    | _ => False)
  | _ => False

def unX (op : UnOp) (x : CV) (K : CV → Prop) : Prop :=
  match op, x with
  | .not, .d (.v (.bool b)) => K (vB (!b))
  | .neg, .d (.v (.int k n)) => K (.d (.v (.int k (k.wrap (0 - n)))))
  | _, _ => False

/-- n cells from place off on, as one value of a type. -/
def takeX (T : TyI) (cs : List CV) (off : Nat) (K : V1 → Prop) : Prop :=
  if T.kind.agg then chkP (off + T.size ≤ cs.length) <| K (.agg ((cs.drop off).take T.size))
  else match cs[off]? with
    | some x => K (.c x)
    | none => False

/-- The cells of an element that may hold rows of its own. -/
def cvsG (o ver : Nat) : Nat → List GC → List CV
  | _, [] => []
  | p, .d x :: r => cvOf x :: cvsG o ver (p + 1) r
  | p, .row e ys :: r => .gsl o ver p e 0 ys.length :: cvsG o ver (p + 1) r

def loadX (T : TyI) (objs : Objs) (x : CV) (K : V1 → Prop) : Prop :=
  match x with
  | .ptr o ver off =>
    match objRd objs o ver with
    | some (.box cs) => takeX T cs off K
    | _ => False
  | .eptr o ver e i j =>
    match objRd objs o ver with
    | some (.arr e' xs) => chkP (e = e') <| i < xs.length ∧ El xs i fun x => takeX T (x.map cvOf) j K
    | some (.grid e' xs) => chkP (e = e') <| i < xs.length ∧ ElG xs i fun x => takeX T (cvsG o ver (i * e) x) j K
    | _ => False
  | .gptr o ver p e i j =>
    match objRd objs o ver with
    | some (.grid e0 xs) => RowAt e0 xs p e fun ys => i < ys.length ∧ El ys i fun x => takeX T (x.map cvOf) j K
    | _ => False
  | .ip _ xs i j => El xs i fun x => takeX T (x.map cvOf) j K
  | _ => False

def setCells : List CV → Nat → List CV → List CV
  | cs, _, [] => cs
  | cs, off, v :: r => setCells (cs.set off v) (off + 1) r

def setDC : List DC → Nat → List DC → List DC
  | cs, _, [] => cs
  | cs, off, v :: r => setDC (cs.set off v) (off + 1) r

/-- A cell's value as a datum that is no reference to an object. -/
def dcOf : CV → Option DC
  | .d x => some x
  | .nilsl => some (.v (.slice none 0 0))
  | _ => none

def dcsOf : List CV → Option (List DC)
  | [] => some []
  | x :: r => match dcOf x, dcsOf r with
    | some d, some ds => some (d :: ds)
    | _, _ => none

/-- No slice in it: its cells alone tell it. -/
def flatCV : CV → Bool
  | .d (.v _) => true
  | .nilsl => true
  | _ => false

/-- A cell's value as a datum: an own row is not written any more. -/
def freezeC (objs : Objs) : CV → Option (DC × Objs)
  | .d x => some (x, objs)
  | .nilsl => some (.v (.slice none 0 0), objs)
  | .sl o ver e off len _ =>
    match objAt objs o ver with
    | some (.arr e' xs) => if e' = e ∧ 0 < e then some (.list e ((xs.drop off).take len), objs.set o (ver, .fro true (.arr e' xs))) else none
    | some (.fro true (.arr e' xs)) => if e' = e ∧ 0 < e then some (.list e ((xs.drop off).take len), objs) else none
    | _ => none
  | _ => none

def freezeOK (objs : Objs) : CV → Prop
  | .sl o ver _ off len _ =>
    match objAt objs o ver with
    | some (.arr _ xs) => off + len ≤ xs.length
    | some (.fro true (.arr _ xs)) => off + len ≤ xs.length
    | _ => False
  | _ => True

def storeX (T : TyI) (objs : Objs) (x : CV) (vs : List CV) (K : Objs → Prop) : Prop :=
  chkP (vs.length = T.size) <|
  match x with
  | .gptr o ver p e i j =>
    match vs with
    | [v] => freezeOK objs v ∧
      (match freezeC objs v with
      | some (d, objs) => match objAt objs o ver with
        | some (.grid e0 xs) => chkP (j < e) <| RowAt e0 xs p e fun ys => i < ys.length ∧ El ys i fun x => K (objs.set o (ver, .grid e0 (setG e0 xs p (.row e (ys.set i (x.set j d))))))
        | _ => False
      | none => False)
    | _ => False
  | .ptr o ver off =>
    match objAt objs o ver with
    | some (.box cs) => chkP (off + T.size ≤ cs.length) <| K (objs.set o (ver, .box (setCells cs off vs)))
    | _ => False
  | .eptr o ver e i j =>
    match objAt objs o ver, dcsOf vs with
    | some (.arr e' xs), some ds => chkP (e = e') <| chkP (j + T.size ≤ e) <| i < xs.length ∧ (match Nat.beq T.size e with
      | true => K (objs.set o (ver, .arr e (xs.set i ds)))
      | false => El xs i fun x => K (objs.set o (ver, .arr e (xs.set i (setDC x j ds)))))
    | some (.grid e' xs), _ => match vs with
      | [.sl o' ver' e2 off' len' _] => match objAt objs o' ver' with
        | some (.arr e3 ys) => chkP (o' ≠ o) <| chkP (e3 = e2 ∧ off' = 0) <| chkP (e = e' ∧ e = 1 ∧ j = 0) <| i < xs.length ∧ len' ≤ ys.length ∧ ElG xs i fun x => x = [.d (.v (.slice none 0 0))] ∧
            K ((objs.set o (ver, .grid e' (xs.set i [.row e2 (ys.take len')]))).set o' (ver', .dead))
        | _ => False
      | _ => False
    | _, _ => False
  | _ => False

def fieldX (T : TyI) (objs : Objs) (x : CV) (f : Nat) (K : CV → Prop) : Prop :=
  match T.kind with
  | .struct fs =>
    match fs[f]? with
    | some (off, n) => chkP (n ≠ 0) <| (match x with
      | .ptr o ver p => chkP (alive objs o ver) <| K (.ptr o ver (p + off))
      | .eptr o ver e i j => chkP (alive objs o ver) <| K (.eptr o ver e i (j + off))
      | .gptr o ver p e i j => chkP (alive objs o ver) <| K (.gptr o ver p e i (j + off))
      | .ip e xs i j => K (.ip e xs i (j + off))
      | _ => False)
    | none => False
  | _ => False

def indexX (T : TyI) (n : Nat) (objs : Objs) (x i : CV) (K : CV → Prop) : Prop :=
  match T.kind, i with
  | .slice _, .d (.v (.int _ i)) =>
    match x with
    | .sl o ver e off len _ =>
      match objRd objs o ver with
      | some (.arr _ _) => chkP (n = e) <| 0 ≤ i ∧ i < len ∧ K (.eptr o ver e (off + i.toNat) 0)
      | some (.grid _ _) => chkP (n = e) <| 0 ≤ i ∧ i < len ∧ K (.eptr o ver e (off + i.toNat) 0)
      | _ => False
    | .gsl o ver p e off len => chkP (alive objs o ver) <| chkP (n = e) <| 0 ≤ i ∧ i < len ∧ K (.gptr o ver p e (off + i.toNat) 0)
    | .d (.list e xs) => chkP (n = e) <| 0 ≤ i ∧ i < xs.length ∧ K (.ip e xs i.toNat 0)
    | _ => False
  | .array len _, .d (.v (.int _ i)) =>
    match x with
    | .ptr o ver off => chkP (alive objs o ver) <| 0 ≤ i ∧ i < len ∧ K (.ptr o ver (off + i.toNat * n))
    | _ => False
  | _, _ => False

/-- A slice of an array that lies in an object. -/
def sliceArrX (esz n : Nat) (objs : Objs) (x : CV) (lo hi mx : Option Int) (K : CV → Prop) : Prop :=
  match x with
  | .ptr o ver p =>
    match objRd objs o ver with
    | some (.box cs) => chkP (esz = 1) <| chkP (mx = none) <| chkP (p + n ≤ cs.length) <| 0 ≤ lo.getD 0 ∧ lo.getD 0 ≤ hi.getD n ∧ hi.getD n ≤ n ∧
        K (.sl o ver 1 (p + (lo.getD 0).toNat) ((hi.getD n).toNat - (lo.getD 0).toNat) (some (n - (lo.getD 0).toNat)))
    | _ => False
  | _ => False

def boxRow : List CV → Option (List (List DC))
  | [] => some []
  | .d x :: r => match boxRow r with
    | some xs => some ([x] :: xs)
    | none => none
  | _ => none

def fillX (fs : List (Nat × Nat)) (cs : List CV) : List (Nat × List CV) → Option (List CV)
  | [] => some cs
  | (i, v) :: r => match fs[i]? with
    | some (off, n) => if v.length = n ∧ off + n ≤ cs.length then fillX fs (setCells cs off v) r else none
    | none => none

def partsX (st : St) : List (Nat × Operand) → Option (List (Nat × List CV))
  | [] => some []
  | (i, x) :: r => match (st.eval x).cells, partsX st r with
    | some cs, some ps => some ((i, cs) :: ps)
    | _, _ => none

/-- The elements that a slice has. -/
def contentX (objs : Objs) (e : Nat) : CV → Option (List (List DC))
  | .nilsl => some []
  | .esl => some []
  | .d (.list e' xs) => if e' = e then some xs else none
  | .sl o ver e' off len _ =>
    match objRd objs o ver with
    | some (.arr e'' xs) => if e' = e ∧ e'' = e then some ((xs.drop off).take len) else none
    | _ => none
  | _ => none

def contentOK (objs : Objs) : CV → Prop
  | .sl o ver _ off len _ =>
    match objRd objs o ver with
    | some (.arr _ xs) => off + len ≤ xs.length
    | _ => False
  | _ => True

def lenX (k : TK) (objs : Objs) (x : CV) (K : CV → Prop) : Prop :=
  match k with
  | .slice _ => match x with
    | .nilsl => K (vI 0)
    | .esl => K (vI 0)
    | .d (.list _ xs) => K (vI xs.length)
    | .sl o ver _ _ len _ => chkP (alive objs o ver) <| K (vI len)
    | .gsl o ver _ _ _ len => chkP (alive objs o ver) <| K (vI len)
    | _ => False
  | .str => match x with
    | .d (.v (.string s)) => K (vI s.size)
    | _ => False
  | _ => False

/-- Rows written over others, from place p on. -/
def spliceL (xs ys : List (List DC)) (p : Nat) : List (List DC) := xs.take p ++ ys ++ xs.drop (p + ys.length)

/-- What is added is of the row itself, and the row's capacity is told. -/
def inPlace (o : Nat) (cap : Option Nat) (x : CV) : Option Nat :=
  match x with
  | .sl o' _ _ _ _ _ => match Nat.beq o o' with
    | true => cap
    | false => none
  | _ => none

def appendX (T : TyI) (objs : Objs) (s x : CV) (K : CV → Objs → Prop) : Prop :=
  contentOK objs x ∧
  match contentX objs T.size x with
  | some ys =>
    match s with
    | .nilsl => ys.length * T.bytes ≤ 2 ^ 40 ∧ ys.length ≤ 2 ^ 40 ∧ K (.sl objs.length 1 T.size 0 ys.length none) (objs ++ [(1, .arr T.size ys)])
    | .esl => ys.length * T.bytes ≤ 2 ^ 40 ∧ ys.length ≤ 2 ^ 40 ∧ K (.sl objs.length 1 T.size 0 ys.length none) (objs ++ [(1, .arr T.size ys)])
    | .sl o ver e off len cap =>
      match inPlace o cap x with
      | some cp => (match objAt objs o ver with
        | some (.arr e' xs) => chkP (e = T.size) <| chkP (e' = e) <| off + len + ys.length ≤ xs.length ∧ len + ys.length ≤ cp ∧ (len + ys.length) * T.bytes ≤ 2 ^ 40 ∧ len + ys.length ≤ 2 ^ 40 ∧
            K (.sl o ver e off (len + ys.length) (some cp)) (objs.set o (ver, .arr e (spliceL xs ys (off + len))))
        | _ => False)
      | none =>
      match objAt objs o ver with
      | some (.arr e' xs) => chkP (e = T.size) <| chkP (e' = e) <| off + len ≤ xs.length ∧ (len + ys.length) * T.bytes ≤ 2 ^ 40 ∧ len + ys.length ≤ 2 ^ 40 ∧
          K (.sl o (ver + 1) e 0 (len + ys.length) none) (objs.set o (ver + 1, .arr e ((xs.drop off).take len ++ ys)))
      | _ => False
    | _ => False
  | none => False

/-- A copy that fits. -/
def copyX (T : TyI) (objs : Objs) (d x : CV) (K : CV → Objs → Prop) : Prop :=
  contentOK objs x ∧
  match contentX objs T.size x with
  | some ys =>
    match d with
    | .sl o ver e off len _ =>
      match objAt objs o ver with
      | some (.arr e' xs) => chkP (e = T.size) <| chkP (e' = e) <| off + len ≤ xs.length ∧ ys.length ≤ len ∧ K (vI ys.length) (objs.set o (ver, .arr e (spliceL xs ys off)))
      | _ => False
    | _ => False
  | none => False

/-- Elements set to nought. -/
def clearX (T : TyI) (objs : Objs) (x : CV) (K : Objs → Prop) : Prop :=
  match dcsOf T.zero, x with
  | some z, .sl o ver e off len _ =>
    match objAt objs o ver with
    | some (.arr e' xs) => chkP (e = T.size) <| chkP (e' = e) <| off + len ≤ xs.length ∧ K (objs.set o (ver, .arr e (spliceL xs (List.replicate len z) off)))
    | _ => False
  | _, _ => False

/-- A key: a row of numbers. -/
def keyX : List CV → Option (List Int)
  | [] => some []
  | .d (.v (.int .i64 n)) :: r => match keyX r with
    | some k => some (n :: k)
    | none => none
  | _ => none

def freezeCs (objs : Objs) : List CV → Option (List DC × Objs)
  | [] => some ([], objs)
  | x :: r => match freezeC objs x with
    | some (d, objs) => match freezeCs objs r with
      | some (ds, objs) => some (d :: ds, objs)
      | none => none
    | none => none

def freezeOKs (objs : Objs) : List CV → Prop
  | [] => True
  | x :: r => freezeOK objs x ∧ (match freezeC objs x with
    | some (_, objs) => freezeOKs objs r
    | none => False)

def freezeV (objs : Objs) : V1 → Option (DV × Objs)
  | .c x => match freezeC objs x with
    | some (d, objs) => some (.c d, objs)
    | none => none
  | .agg xs => match freezeCs objs xs with
    | some (ds, objs) => some (.agg ds, objs)
    | none => none

def freezeVOK (objs : Objs) : V1 → Prop
  | .c x => freezeOK objs x
  | .agg xs => freezeOKs objs xs

def dvX : DV → V1
  | .c x => .c (cvOf x)
  | .agg xs => .agg (xs.map cvOf)

/-- A map's types: keys of n numbers, and what it holds. -/
def mapTy (G : TypeId → Option TyI) (t : TypeId) : Option (Nat × TyI) :=
  match G t with
  | some T => match T.kind with
    | .map kt et => match G kt, G et with
      | some Kt, some E => match Kt.kind with
        | .array n ie => match G ie with
          | some I => match I.kind with
            | .int .i64 => if I.size = 1 ∧ Kt.size = n then some (n, E) else none
            | _ => none
          | none => none
        | _ => none
      | _, _ => none
    | _ => none
  | none => none

def zeroX (E : TyI) (K : V1 → Prop) : Prop :=
  match E.kind.agg with
  | true => K (.agg E.zero)
  | false => match E.zero with
    | [x] => K (.c x)
    | _ => False

def lookupX (n : Nat) (E : TyI) (objs : Objs) (x : CV) (ix : List CV) (ok : Bool) (k : SV → Prop) : Prop :=
  match x, keyX ix with
  | .mp o ver, some key => match objRd objs o ver with
    | some (.map n' es) => chkP (n' = n) <| keyOK n key ∧ MapAt es key fun r => match r with
      | some v => (match ok with
        | true => k (.tup [dvX v, .c (vB true)])
        | false => k (.one (dvX v)))
      | none => zeroX E fun z => (match ok with
        | true => k (.tup [z, .c (vB false)])
        | false => k (.one z))
    | _ => False
  | _, _ => False

def updX (n : Nat) (objs : Objs) (x : CV) (ix : List CV) (v : V1) (K : Objs → Prop) : Prop :=
  match x, keyX ix with
  | .mp o ver, some key => freezeVOK objs v ∧ (match freezeV objs v with
    | some (d, objs) => match objAt objs o ver with
      | some (.map n' es) => chkP (n' = n) <| keyOK n key ∧ K (objs.set o (ver, .map n (updM es key d)))
      | _ => False
    | none => False)
  | _, _ => False

def intOfSV : SV → Option Int
  | .one (.c (.d (.v (.int _ n)))) => some n
  | _ => none

def strSliceX (x : CV) (lo hi mx : Option Int) (K : CV → Prop) : Prop :=
  match x with
  | .d (.v (.string s)) => mx = none ∧ 0 ≤ lo.getD 0 ∧ lo.getD 0 ≤ hi.getD s.size ∧ hi.getD s.size ≤ s.size ∧ K (.d (.v (.string (s.extract (lo.getD 0).toNat (hi.getD s.size).toNat))))
  | _ => False

def buildSliceX (e : Nat) (xs : List (List DC)) : List (Nat × List CV) → Option (List (List DC))
  | [] => some xs
  | (i, v) :: r => match dcsOf v with
    | some ds => if ds.length = e ∧ i < xs.length then buildSliceX e (xs.set i ds) r else none
    | none => none

def sliceX (n : Nat) (objs : Objs) (x : CV) (lo hi mx : Option Int) (K : CV → Prop) : Prop :=
  match x with
  | .d (.list e xs) => chkP (n = e) <| 0 ≤ lo.getD 0 ∧ lo.getD 0 ≤ hi.getD xs.length ∧ hi.getD xs.length ≤ xs.length ∧
      (match mx with
        | none => K (.d (.list e ((xs.drop (lo.getD 0).toNat).take ((hi.getD xs.length).toNat - (lo.getD 0).toNat))))
        | some m => m = lo.getD 0 ∧ hi = some m ∧ K .esl)
  | .sl o ver e off len none => chkP (n = e) <| chkP (alive objs o ver) <| 0 ≤ lo.getD 0 ∧ lo.getD 0 ≤ hi.getD len ∧ hi.getD len ≤ len ∧
      (match mx with
        | none => K (.sl o ver e (off + (lo.getD 0).toNat) ((hi.getD len).toNat - (lo.getD 0).toNat) none)
        | some m => m = lo.getD 0 ∧ hi = some m ∧ K .esl)
  | .sl o ver e off len (some cap) => chkP (n = e) <| chkP (alive objs o ver) <| 0 ≤ lo.getD 0 ∧ lo.getD 0 ≤ hi.getD len ∧ hi.getD len ≤ cap ∧
      (match mx with
        | none => K (.sl o ver e (off + (lo.getD 0).toNat) ((hi.getD len).toNat - (lo.getD 0).toNat) (some (cap - (lo.getD 0).toNat)))
        | some m => (m = lo.getD 0 ∧ hi = some m ∧ K .esl) ∨ (hi.isSome = true ∧ hi.getD len ≤ m ∧ m ≤ cap ∧ K (.sl o ver e (off + (lo.getD 0).toNat) ((hi.getD len).toNat - (lo.getD 0).toNat) (some (m.toNat - (lo.getD 0).toNat)))))
  | .nilsl => lo.getD 0 = 0 ∧ hi.getD 0 = 0 ∧ mx.getD 0 = 0 ∧ (mx = none ∨ hi = some 0) ∧ K .nilsl
  | .esl => lo.getD 0 = 0 ∧ hi.getD 0 = 0 ∧ mx.getD 0 = 0 ∧ (mx = none ∨ hi = some 0) ∧ K .esl
  | _ => False

def enterable (P : Program) (f : FuncId) : Bool :=
  match P.funcs[f]? with
  | some fn => fn.body.isSome && fn.name != "runtime.NumGoroutine"
  | none => false

/-- A call of function f with these arguments, over these objects of the caller's: what it hands back and makes of the objects meets K. -/
structure CallX (P : Program) (f : FuncId) (args : List V1) (objs : Objs) (K : SV → Objs → Prop) : Prop where
  enter : enterable P f = true
  calls : ∀ (c : Ctx) (w : World) (vals : Array Value), RelObjs c objs w → vals.size = args.length → (∀ (i : Nat) x, args[i]? = some x → ∃ u, vals[i]? = some u ∧ RelV1 c objs w x u) →
    Calls P f vals w fun e w' => ∃ v c' objs' sv, e = .returned v ∧ Ext objs.length c objs w c' objs' w' ∧ RelObjs c' objs' w' ∧ RelSV c' objs' w' sv v ∧ K sv objs'

/-- What stood in w stands in w', too, as it was. -/
structure SameOld (w w' : World) : Prop where
  size : w.heap.size ≤ w'.heap.size
  old : ∀ b, b < w.heap.size → w'.heap[b]? = w.heap[b]?

/-- A call that writes nothing of what was there. -/
structure CallP (P : Program) (f : FuncId) (args : List V1) (objs : Objs) (K : SV → Objs → Prop) : Prop where
  enter : enterable P f = true
  calls : ∀ (c : Ctx) (w : World) (vals : Array Value), RelObjs c objs w → vals.size = args.length → (∀ (i : Nat) x, args[i]? = some x → ∃ u, vals[i]? = some u ∧ RelV1 c objs w x u) →
    Calls P f vals w fun e w' => ∃ v c' objs' sv, e = .returned v ∧ SameOld w w' ∧ Ext objs.length c objs w c' objs' w' ∧ RelObjs c' objs' w' ∧ RelSV c' objs' w' sv v ∧ K sv objs'

theorem CallP.toX {P : Program} {f : FuncId} {args : List V1} {objs : Objs} {K : SV → Objs → Prop} (h : CallP P f args objs K) : CallX P f args objs K :=
  ⟨h.enter, fun c w vals h1 h2 h3 => (h.calls c w vals h1 h2 h3).mono fun _ _ ⟨v, c', objs', sv, e, _, k⟩ => ⟨v, c', objs', sv, e, k⟩⟩

def argsX (st : St) : List Operand → Option (List V1)
  | [] => some []
  | x :: r => match st.eval x, argsX st r with
    | .one v, some vs => some (v :: vs)
    | _, _ => none

def capsX (st : St) : List Operand → Option (List (Nat × Nat × Nat))
  | [] => some []
  | x :: r => match st.eval x, capsX st r with
    | .one (.c (.ptr o ver off)), some vs => some ((o, ver, off) :: vs)
    | _, _ => none

def optInt (st : St) : Option Operand → Option (Option Int)
  | none => some none
  | some x => (intOfSV (st.eval x)).map some

def builtinX (G : Gen) (b : Builtin) (ts : List TypeId) (args : List V1) (objs : Objs) (k : SV → Objs → Prop) : Prop :=
  match b, ts, args with
  | .len, t :: _, [.c x] =>
    match G.ty t with
    | some T => lenX T.kind objs x fun y => k (.one (.c y)) objs
    | none => False
  | .append, t :: t' :: _, [.c s, .c x] =>
    match G.ty t, G.ty t' with
    | some T, some T' => match T.kind, T'.kind with
      | .slice e, .slice _ => match G.ty e with
        | some E => chkP (0 < E.size) <| appendX E objs s x fun y objs' => k (.one (.c y)) objs'
        | none => False
      | _, _ => False
    | _, _ => False
  | .copy, t :: t' :: _, [.c s, .c x] =>
    match G.ty t, G.ty t' with
    | some T, some T' => match T.kind, T'.kind with
      | .slice e, .slice _ => match G.ty e with
        | some E => chkP (0 < E.size) <| copyX E objs s x fun y objs' => k (.one (.c y)) objs'
        | none => False
      | _, _ => False
    | _, _ => False
  | .clear, t :: _, [.c x] =>
    match G.ty t with
    | some T => match T.kind with
      | .slice e => match G.ty e with
        | some E => chkP (0 < E.size) <| clearX E objs x fun objs' => k (.tup []) objs'
        | none => False
      | _ => False
    | none => False
  | .min, _, [.c (.d (.v (.int .i64 a))), .c (.d (.v (.int .i64 b)))] => k (.one (.c (vI (if b < a then b else a)))) objs
  | .max, _, [.c (.d (.v (.int .i64 a))), .c (.d (.v (.int .i64 b)))] => k (.one (.c (vI (if b > a then b else a)))) objs
  | _, _, _ => False

def callOpX (G : Gen) (cl : Call) (st : St) (k : SV → Objs → Prop) : Prop :=
  match argsX st cl.args.toList with
  | some args =>
    match cl.callee with
    | .builtin b => builtinX G b cl.argTypes.toList args st.objs k
    | .value f =>
      match st.eval f with
      | .one (.c (.fn f caps)) => CallX G.P f (args ++ caps.map fun (o, ver, off) => .c (.ptr o ver off)) st.objs k
      | _ => False
    | .invoke _ _ => False
  | none => False

def isBoolX (G : Gen) (t : TypeId) : Bool :=
  match G.ty t with
  | some T => match T.kind with
    | .bool => true
    | _ => false
  | none => false

def isSliceX (G : Gen) (t : TypeId) : Bool :=
  match G.ty t with
  | some T => match T.kind with
    | .slice _ => true
    | _ => false
  | none => false

/-- Where a field lies, and its type. -/
def fieldAt (G : Gen) (t : TypeId) (f : Nat) : Option (Nat × TyI) :=
  match G.P.underlying t with
  | some (.struct fields) => match fields[f]? with
    | some fd => match G.ty fd.type with
      | some T => some (fd.offset, T)
      | none => none
    | none => none
  | _ => none

def opX (G : Gen) (o : Oper) (st : St) (k : SV → Objs → Prop) : Prop :=
  match o.op with
  | .move x => k (st.eval x) st.objs
  | .assign x => k (st.eval x) st.objs
  | .pick c a b =>
    match st.eval c with
    | .one (.c (.d (.v (.bool t)))) => Br t (k (st.eval a) st.objs) (k (st.eval b) st.objs)
    | _ => False
  | .alloc t =>
    match G.ty t with
    | some T => k (.one (.c (.ptr st.objs.length 0 0))) (st.objs ++ [(0, .box T.zero)])
    | none => False
  | .box _ x =>
    match (st.eval x).cells with
    | some cs => k (.one (.c (.ptr st.objs.length 0 0))) (st.objs ++ [(0, .box cs)])
    | none => False
  | .build t parts =>
    match G.ty t, partsX st parts.toList with
    | some T, some ps => match T.kind with
      | .struct fs => match fillX fs T.zero ps with
        | some cs => k (.one (.agg cs)) st.objs
        | none => False
      | .array _ e => match G.ty e, parts.toList with
        | some _, [] => k (.one (.agg T.zero)) st.objs
        | _, _ => False
      | _ => False
    | _, _ => False
  | .buildSlice t len parts =>
    match G.ty t, partsX st parts.toList with
    | some T, some ps => match T.kind with
      | .slice e => match G.ty e with
        | some E => match dcsOf E.zero with
          | some z => match buildSliceX E.size (List.replicate len z) ps with
            | some xs => chkP (0 < E.size) <| chkP (len * E.size ≤ 1000000) <| k (.one (.c (.sl st.objs.length 0 E.size 0 len (some len)))) (st.objs ++ [(0, .arr E.size xs)])
            | none => False
          | none => False
        | none => False
      | _ => False
    | _, _ => False
  | .makeSlice t l cp =>
    match G.ty t, intOfSV (st.eval l), intOfSV (st.eval cp) with
    | some T, some l, some cp => match T.kind with
      | .slice e => match G.ty e with
        | some E => match dcsOf E.zero with
          | some z => chkP (0 < E.size) <| 0 ≤ l ∧ l ≤ cp ∧ cp * E.bytes ≤ 2 ^ 46 ∧ cp ≤ 2 ^ 46 ∧ (match E.kind with
            | .slice _ => k (.one (.c (.sl st.objs.length 0 E.size 0 l.toNat (some cp.toNat)))) (st.objs ++ [(0, .grid E.size (List.replicate cp.toNat (z.map GC.d)))]) ∨
                k (.one (.c (.sl st.objs.length 0 E.size 0 l.toNat (some cp.toNat)))) (st.objs ++ [(0, .arr E.size (List.replicate cp.toNat z))])
            | _ => k (.one (.c (.sl st.objs.length 0 E.size 0 l.toNat (some cp.toNat)))) (st.objs ++ [(0, .arr E.size (List.replicate cp.toNat z))]))
          | none => False
        | none => False
      | _ => False
    | _, _, _ => False
  | .load t a =>
    match G.ty t, st.eval a with
    | some T, .one (.c x) => loadX T st.objs x fun v => k (.one v) st.objs
    | _, _ => False
  | .store t a x =>
    match G.ty t, st.eval a, (st.eval x).cells with
    | some T, .one (.c p), some cs => storeX T st.objs p cs fun objs' => k .un objs'
    | _, _, _ => False
  | .binOp op t x y _ =>
    match st.eval x, st.eval y with
    | .one (.c a), .one (.c .nilsl) => chkP (isSliceX G t = true) <| nilX st.objs op a fun v => k (.one (.c v)) st.objs
    | .one (.c a), .one (.c b) => binX (isBoolX G t) op a b fun v => k (.one (.c v)) st.objs
    | _, _ => False
  | .unOp op _ x =>
    match st.eval x with
    | .one (.c a) => unX op a fun v => k (.one (.c v)) st.objs
    | _ => False
  | .fieldAddr t x f =>
    match G.ty t, st.eval x with
    | some T, .one (.c p) => fieldX T st.objs p f fun v => k (.one (.c v)) st.objs
    | _, _ => False
  | .indexAddr t x i =>
    match G.ty t, st.eval x, st.eval i with
    | some T, .one (.c p), .one (.c i) => match T.kind with
      | .slice e => match G.ty e with
        | some E => chkP (0 < E.size) <| indexX T E.size st.objs p i fun v => k (.one (.c v)) st.objs
        | none => False
      | .array _ e => match G.ty e with
        | some E => indexX T E.size st.objs p i fun v => k (.one (.c v)) st.objs
        | none => False
      | _ => False
    | _, _, _ => False
  | .field t x f =>
    match st.eval x, fieldAt G t f with
    | .one (.agg cs), some (off, T) => takeX T cs off fun v => k (.one v) st.objs
    | _, _ => False
  | .index t x i =>
    match G.ty t, st.eval x, st.eval i with
    | some T, .one (.agg cs), .one (.c (.d (.v (.int .i64 n)))) => match T.kind with
      | .array len e => match G.ty e with
        | some E => match E.kind with
          | .int _ => chkP (E.size = 1) <| 0 ≤ n ∧ n < len ∧ fNat n.toNat fun j => (match cs[j]? with
            | some y => k (.one (.c y)) st.objs
            | none => False)
          | _ => False
        | none => False
      | _ => False
    | _, _, _ => False
  | .slice t x lo hi mx =>
    match G.ty t, st.eval x, optInt st lo, optInt st hi, optInt st mx with
    | some T, .one (.c x), some lo, some hi, some mx => match T.kind with
      | .slice e => match G.ty e with
        | some E => chkP (0 < E.size) <| sliceX E.size st.objs x lo hi mx fun v => k (.one (.c v)) st.objs
        | none => False
      | .str => strSliceX x lo hi mx fun v => k (.one (.c v)) st.objs
      | .array n e => match G.ty e with
        | some E => sliceArrX E.size n st.objs x lo hi mx fun v => k (.one (.c v)) st.objs
        | none => False
      | _ => False
    | _, _, _, _, _ => False
  | .extract t i =>
    match st.eval t with
    | .tup vs => match vs[i]? with
      | some v => k (.one v) st.objs
      | none => False
    | _ => False
  | .makeMap t none =>
    match mapTy G.ty t with
    | some (n, _) => k (.one (.c (.mp st.objs.length 0))) (st.objs ++ [(0, .map n [])])
    | none => False
  | .lookup t x ix ok =>
    match mapTy G.ty t, st.eval x, st.eval ix with
    | some (n, E), .one (.c x), .one (.agg ix) => lookupX n E st.objs x ix ok fun v => k v st.objs
    | _, _, _ => False
  | .mapUpdate t x ix v =>
    match mapTy G.ty t, st.eval x, st.eval ix, st.eval v with
    | some (n, _), .one (.c x), .one (.agg ix), .one v => updX n st.objs x ix v fun objs' => k .un objs'
    | _, _, _, _ => False
  | .makeFunc (.func f) fst caps =>
    match capsX st caps.toList with
    | some cs => chkP (fst.size = 0) <| k (.one (.c (.fn f cs))) st.objs
    | none => False
  | .call cl => callOpX G cl st k
  | _ => False

def boolOfSV : SV → Option Bool
  | .one (.c (.d (.v (.bool b)))) => some b
  | _ => none

/-- The value of an operation that did not come up. -/
def isUnd : SV → Bool
  | .tup [] => true
  | _ => false

def dstOK (d : Option Tmp) (n : Nat) : Bool :=
  match d with
  | some d => Nat.blt d n
  | none => true

def putE (d : Option Tmp) (v : SV) (env : List (Nat × SV)) : List (Nat × SV) :=
  match d with
  | some d => (d, v) :: env
  | none => env

/-- What an operation hands on, laid open. -/
def handX (o : Oper) (env : List (Nat × SV)) (n : Nat) (v : SV) (objs : Objs) (K : St → Prop) : Prop :=
  fSV v fun v => fObjs objs fun objs =>
    match o.dst with
    | some d => K ⟨(d, v) :: env, objs, n⟩
    | none => K ⟨env, objs, n⟩

theorem handX_eq (o : Oper) (env : List (Nat × SV)) (n : Nat) (v : SV) (objs : Objs) (K : St → Prop) : handX o env n v objs K = K ⟨putE o.dst v env, objs, n⟩ := by
  unfold handX; rw [fSV_eq, fObjs_eq]; unfold putE; split <;> rfl

/-- Operations, one after the other. -/
def opsX (G : Gen) (all : List Oper) : List Oper → St → (St → Prop) → Prop
  | [], st, k => k st
  | o :: r, ⟨env, objs, n⟩, k =>
    match dstOK o.dst n with
    | false => False
    | true =>
      match o.guard with
      | none => opX G o ⟨env, objs, n⟩ fun v objs => handX o env n v objs fun st => opsX G all r st k
      | some (j, want) =>
        match (all[j]?).bind (·.dst) with
        | some d =>
          match boolOfSV (if d < n then getE env d else .un) with
          | some b => Gd b want (opX G o ⟨(d, .one (.c (vB want))) :: env, objs, n⟩ fun v objs => handX o ((d, .one (.c (vB want))) :: env) n v objs fun st => opsX G all r st k)
              (opsX G all r ⟨putE o.dst (.tup []) ((d, .one (.c (vB (!want)))) :: env), objs, n⟩ k)
          | none => match isUnd (if d < n then getE env d else .un) with
            | true => opsX G all r ⟨putE o.dst (.tup []) env, objs, n⟩ k
            | false => False
        | none => False

/-- An operation that only looks: whenever it comes up, it yields the same. -/
def quietOp (o : Oper) : Bool :=
  match o.op with
  | .move _ => true
  | .assign _ => true
  | .pick _ _ _ => true
  | .load _ _ => true
  | .binOp _ _ _ _ _ => true
  | .unOp _ _ _ => true
  | .fieldAddr _ _ _ => true
  | .indexAddr _ _ _ => true
  | .slice _ _ _ _ _ => true
  | .makeFunc _ _ _ => true
  | .call cl => match cl.callee with
    | .builtin .len => true
    | _ => false
  | _ => false

/-- A guard's two ways. -/
def grdX (all : List Oper) (o : Oper) (env : List (Nat × SV)) (n : Nat) (run skip : List (Nat × SV) → Prop) : Prop :=
  match o.guard with
  | none => run env
  | some (j, want) =>
    match (all[j]?).bind (·.dst) with
    | some d =>
      match boolOfSV (if d < n then getE env d else .un) with
      | some b => Gd b want (run ((d, .one (.c (vB want))) :: env)) (skip ((d, .one (.c (vB (!want)))) :: env))
      | none => match isUnd (if d < n then getE env d else .un) with
        | true => skip env
        | false => False
    | none => False

def callPX (G : Gen) (o : Oper) (st : St) (k : SV → Objs → Prop) : Prop :=
  match o.op with
  | .call cl =>
    match argsX st cl.args.toList with
    | some args =>
      match cl.callee with
      | .value f =>
        match st.eval f with
        | .one (.c (.fn f caps)) => CallP G.P f (args ++ caps.map fun (o, ver, off) => .c (.ptr o ver off)) st.objs k
        | _ => False
      | _ => False
    | none => False
  | _ => False

/-- In which orders a region's operations are looked at. -/
inductive Plan where
  | done
  | take (i : Nat) (p : Plan)
  | one (i : Nat) (p : Plan)
  | two (i : Nat) (p : Plan) (j : Nat) (q : Plan)
  | three (i : Nat) (p : Plan) (j : Nat) (q : Plan) (l : Nat) (r : Plan)

def getO : List Oper → Nat → Option Oper
  | [], _ => none
  | o :: _, 0 => some o
  | _ :: r, i + 1 => getO r i

theorem getO_eq : ∀ (l : List Oper) (i : Nat), getO l i = l[i]?
  | [], i => by simp [getO]
  | o :: r, 0 => rfl
  | o :: r, i + 1 => by simp [getO, getO_eq r i]

def inL (i : Nat) : List Nat → Bool
  | [] => false
  | j :: r => match Nat.beq i j with
    | true => true
    | false => inL i r

def waitsL (listed : List Nat) : List Edge → Bool
  | [] => true
  | e :: r => match Region.binds .any e with
    | true => match inL e.on listed with
      | true => waitsL listed r
      | false => false
    | false => waitsL listed r

def readyL (listed : List Nat) : List Oper → Nat → List Nat
  | [], _ => []
  | o :: r, i => match inL i listed with
    | true => readyL listed r (i + 1)
    | false => match waitsL listed o.after.toList with
      | true => i :: readyL listed r (i + 1)
      | false => readyL listed r (i + 1)

def pickL (ops : List Oper) : List Nat → Option Nat
  | [] => none
  | i :: r => match getO ops i with
    | some o => match quietOp o with
      | true => some i
      | false => pickL ops r
    | none => pickL ops r

def mkPlanL (ops : List Oper) : Nat → List Nat → Plan
  | 0, _ => .done
  | fuel + 1, listed =>
    match readyL listed ops 0 with
    | [] => .done
    | i0 :: is => match pickL ops (i0 :: is) with
      | some i => .take i (mkPlanL ops fuel (i :: listed))
      | none => match is with
        | [] => .one i0 (mkPlanL ops fuel (i0 :: listed))
        | j :: _ => .two i0 (mkPlanL ops fuel (i0 :: listed)) j (mkPlanL ops fuel (j :: listed))

def mkPlan (ops : Array Oper) : Plan := mkPlanL ops.toList ops.toList.length []

/-- A plan leaves no order out. -/
def planOK (ops : Array Oper) : Nat → Array Bool → Plan → Bool
  | _, listed, .done => (Region.ready .any ops listed).isEmpty
  | 0, _, _ => false
  | fuel + 1, listed, .take i p => Region.free .any ops listed i && (Region.ready .any ops listed).contains i && planOK ops fuel (listed.setIfInBounds i true) p
  | fuel + 1, listed, .one i p => (Region.ready .any ops listed == [i]) && planOK ops fuel (listed.setIfInBounds i true) p
  | fuel + 1, listed, .two i p j q => (Region.ready .any ops listed == [i, j]) && planOK ops fuel (listed.setIfInBounds i true) p && planOK ops fuel (listed.setIfInBounds j true) q
  | fuel + 1, listed, .three i p j q l r => (Region.ready .any ops listed == [i, j, l]) && planOK ops fuel (listed.setIfInBounds i true) p && planOK ops fuel (listed.setIfInBounds j true) q && planOK ops fuel (listed.setIfInBounds l true) r

/-- Operations in the orders of a plan. -/
def runP (G : Gen) (ops : List Oper) : Plan → St → (St → Prop) → Prop
  | .done, st, k => k st
  | .take i p, ⟨env, objs, n⟩, k => match getO ops i with
    | some o => chkP (dstOK o.dst n = true ∧ quietOp o = true) <|
        grdX ops o env n (fun env => opX G o ⟨env, objs, n⟩ fun v _ => handX o env n v objs fun st => runP G ops p st k) (fun env => runP G ops p ⟨putE o.dst (.tup []) env, objs, n⟩ k)
    | none => False
  | .one i p, ⟨env, objs, n⟩, k => match getO ops i with
    | some o => chkP (dstOK o.dst n = true) <|
        grdX ops o env n (fun env => callPX G o ⟨env, objs, n⟩ fun v objs => handX o env n v objs fun st => runP G ops p st k) (fun env => runP G ops p ⟨putE o.dst (.tup []) env, objs, n⟩ k)
    | none => False
  | .two i p j q, ⟨env, objs, n⟩, k =>
    (match getO ops i with
    | some o => chkP (dstOK o.dst n = true) <|
        grdX ops o env n (fun env => callPX G o ⟨env, objs, n⟩ fun v objs => handX o env n v objs fun st => runP G ops p st k) (fun env => runP G ops p ⟨putE o.dst (.tup []) env, objs, n⟩ k)
    | none => False) ∧
    (match getO ops j with
    | some o => chkP (dstOK o.dst n = true) <|
        grdX ops o env n (fun env => callPX G o ⟨env, objs, n⟩ fun v objs => handX o env n v objs fun st => runP G ops q st k) (fun env => runP G ops q ⟨putE o.dst (.tup []) env, objs, n⟩ k)
    | none => False)
  | .three _ _ _ _ _ _, _, _ => False

/-- An operation that asks no memory. -/
def pureOp (o : Oper) : Bool :=
  match o.op with
  | .move _ => true
  | .assign _ => true
  | .pick _ _ _ => true
  | _ => false

def pickW (ops : List Oper) : List Nat → Option Nat
  | [] => none
  | i :: r => match getO ops i with
    | some o => match pureOp o with
      | true => some i
      | false => pickW ops r
    | none => pickW ops r

def mkPlanW (ops : List Oper) : Nat → List Nat → Plan
  | 0, _ => .done
  | fuel + 1, listed =>
    match readyL listed ops 0 with
    | [] => .done
    | i0 :: is => match pickW ops (i0 :: is) with
      | some i => .take i (mkPlanW ops fuel (i :: listed))
      | none => match is with
        | [] => .one i0 (mkPlanW ops fuel (i0 :: listed))
        | [j] => .two i0 (mkPlanW ops fuel (i0 :: listed)) j (mkPlanW ops fuel (j :: listed))
        | j :: l :: _ => .three i0 (mkPlanW ops fuel (i0 :: listed)) j (mkPlanW ops fuel (j :: listed)) l (mkPlanW ops fuel (l :: listed))

def planW (ops : Array Oper) : Plan := mkPlanW ops.toList ops.toList.length []

/-- Operations in the orders of a plan, whichever they are. -/
def runW (G : Gen) (ops : List Oper) : Plan → St → (St → Prop) → Prop
  | .done, st, k => k st
  | .take i p, ⟨env, objs, n⟩, k => match getO ops i with
    | some o => chkP (dstOK o.dst n = true ∧ pureOp o = true) <|
        grdX ops o env n (fun env => opX G o ⟨env, objs, n⟩ fun v _ => handX o env n v objs fun st => runW G ops p st k) (fun env => runW G ops p ⟨putE o.dst (.tup []) env, objs, n⟩ k)
    | none => False
  | .one i p, ⟨env, objs, n⟩, k => match getO ops i with
    | some o => chkP (dstOK o.dst n = true) <|
        grdX ops o env n (fun env => opX G o ⟨env, objs, n⟩ fun v objs => handX o env n v objs fun st => runW G ops p st k) (fun env => runW G ops p ⟨putE o.dst (.tup []) env, objs, n⟩ k)
    | none => False
  | .two i p j q, ⟨env, objs, n⟩, k =>
    (match getO ops i with
    | some o => chkP (dstOK o.dst n = true) <|
        grdX ops o env n (fun env => opX G o ⟨env, objs, n⟩ fun v objs => handX o env n v objs fun st => runW G ops p st k) (fun env => runW G ops p ⟨putE o.dst (.tup []) env, objs, n⟩ k)
    | none => False) ∧
    (match getO ops j with
    | some o => chkP (dstOK o.dst n = true) <|
        grdX ops o env n (fun env => opX G o ⟨env, objs, n⟩ fun v objs => handX o env n v objs fun st => runW G ops q st k) (fun env => runW G ops q ⟨putE o.dst (.tup []) env, objs, n⟩ k)
    | none => False)
  | .three i p j q l r, ⟨env, objs, n⟩, k =>
    (match getO ops i with
    | some o => chkP (dstOK o.dst n = true) <|
        grdX ops o env n (fun env => opX G o ⟨env, objs, n⟩ fun v objs => handX o env n v objs fun st => runW G ops p st k) (fun env => runW G ops p ⟨putE o.dst (.tup []) env, objs, n⟩ k)
    | none => False) ∧
    (match getO ops j with
    | some o => chkP (dstOK o.dst n = true) <|
        grdX ops o env n (fun env => opX G o ⟨env, objs, n⟩ fun v objs => handX o env n v objs fun st => runW G ops q st k) (fun env => runW G ops q ⟨putE o.dst (.tup []) env, objs, n⟩ k)
    | none => False) ∧
    (match getO ops l with
    | some o => chkP (dstOK o.dst n = true) <|
        grdX ops o env n (fun env => opX G o ⟨env, objs, n⟩ fun v objs => handX o env n v objs fun st => runW G ops r st k) (fun env => runW G ops r ⟨putE o.dst (.tup []) env, objs, n⟩ k)
    | none => False)

/-- An operation whose value asks no memory. -/
def pureF (o : Oper) : Bool :=
  match o.op with
  | .move _ => true
  | .assign _ => true
  | .pick _ _ _ => true
  | .binOp _ _ _ _ _ => true
  | .unOp _ _ _ => true
  | .build _ _ => true
  | .field _ _ _ => true
  | .extract _ _ => true
  | _ => false

/-- An operation that lays something new or adds to it. -/
def loudOp (o : Oper) : Bool :=
  match o.op with
  | .alloc _ => true
  | .box _ _ => true
  | .buildSlice _ _ _ => true
  | .call cl => match cl.callee with
    | .builtin _ => true
    | _ => false
  | _ => false

/-- What a plan of quiet operations and calls does not do. -/
def loudAny (o : Oper) : Bool :=
  match quietOp o with
  | true => false
  | false => match o.op with
    | .call cl => match cl.callee with
      | .value _ => false
      | _ => true
    | _ => true

def hasLoud : List Oper → Bool
  | [] => false
  | o :: r => match loudAny o with
    | true => true
    | false => hasLoud r

def fzOB : OB → OB
  | .dead => .dead
  | .fro r b => .fro r b
  | b => .fro false b

/-- The first n objects, frozen. -/
def fzN : Nat → Objs → Objs
  | 0, l => l
  | _ + 1, [] => []
  | n + 1, (v, b) :: r => (v, fzOB b) :: fzN n r

def deadB : OB → Bool
  | .dead => true
  | _ => false

/-- The first n objects are there as before. -/
def samePre : Nat → Objs → Objs → Bool
  | 0, _, _ => true
  | n + 1, (v, _) :: r, (v', b') :: r' => match Nat.beq v v' with
    | true => match deadB b' with
      | true => false
      | false => samePre n r r'
    | false => false
  | _, _, _ => false

/-- Which of a region's operations stores first. -/
def tailAt : List Oper → Nat
  | [] => 0
  | o :: r => match o.op with
    | .store _ _ _ => 0
    | _ => tailAt r + 1

def hasEdge (i : Nat) : List Edge → Bool
  | [] => false
  | e :: r => match Region.binds .any e with
    | true => match Nat.beq e.on i with
      | true => true
      | false => hasEdge i r
    | false => hasEdge i r

/-- All operations from number t0 on wait for number i. -/
def waitsAll (t0 i : Nat) : List Oper → Nat → Bool
  | [], _ => true
  | o :: r, j => match Nat.blt j t0 with
    | true => waitsAll t0 i r (j + 1)
    | false => match hasEdge i o.after.toList with
      | true => waitsAll t0 i r (j + 1)
      | false => false

def pureAt (ops : List Oper) (i : Nat) : Bool :=
  match getO ops i with
  | some o => pureF o
  | none => false

def allTail (ops : List Oper) (t0 : Nat) : Nat → Bool
  | 0 => true
  | i + 1 => match pureAt ops i with
    | true => allTail ops t0 i
    | false => match waitsAll t0 i ops 0 with
      | true => allTail ops t0 i
      | false => false

def pickF (early : Bool) (t0 : Nat) (ops : List Oper) : List Nat → Option Nat
  | [] => none
  | i :: r => match getO ops i with
    | some o => match Nat.blt i t0 with
      | false => pickF early t0 ops r
      | true => match pureF o with
        | true => some i
        | false => match early with
          | true => match quietOp o with
            | true => some i
            | false => pickF early t0 ops r
          | false => pickF early t0 ops r
    | none => pickF early t0 ops r

def mkPlanF (t0 : Nat) (ops : List Oper) : Nat → Bool → List Nat → Plan
  | 0, _, _ => .done
  | fuel + 1, early, listed =>
    match readyL listed ops 0 with
    | [] => .done
    | i0 :: is => match pickF early t0 ops (i0 :: is) with
      | some i => .take i (mkPlanF t0 ops fuel early (i :: listed))
      | none => match is with
        | [] => .one i0 (mkPlanF t0 ops fuel false (i0 :: listed))
        | [j] => .two i0 (mkPlanF t0 ops fuel false (i0 :: listed)) j (mkPlanF t0 ops fuel false (j :: listed))
        | j :: l :: _ => .three i0 (mkPlanF t0 ops fuel false (i0 :: listed)) j (mkPlanF t0 ops fuel false (j :: listed)) l (mkPlanF t0 ops fuel false (l :: listed))

def planF (ops : Array Oper) : Plan := mkPlanF (tailAt ops.toList) ops.toList ops.toList.length true []

/-- Two things to be shown, each laid open anew. -/
structure Both (p q : Prop) : Prop where
  fst : p
  snd : q

def loudF (G : Gen) (o : Oper) (n0 : Nat) (env : List (Nat × SV)) (objs : Objs) (n : Nat) (k : SV → Objs → Prop) : Prop :=
  match loudOp o with
  | true => Both (fObjs (fzN n0 objs) fun fo => opX G o ⟨env, fo, n⟩ (fun _ _ => True)) (opX G o ⟨env, objs, n⟩ fun v objs' => chkP (samePre n0 objs objs' = true) <| k v objs')
  | false => callPX G o ⟨env, objs, n⟩ fun v objs' => chkP (samePre n0 objs objs' = true) <| k v objs'

/-- One operation that is not taken first. -/
def stepF (G : Gen) (ops : List Oper) (n0 t0 : Nat) (tl : Bool) (i : Nat) (env : List (Nat × SV)) (objs : Objs) (n : Nat) (next : Bool → St → Prop) : Prop :=
  match getO ops i with
  | some o => chkP (dstOK o.dst n = true) <| match Nat.blt i t0 with
    | true => match tl with
      | true => False
      | false => grdX ops o env n (fun env => loudF G o n0 env objs n fun v objs => handX o env n v objs fun st => next false st) (fun env => next false ⟨putE o.dst (.tup []) env, objs, n⟩)
    | false => grdX ops o env n (fun env => opX G o ⟨env, objs, n⟩ fun v objs => handX o env n v objs fun st => next true st) (fun env => next true ⟨putE o.dst (.tup []) env, objs, n⟩)
  | none => False

/-- Operations in the orders of a plan: what is of the region's own may be added to; those from number t0 on come last. -/
def runF (G : Gen) (ops : List Oper) (n0 t0 : Nat) : Plan → Bool → Bool → St → (St → Prop) → Prop
  | .done, _, _, st, k => k st
  | .take i p, early, tl, ⟨env, objs, n⟩, k => match getO ops i with
    | some o => chkP (dstOK o.dst n = true ∧ (pureF o || (early && quietOp o)) = true ∧ tl = false ∧ Nat.blt i t0 = true) <|
        grdX ops o env n (fun env => opX G o ⟨env, objs, n⟩ fun v _ => handX o env n v objs fun st => runF G ops n0 t0 p early tl st k) (fun env => runF G ops n0 t0 p early tl ⟨putE o.dst (.tup []) env, objs, n⟩ k)
    | none => False
  | .one i p, _, tl, ⟨env, objs, n⟩, k => stepF G ops n0 t0 tl i env objs n fun tl st => runF G ops n0 t0 p false tl st k
  | .two i p j q, _, tl, ⟨env, objs, n⟩, k => Both
      (stepF G ops n0 t0 tl i env objs n fun tl st => runF G ops n0 t0 p false tl st k)
      (stepF G ops n0 t0 tl j env objs n fun tl st => runF G ops n0 t0 q false tl st k)
  | .three i p j q l r, _, tl, ⟨env, objs, n⟩, k => Both
      (stepF G ops n0 t0 tl i env objs n fun tl st => runF G ops n0 t0 p false tl st k) (Both
      (stepF G ops n0 t0 tl j env objs n fun tl st => runF G ops n0 t0 q false tl st k)
      (stepF G ops n0 t0 tl l env objs n fun tl st => runF G ops n0 t0 r false tl st k))

structure Rel (c : Ctx) (st : St) (a : Act) (w : World) : Prop where
  objs : RelObjs c st.objs w
  env : ∀ t, t < st.n → ∃ v, a.tmps[t]? = some v ∧ RelSV c st.objs w (getE st.env t) v
  size : a.tmps.size = st.n
  defers : a.defers = []

/-- What the state st says of a world, S says, too (with other blocks for its objects, if need be). -/
def Weak (n0 : Nat) (st S : St) : Prop :=
  ∀ (c : Ctx) (a : Act) (w : World), Rel c st a w → ∃ c', Ext n0 c st.objs w c' S.objs w ∧ Rel c' S a w

theorem Weak.refl (n : Nat) (st : St) : Weak n st st := fun c _ w hr => ⟨c, Ext.refl _ _ _ _, hr⟩

/-- A region that draws its order. Whatever the order, what is known behind it may be said by one state. -/
structure DrawR (G : Gen) (ops : Array Oper) (st : St) (k : St → Prop) : Prop where
  sel : Region.noSelect ops = true
  plan : ∃ (k' : St → Prop) (p : Plan), (∀ st', k' st' → ∃ S, Weak st.objs.length st' S ∧ k S) ∧ planOK ops ops.size (Array.replicate ops.size false) p = true ∧
    (runP G ops.toList p st k' ∨ runW G ops.toList p st k' ∨ (allTail ops.toList (tailAt ops.toList) (tailAt ops.toList) = true ∧ runF G ops.toList st.objs.length (tailAt ops.toList) p true false st k'))

theorem draw_mk {G : Gen} {ops : Array Oper} {st : St} {k : St → Prop} (h : (Region.noSelect ops && planOK ops ops.size (Array.replicate ops.size false) (mkPlan ops)) = true) (g : runP G ops.toList (mkPlan ops) st k) : DrawR G ops st k := by
  rw [Bool.and_eq_true] at h
  exact ⟨h.1, k, _, fun st' h => ⟨st', Weak.refl _ _, h⟩, h.2, .inl g⟩

theorem draw_mkW {G : Gen} {ops : Array Oper} {st : St} {k : St → Prop} (h : (Region.noSelect ops && planOK ops ops.size (Array.replicate ops.size false) (planW ops)) = true) (g : runW G ops.toList (planW ops) st k) : DrawR G ops st k := by
  rw [Bool.and_eq_true] at h
  exact ⟨h.1, k, _, fun st' h => ⟨st', Weak.refl _ _, h⟩, h.2, .inr (.inl g)⟩

theorem draw_mkF {G : Gen} {ops : Array Oper} {st : St} {k : St → Prop} (_hl : hasLoud ops.toList = true) (h : (Region.noSelect ops && (planOK ops ops.size (Array.replicate ops.size false) (planF ops) && allTail ops.toList (tailAt ops.toList) (tailAt ops.toList))) = true)
    (g : runF G ops.toList st.objs.length (tailAt ops.toList) (planF ops) true false st k) : DrawR G ops st k := by
  rw [Bool.and_eq_true, Bool.and_eq_true] at h
  exact ⟨h.1, k, _, fun st' h => ⟨st', Weak.refl _ _, h⟩, h.2.1, .inr (.inr ⟨h.2.2, g⟩)⟩

/-- The state behind a region, so far as it is known. -/
structure Joins (n : Nat) (st S : St) : Prop where
  weak : Weak n st S

theorem Joins.rfl' {n : Nat} {st : St} : Joins n st st := ⟨Weak.refl _ _⟩

theorem draw_joinF {G : Gen} {ops : Array Oper} {st S : St} {k : St → Prop} (_hl : hasLoud ops.toList = true) (h : (Region.noSelect ops && (planOK ops ops.size (Array.replicate ops.size false) (planF ops) && allTail ops.toList (tailAt ops.toList) (tailAt ops.toList))) = true)
    (g : runF G ops.toList st.objs.length (tailAt ops.toList) (planF ops) true false st fun st' => Joins st.objs.length st' S) (hk : k S) : DrawR G ops st k := by
  rw [Bool.and_eq_true, Bool.and_eq_true] at h
  exact ⟨h.1, _, _, fun st' h => ⟨S, h.weak, hk⟩, h.2.1, .inr (.inr ⟨h.2.2, g⟩)⟩

theorem draw_joinW {G : Gen} {ops : Array Oper} {st S : St} {k : St → Prop} (h : (Region.noSelect ops && planOK ops ops.size (Array.replicate ops.size false) (planW ops)) = true)
    (g : runW G ops.toList (planW ops) st fun st' => Joins st.objs.length st' S) (hk : k S) : DrawR G ops st k := by
  rw [Bool.and_eq_true] at h
  exact ⟨h.1, _, _, fun st' h => ⟨S, h.weak, hk⟩, h.2, .inr (.inl g)⟩

theorem draw_join {G : Gen} {ops : Array Oper} {st S : St} {k : St → Prop} (h : (Region.noSelect ops && planOK ops ops.size (Array.replicate ops.size false) (mkPlan ops)) = true)
    (g : runP G ops.toList (mkPlan ops) st fun st' => Joins st.objs.length st' S) (hk : k S) : DrawR G ops st k := by
  rw [Bool.and_eq_true] at h
  exact ⟨h.1, _, _, fun st' h => ⟨S, h.weak, hk⟩, h.2, .inl g⟩

inductive AExit where
  | normal
  | exit (id : Nat)
  | ret

/-- So many rounds at most, each one told. -/
def iterX (run : St → (AExit → St → Prop) → Prop) : Nat → St → (AExit → St → Prop) → Prop
  | 0, _, _ => False
  | n + 1, st, Q => run st fun e st' => match e with
    | .normal => iterX run n st' Q
    | e => Q e st'

/-- What a loop asks: rounds with a measure, or so many of them. -/
def loopX (n0 : Nat) (run : St → (AExit → St → Prop) → Prop) (st : St) (Q : AExit → St → Prop) : Prop :=
  (∃ (α : Type) (m : α → Nat) (I : α → Prop) (S : α → St) (x0 : α), I x0 ∧ Weak n0 st (S x0) ∧
      ∀ x, I x → run (S x) fun e st' => match e with
        | .normal => ∃ x', I x' ∧ m x' < m x ∧ Weak n0 st' (S x')
        | e => Q e st') ∨ ∃ n, iterX run n st Q

noncomputable def codeX (G : Gen) (n0 : Nat) (cd : Code) : St → (AExit → St → Prop) → Prop :=
  Code.rec (motive := fun _ => St → (AExit → St → Prop) → Prop)
    (fun st Q => Q .normal st)
    (fun _ ops draw st Q => match draw with
      | false => opsX G ops.toList ops.toList st fun st' => Q .normal st'
      | true => DrawR G ops st fun st' => Q .normal st')
    (fun _ _ iha ihb st Q => iha st fun e st' => match e with
      | .normal => ihb st' Q
      | e => Q e st')
    (fun c _ _ iha ihb st Q => match boolOfSV (st.eval c) with
      | some t => Br t (iha st Q) (ihb st Q)
      | none => False)
    (fun id _ ih st Q => ih st fun e st' => match e with
      | .exit i => if i = id then Q .normal st' else Q (.exit i) st'
      | e => Q e st')
    (fun _ ih st Q => loopX n0 ih st Q)
    (fun _ _ _ _ _ _ _ _ => False)
    (fun id st Q => Q (.exit id) st)
    (fun _ _ _ _ => False)
    (fun _ st Q => Q .normal st)
    (fun _ _ _ => False)
    (fun st Q => Q .ret st)
    (fun _ _ _ => False)
    cd

theorem codeX_region {G : Gen} {n0 id : Nat} {ops : Array Oper} {draw : Bool} {st : St} {Q : AExit → St → Prop} : codeX G n0 (.region id ops draw) st Q = (match draw with
    | false => opsX G ops.toList ops.toList st fun st' => Q .normal st'
    | true => DrawR G ops st fun st' => Q .normal st') := rfl

theorem codeX_cond {G : Gen} {n0 : Nat} {c : Operand} {a b : Code} {st : St} {Q : AExit → St → Prop} : codeX G n0 (.cond c a b) st Q = (match boolOfSV (st.eval c) with
    | some t => Br t (codeX G n0 a st Q) (codeX G n0 b st Q)
    | none => False) := rfl

theorem codeX_loop {G : Gen} {n0 : Nat} {b : Code} {st : St} {Q : AExit → St → Prop} : codeX G n0 (.loop b) st Q = loopX n0 (codeX G n0 b) st Q := rfl

def resOneX (G : Gen) (st : St) (r : ResultVar) (K : V1 → Prop) : Prop :=
  match r with
  | .tmp t => match st.eval (.tmp t) with
    | .one v => K v
    | _ => False
  | .cell a t => match G.ty t, st.eval (.tmp a) with
    | some T, .one (.c x) => loadX T st.objs x K
    | _, _ => False

def resX (G : Gen) (st : St) : List ResultVar → (List V1 → Prop) → Prop
  | [], K => K []
  | r :: rs, K => resOneX G st r fun v => resX G st rs fun vs => K (v :: vs)

def svOf : List V1 → SV
  | [v] => .one v
  | vs => .tup vs

def envOf : Nat → List V1 → List (Nat × SV)
  | _, [] => []
  | n, v :: r => (n, .one v) :: envOf (n + 1) r

/-- A body, from these arguments and objects. -/
def bodyX (G : Gen) (fn : Func) (c : Code) (args : List V1) (objs : Objs) (K : SV → Objs → Prop) : Prop :=
  codeX G objs.length c { env := envOf 0 args, objs := objs, n := fn.ntmps } fun e st' =>
    match e with
    | .exit _ => False
    | _ => resX G st' fn.results.toList fun vs => fSV (svOf vs) fun sv => fObjs st'.objs fun objs => K sv objs


end Go.Proofs.Ytbmaofepmheeeaa
