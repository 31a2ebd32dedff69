/- The evaluator: what an operation, a region, a piece of code asks, as propositions over states. -/
import Derived.Test.YtcfkendgjinmiaaVA
set_option linter.unusedVariables false
namespace Go.Proofs.Ytcfkendgjinmiaa
open Go.RowKit

inductive TK where
  | int (k : IntKind) | bool | str | slice (e : Nat) | ptr (e : Nat) | struct (fs : List (Nat × Nat)) | array (n e : Nat)
  | func | iface | map (k e : Nat) | tuple | other
structure TI where
  k : TK
  size : Nat
  bytes : Nat
  zero : List Value
instance : Inhabited TI := ⟨⟨.other, 0, 0, []⟩⟩
abbrev Tab := Nat → TI
def nth {α : Type} (d : α) : List α → Nat → α
  | [], _ => d
  | x :: _, 0 => x
  | _ :: r, n + 1 => nth d r n
def tabOf (l : List TI) : Tab := nth default l

def DescOk : TK → TypeDesc → Prop
  | .int k, d => d = .int k
  | .bool, d => d = .bool
  | .str, d => d = .string
  | .slice e, d => d = .slice e
  | .ptr e, d => d = .pointer e
  | .struct fs, d => ∃ fields, d = .struct fields ∧ fields.toList.map (fun f => (f.offset, f.type)) = fs
  | .array n e, d => d = .array n e
  | .func, d => ∃ a b c, d = .func a b c
  | .iface, d => ∃ ms, d = .interface ms
  | .map k e, d => d = .map k e
  | .tuple, d => ∃ es, d = .tuple es
  | .other, _ => True
/-- What a table tells of a program's types is so. -/
def TabOk (P : Program) (T : Tab) : Prop :=
  ∀ t, (∃ i z, P.info? t = some i ∧ i.size = (T t).size ∧ i.bytes = (T t).bytes ∧ i.zero = some z ∧ z.cells.toList = (T t).zero ∧ ∃ d, P.underlying t = some d ∧ DescOk (T t).k d ∧ (T t).zero.length = (T t).size) ∨ (T t).k = .other

def V.const : Value → V
  | .int k n => .int k n
  | .bool b => .bool b
  | .string s => .str s
  | .nilIface => .nili
  | .nilFunc => .nilf
  | .slice none 0 0 => .snil
  | .pointer none => .nilp
  | _ => .any
/-- One cell's value for sure. -/
def V.one : V → Bool
  | .any | .agg _ | .tup _ | .opt _ _ => false
  | _ => true

def ev (s : St) : Operand → V
  | .tmp i => s.get i
  | .const v => V.const v
  | .func f => .fn (.func f) [] []
  | .global _ => .any
/-- A guarded operation looks behind the guard. -/
def argK (g : Option Bool) (v : V) (K : V → Prop) : Prop :=
  match g with
  | none => K v
  | some g => match v with
    | .opt c v => (g = true → c = true) ∧ K v
    | v => K v
def gd (g : Option Bool) (p : Prop) : Prop := match g with | none => p | some g => g = true → p
def gv (g : Option Bool) (v : V) : V := match g with | none => v | some g => .opt g v

def takeK : Nat → List V → (List V → Prop) → Prop
  | 0, _, K => K []
  | n + 1, x :: xs, K => takeK n xs fun r => K (x :: r)
  | _ + 1, [], _ => False
def dropK : Nat → List V → (List V → Prop) → Prop
  | 0, xs, K => K xs
  | n + 1, _ :: xs, K => dropK n xs K
  | _ + 1, [], _ => False
/-- `new` laid over what stands from place `n` on. -/
def putK : Nat → List V → List V → (List V → Prop) → Prop
  | 0, xs, [], K => K xs
  | 0, _ :: xs, y :: ys, K => putK 0 xs ys fun r => K (y :: r)
  | n + 1, x :: xs, ys, K => putK n xs ys fun r => K (x :: r)
  | 0, [], _ :: _, _ => False
  | _ + 1, [], _, _ => False
def allOne : List V → Bool
  | [] => true
  | v :: r => match v.one with | true => allOne r | false => false
def lenIs : List V → Nat → Bool
  | [], 0 => true
  | _ :: r, n + 1 => lenIs r n
  | _, _ => false
/-- The value, looked at (so that what is kept is short). -/
def forceV (v : V) (K : V → Prop) : Prop :=
  match v with
  | .any => K .any
  | .int k n => K (.int k n)
  | .bool b => K (.bool b)
  | .str s => K (.str s)
  | .agg cs => K (.agg cs)
  | .tup vs => K (.tup vs)
  | .snil => K .snil
  | .sl fr sz xs => K (.sl fr sz xs)
  | .osl b sz row n => K (.osl b sz row n)
  | .nilp => K .nilp
  | .ptr b col => K (.ptr b col)
  | .eptr b sz row col => K (.eptr b sz row col)
  | .iptr fr cs => K (.iptr fr cs)
  | .nilf => K .nilf
  | .fn f first cap => K (.fn f first cap)
  | .nili => K .nili
  | .ifc t v => K (.ifc t v)
  | .opt c v => K (.opt c v)
  | .ubool => K .ubool
  | .yld b => K (.yld b)
theorem forceV_eq (v : V) (K : V → Prop) : forceV v K = K v := by cases v <;> rfl
def forceN (n : Nat) (K : Nat → Prop) : Prop :=
  match n with
  | 0 => K 0 | 1 => K 1 | 2 => K 2 | 3 => K 3 | 4 => K 4 | 5 => K 5 | 6 => K 6 | 7 => K 7 | 8 => K 8 | 9 => K 9 | 10 => K 10
  | 11 => K 11 | 12 => K 12 | 13 => K 13 | 14 => K 14 | 15 => K 15 | 16 => K 16 | 17 => K 17 | 18 => K 18 | 19 => K 19 | 20 => K 20
  | 21 => K 21 | 22 => K 22 | 23 => K 23 | 24 => K 24 | 25 => K 25 | 26 => K 26 | 27 => K 27 | 28 => K 28 | 29 => K 29 | 30 => K 30
  | n => K n
theorem forceN_eq (n : Nat) (K : Nat → Prop) : forceN n K = K n := by unfold forceN; split <;> rfl
def forceH : Heap → (Heap → Prop) → Prop
  | [], K => K []
  | x :: r, K => forceH r fun r => K (x :: r)
theorem forceH_eq : ∀ (h : Heap) (K : Heap → Prop), forceH h K = K h
  | [], _ => rfl
  | x :: r, K => forceH_eq r _
/-- The cells of a value that fills n of them. -/
def cellsK (n : Nat) (v : V) (K : List V → Prop) : Prop :=
  match v with
  | .agg cs => match lenIs cs n with
    | true => match allOne cs with | true => K cs | false => False
    | false => False
  | v => match v.one with
    | true => match Nat.beq n 1 with | true => forceV v fun v => K [v] | false => False
    | false => False
def isAgg : TK → Bool
  | .struct _ | .array _ _ => true
  | _ => false
def known : TK → Bool
  | .other => false
  | _ => true
/-- A type that the table knows. -/
def szK (ti : TI) (K : Nat → Prop) : Prop := match known ti.k with | true => forceN ti.size K | false => False
/-- A value read out of cells. -/
def partK (ti : TI) (cs : List V) (K : V → Prop) : Prop :=
  szK ti fun n => match isAgg ti.k with
  | true => takeK n cs fun r => K (.agg r)
  | false => match cs with
    | v :: _ => K v
    | [] => False

def kEq (a b : IntKind) : Bool := match a, b with
  | .i8, .i8 | .i16, .i16 | .i32, .i32 | .i64, .i64 | .u8, .u8 | .u16, .u16 | .u32, .u32 | .u64, .u64 => true
  | _, _ => false
def binK (tk : TK) (op : BinOp) (a b : V) (K : V → Prop) : Prop :=
  match a, b with
  | .int k x, .int k' y =>
    match op with
    | .shl => 0 ≤ y ∧ K (.int k (k.wrap (x * 2 ^ (min y.toNat k.bits))))
    | .shr => 0 ≤ y ∧ K (.int k (x.fdiv (2 ^ (min y.toNat k.bits))))
    | op => match kEq k k' with
      | false => False
      | true => match op with
        | .add => K (.int k (k.wrap (x + y)))
        | .sub => K (.int k (k.wrap (x - y)))
        | .mul => K (.int k (k.wrap (x * y)))
        | .quo => y ≠ 0 ∧ K (.int k (k.wrap (x.tdiv y)))
        | .rem => y ≠ 0 ∧ K (.int k (x.tmod y))
        | .and => K (.int k (bits .and k x y))
        | .or => K (.int k (bits .or k x y))
        | .xor => K (.int k (bits .xor k x y))
        | .andNot => K (.int k (bits .andNot k x y))
        | .eql => K (.bool (x == y))
        | .neq => K (.bool (x != y))
        | .lss => K (.bool (decide (x < y)))
        | .leq => K (.bool (decide (x ≤ y)))
        | .gtr => K (.bool (decide (y < x)))
        | .geq => K (.bool (decide (y ≤ x)))
        | _ => False
  | .bool x, .bool y => match tk with
    | .bool => match op with
      | .eql => K (.bool (x == y))
      | .neq => K (.bool (x != y))
      | _ => False
    | _ => False
  | .str x, .str y => match op with
    | .eql => K (.bool (x.data.toList == y.data.toList))
    | .neq => K (.bool (x.data.toList != y.data.toList))
    | _ => False
  | _, _ => False
def pickK (c : Bool) (a b : V) (K : V → Prop) : Prop :=
  match c with
  | true => K a
  | false => K b

/-- The rows that a slice shows, and what is read for it. -/
def rowsK (h : Heap) (v : V) (K : Nat → List (List V) → Heap → Prop) : Prop :=
  match v with
  | .sl _ sz xs => K sz xs []
  | .osl b sz row n => match hget h b with
    | some (.arr fr ex ty sz' rows) => (sz' = sz) ∧ n ≤ (rows.drop row).length ∧ K sz ((rows.drop row).take n) [(b, some (.arr fr ex ty sz' rows))]
    | _ => False
  | .snil => ∃ z, K z [] []
  | _ => False
def nilC : Operand → Bool
  | .const v => match v with
    | .slice none _ _ => true
    | _ => false
  | _ => false
/-- Is a slice nil? -/
def nilK (v : V) (K : V → Prop) : Prop :=
  match v with
  | .snil => K .ubool
  | .sl _ _ xs => match xs with
    | [] => K .ubool
    | _ :: _ => K (.bool false)
  | .osl _ _ _ n => match n with
    | 0 => K .ubool
    | _ + 1 => K (.bool false)
  | _ => False

abbrev OK := V → Heap → Heap → Nat → Prop
def evs (g : Option Bool) (s : St) : List Operand → (List V → Prop) → Prop
  | [], K => K []
  | x :: r, K => argK g (ev s x) fun v => evs g s r fun vs => K (v :: vs)
def knownAll (T : Tab) : List (Nat × Nat) → Bool
  | [] => true
  | (_, t) :: r => match known (T t).k with | true => knownAll T r | false => false
def fillK (fs : List (Nat × Nat)) (T : Tab) (cs : List V) (s : St) (g : Option Bool) : List (Nat × Operand) → (List V → Prop) → Prop
  | [], K => K cs
  | (i, x) :: r, K => match Nat.blt i fs.length with
    | true => argK g (ev s x) fun v => cellsK (T (nth (0, 0) fs i).2).size v fun vs => putK (nth (0, 0) fs i).1 cs vs fun cs' => fillK fs T cs' s g r K
    | false => False
def setRow {α : Type} : List α → Nat → α → List α
  | [], _, _ => []
  | _ :: r, 0, y => y :: r
  | x :: r, n + 1, y => x :: setRow r n y
/-- The rows, looked at. -/
def forceR : List (List V) → (List (List V) → Prop) → Prop
  | [], K => K []
  | x :: r, K => forceR r fun r => K (x :: r)
theorem forceR_eq : ∀ (h : List (List V)) (K : List (List V) → Prop), forceR h K = K h
  | [], _ => rfl
  | x :: r, K => forceR_eq r _
def fillRowsK (sz : Nat) (rows : List (List V)) (s : St) (g : Option Bool) : List (Nat × Operand) → (List (List V) → Prop) → Prop
  | [], K => forceR rows K
  | (i, x) :: r, K => match Nat.blt i rows.length with
    | true => argK g (ev s x) fun v => cellsK sz v fun vs => fillRowsK sz (setRow rows i vs) s g r K
    | false => False
def rep {α : Type} (x : α) : Nat → List α
  | 0 => []
  | n + 1 => x :: rep x n
def constsK : List Value → (List V → Prop) → Prop
  | [], K => K []
  | v :: r, K => match (V.const v).one with
    | true => forceV (V.const v) fun c => constsK r fun vs => K (c :: vs)
    | false => False

/-- A slice's bound. -/
def bndK (g : Option Bool) (s : St) (x : Option Operand) (K : Nat → Prop → Prop) : Prop :=
  match x with
  | none => K 0 True
  | some x => argK g (ev s x) fun v => match v with
    | .int _ i => K i.toNat (0 ≤ i)
    | _ => False
/-- What an operation that is no call asks. Behind a guard nothing is written. -/
def exec (T : Tab) (s : St) (g : Option Bool) (o : Oper) (K : OK) : Prop :=
  match o.op with
  | .move x | .assign x => argK g (ev s x) fun v => K v [] [] s.nx
  | .pick c a b => argK g (ev s c) fun c => match c with
    | .bool c => pickK c (ev s a) (ev s b) fun v => K v [] [] s.nx
    | _ => False
  | .binOp op t x y _ => match nilC y with
    | true => match (T t).k, op with
      | .slice _, .eql => argK g (ev s x) fun a => nilK a fun v => K v [] [] s.nx
      | _, _ => False
    | false => argK g (ev s x) fun a => argK g (ev s y) fun b => binK (T t).k op a b fun v => K v [] [] s.nx
  | .unOp .not _ x => argK g (ev s x) fun a => match a with
    | .bool b => K (.bool (!b)) [] [] s.nx
    | _ => False
  | .convert t d x => argK g (ev s x) fun a => match a, (T d).k with
    | .int _ n, .int k => szK (T t) fun _ => K (.int k (k.wrap n)) [] [] s.nx
    | a, .str => match (T t).k with
      | .slice e => match (T e).k with
        | .int .u8 => match a with
          | .snil => K (.str ByteArray.empty) [] [] s.nx
          | a => rowsK s.h a fun sz rows rd => sz = 1 ∧ ∃ b : ByteArray, rows = b.data.toList.map (fun x => [V.int .u8 x.toNat]) ∧ K (.str b) rd [] s.nx
        | _ => False
      | _ => False
    | _, _ => False
  | .extract x i => argK g (ev s x) fun a => match a with
    | .tup vs => dropK i vs fun r => match r with
      | v :: _ => K v [] [] s.nx
      | [] => False
    | _ => False
  | .nilCheck x => argK g (ev s x) fun a => match a with
    | .ptr b c => K (.ptr b c) [] [] s.nx
    | .eptr b sz r c => K (.eptr b sz r c) [] [] s.nx
    | .iptr fr cs => K (.iptr fr cs) [] [] s.nx
    | _ => False
  | .fieldAddr t x f => argK g (ev s x) fun a => match (T t).k with
    | .struct fs => match nth (0, 0) fs f with
      | (off, ft) => szK (T ft) fun n => match Nat.beq n 0, Nat.blt f fs.length with
        | false, true => match a with
          | .ptr b c => K (.ptr b (c + off)) [] [] s.nx
          | .eptr b sz r c => K (.eptr b sz r (c + off)) [] [] s.nx
          | .iptr fr cs => dropK off cs fun r => K (.iptr fr r) [] [] s.nx
          | _ => False
        | _, _ => False
    | _ => False
  | .field t x f => argK g (ev s x) fun a => match (T t).k, a with
    | .struct fs, .agg cs => match nth (0, 0) fs f with
      | (off, ft) => match Nat.blt f fs.length with
        | true => dropK off cs fun r => partK (T ft) r fun v => K v [] [] s.nx
        | false => False
    | _, _ => False
  | .indexAddr t x i => argK g (ev s x) fun a => argK g (ev s i) fun i => match (T t).k, a, i with
    | .slice e, .sl fr sz xs, .int _ i => szK (T e) fun n => sz = n ∧ ∃ c, gd g (0 ≤ i ∧ xs[i.toNat]? = some c) ∧ K (.iptr fr c) [] [] s.nx
    | .slice e, .osl b sz row n, .int _ i => szK (T e) fun z => sz = z ∧ gd g (0 ≤ i ∧ i < n) ∧ K (.eptr b sz (row + i.toNat) 0) [] [] s.nx
    | _, _, _ => False
  | .load t x => argK g (ev s x) fun a => match a with
    | .iptr _ cs => partK (T t) cs fun v => K v [] [] s.nx
    | .ptr b c => match hget s.h b with
      | some (.var fr ty cells) => dropK c cells fun r => partK (T t) r fun v => K v [(b, some (.var fr ty cells))] [] s.nx
      | _ => False
    | .eptr b sz row c => match hget s.h b with
      | some (.arr fr ex ty sz' rows) => sz' = sz ∧ ∃ r, rows[row]? = some r ∧ dropK c r fun r => partK (T t) r fun v => K v [(b, some (.arr fr ex ty sz' rows))] [] s.nx
      | _ => False
    | _ => False
  | .store t x y => match g with
    | some _ => False
    | none => szK (T t) fun n => cellsK n (ev s y) fun new => match ev s x with
      | .ptr b c => match hget s.h b with
        | some (.var fr ty cells) => putK c cells new fun cells' => K .any [(b, some (.var fr ty cells))] [(b, some (.var fr ty cells'))] s.nx
        | _ => False
      | .eptr b sz row c => match hget s.h b with
        | some (.arr fr ex ty sz' rows) => sz' = sz ∧ ∃ r, rows[row]? = some r ∧ putK c r new fun r' => K .any [(b, some (.arr fr ex ty sz' rows))] [(b, some (.arr fr ex ty sz' (rows.set row r')))] s.nx
        | _ => False
      | _ => False
  | .alloc e => match g with
    | some _ => False
    | none => szK (T e) fun n => constsK (T e).zero fun cs => match lenIs cs n with
      | true => forceN s.nx fun nx => K (.ptr nx 0) [(nx, none)] [(nx, some (.var true e cs))] (nx + 1)
      | _ => False
  | .box e x => match g with
    | some _ => False
    | none => szK (T e) fun n => cellsK n (ev s x) fun cs => forceN s.nx fun nx => K (.ptr nx 0) [(nx, none)] [(nx, some (.var true e cs))] (nx + 1)
  | .build t parts => match (T t).k with
    | .struct fs => match knownAll T fs with
      | true => constsK (T t).zero fun cs => fillK fs T cs s g parts.toList fun cs => K (.agg cs) [] [] s.nx
      | false => False
    | _ => False
  | .buildSlice t len parts => match g with
    | some _ => False
    | none => match (T t).k with
      | .slice e => szK (T e) fun n => constsK (T e).zero fun cs => match lenIs cs n, Nat.ble (len * n) 1000, Nat.blt 0 n with
        | true, true, true => forceN s.nx fun nx => fillRowsK n (rep cs len) s none parts.toList fun rows => K (.osl nx n 0 len) [(nx, none)] [(nx, some (.arr true true e n rows))] (nx + 1)
        | _, _, _ => False
      | _ => False
  | .makeFunc fn first cap => evs g s first.toList fun vs => evs g s cap.toList fun ws => K (.fn fn vs ws) [] [] s.nx
  | .makeInterface t x => argK g (ev s x) fun a => szK (T t) fun _ => match (T t).k with
    | .iface => False
    | _ => K (.ifc t a) [] [] s.nx
  | .makeSlice t l c => match g with
    | some _ => False
    | none => match (T t).k, ev s l, ev s c with
      | .slice e, .int .i64 l, .int .i64 c => szK (T e) fun n => constsK (T e).zero fun cs => match lenIs cs n, Nat.blt 0 n with
        | true, true => forceN s.nx fun nx => (0 ≤ l ∧ l ≤ c ∧ (T e).bytes * c ≤ 2 ^ 47 ∧ c ≤ 2 ^ 47) ∧ K (.osl nx n 0 l.toNat) [(nx, none)] [(nx, some (.arr true true e n (List.replicate c.toNat cs)))] (nx + 1)
        | _, _ => False
      | _, _, _ => False
  | .slice t x lo hi mx => argK g (ev s x) fun a => bndK g s lo fun l pl => match (T t).k, mx, a with
      | .slice e, none, .sl fr sz xs => szK (T e) fun z => sz = z ∧ match hi with
        | none => gd g (pl ∧ l ≤ xs.length) ∧ K (.sl fr sz (xs.drop l)) [] [] s.nx
        | some hi => bndK g s (some hi) fun h ph => gd g (pl ∧ ph ∧ l ≤ h ∧ h ≤ xs.length) ∧ K (.sl fr sz ((xs.take h).drop l)) [] [] s.nx
      | .slice e, none, .osl b sz row n => szK (T e) fun z => sz = z ∧ match hi with
        | none => gd g (pl ∧ l ≤ n) ∧ K (.osl b sz (row + l) (n - l)) [] [] s.nx
        | some hi => bndK g s (some hi) fun h ph => gd g (pl ∧ ph ∧ l ≤ h ∧ h ≤ n) ∧ K (.osl b sz (row + l) (h - l)) [] [] s.nx
      | .slice e, none, .snil => szK (T e) fun z => match hi with
        | none => gd g (pl ∧ l = 0) ∧ K .snil [] [] s.nx
        | some hi => bndK g s (some hi) fun h ph => gd g (pl ∧ ph ∧ l = 0 ∧ h = 0) ∧ K .snil [] [] s.nx
      | .str, none, .str b => match hi with
        | none => gd g (pl ∧ l ≤ b.size) ∧ K (.str (b.extract l b.size)) [] [] s.nx
        | some hi => bndK g s (some hi) fun h ph => gd g (pl ∧ ph ∧ l ≤ h ∧ h ≤ b.size) ∧ K (.str (b.extract l h)) [] [] s.nx
      | .slice e, some (.tmp mx), .sl fr sz xs => szK (T e) fun z => sz = z ∧ match hi with
        | none => False
        | some hi => bndK g s (some hi) fun h ph => bndK g s (some (.tmp mx)) fun m pm => gd g (pl ∧ ph ∧ pm ∧ l ≤ h ∧ h ≤ m ∧ m ≤ xs.length) ∧ K (.sl fr sz ((xs.take h).drop l)) [] [] s.nx
      | .slice e, some (.const (.int _ 0)), .sl _ _ _ => szK (T e) fun _ => match hi with
        | some (.const (.int _ 0)) => match l with
          | 0 => gd g pl ∧ K .snil [] [] s.nx
          | _ => False
        | _ => False
      | .slice e, some (.const (.int _ 0)), .osl _ _ _ _ => szK (T e) fun _ => match hi with
        | some (.const (.int _ 0)) => match l with
          | 0 => gd g pl ∧ K .snil [] [] s.nx
          | _ => False
        | _ => False
      | .slice e, some (.const (.int _ 0)), .snil => szK (T e) fun _ => match hi with
        | some (.const (.int _ 0)) => match l with
          | 0 => gd g pl ∧ K .snil [] [] s.nx
          | _ => False
        | _ => False
      | _, _, _ => False
  | .call c => match c.callee with
    | .builtin .len => match c.args.toList, c.argTypes.toList with
      | [x], [t] => argK g (ev s x) fun a => match (T t).k, a with
        | .slice _, .sl _ _ xs => gd g (xs.length ≤ maxLen) → K (.int .i64 xs.length) [] [] s.nx
        | .slice _, .osl _ _ _ n => gd g (n ≤ maxLen) → K (.int .i64 n) [] [] s.nx
        | .slice _, .snil => K (.int .i64 0) [] [] s.nx
        | .str, .str b => K (.int .i64 b.size) [] [] s.nx
        | _, _ => False
      | _, _ => False
    | .builtin .min => match c.args.toList with
      | [x, y] => argK g (ev s x) fun a => argK g (ev s y) fun b => match a, b with
        | .int k x, .int _ y => K (.int k (if y < x then y else x)) [] [] s.nx
        | _, _ => False
      | _ => False
    | .builtin .max => match c.args.toList with
      | [x, y] => argK g (ev s x) fun a => argK g (ev s y) fun b => match a, b with
        | .int k x, .int _ y => K (.int k (if x < y then y else x)) [] [] s.nx
        | _, _ => False
      | _ => False
    | .builtin .cap => match c.args.toList, c.argTypes.toList with
      | [x], [t] => argK g (ev s x) fun a => match (T t).k, a with
        | .slice _, .snil => K (.int .i64 0) [] [] s.nx
        | _, _ => False
      | _, _ => False
    | .builtin .copy => match g, c.args.toList, c.argTypes.toList with
      | none, [x, y], [t, t'] => match (T t).k, ev s x with
        | .slice e, .osl b sz row n => match hget s.h b with
          | some (.arr fr ex ty sz' rows) => rowsK s.h (ev s y) fun sz'' ys rd => szK (T e) fun z => (sz = z ∧ sz' = sz ∧ sz'' = sz) ∧ row + n ≤ rows.length ∧
              K (.int .i64 (min ys.length n : Nat)) ((b, some (.arr fr ex ty sz' rows)) :: rd) [(b, some (.arr fr ex ty sz (rows.take row ++ ys.take n ++ rows.drop (row + min ys.length n))))] s.nx
          | _ => False
        | _, _ => False
      | _, _, _ => False
    | .builtin .append => match g, c.args.toList, c.argTypes.toList with
      | none, [x, y], [t, t'] => match (T t).k, (T t').k, ev s x with
        | .slice e, .slice _, .snil => forceN s.nx fun nx => rowsK s.h (ev s y) fun sz ys rd => szK (T e) fun z => (sz = z ∧ 0 < z) ∧ (ys.length * (T e).bytes ≤ 140737488355328 ∧ ys.length ≤ 140737488355328) ∧
            K (.osl nx sz 0 ys.length) ((nx, none) :: rd) [(nx, some (.arr true false e sz ys))] (nx + 1)
        | .slice e, .int _, .snil => match ev s y with
          | .int .i64 m => forceN s.nx fun nx => szK (T e) fun z => constsK (T e).zero fun cs => match lenIs cs z with
            | true => (0 < z ∧ 0 ≤ m ∧ m.toNat * (T e).bytes ≤ 140737488355328 ∧ m.toNat ≤ 140737488355328) ∧ K (.osl nx z 0 m.toNat) [(nx, none)] [(nx, some (.arr true false e z (List.replicate m.toNat cs)))] (nx + 1)
            | false => False
          | _ => False
        | .slice e, .slice _, .osl b sz 0 n => match hget s.h b with
          | some (.arr fr ex ty sz' rows) => forceN s.nx fun nx => rowsK s.h (ev s y) fun sz'' ys rd => szK (T e) fun z => (ty = e ∧ sz = z ∧ sz' = sz ∧ sz'' = sz ∧ 0 < z) ∧ n ≤ rows.length ∧ ((n + ys.length) * (T e).bytes ≤ 140737488355328 ∧ n + ys.length ≤ 140737488355328) ∧
              K (.osl nx sz 0 (n + ys.length)) ((nx, none) :: (b, some (.arr fr ex ty sz' rows)) :: rd) [(nx, some (.arr fr false ty sz (rows.take n ++ ys))), (b, none)] (nx + 1)
          | _ => False
        | _, _, _ => False
      | _, _, _ => False
    | _ => False
  | _ => False

end Go.Proofs.Ytcfkendgjinmiaa
