/- The abstract interpreter: definitions. -/
import Derived.Calls
import Derived.Laws.Sem
import Derived.Orders
namespace Go.Ab

inductive Tree (α : Type) where
  | nil
  | node (v : Option α) (l r : Tree α)
namespace Tree
variable {α : Type}
noncomputable def get (t : Tree α) : Nat → Option α :=
  Tree.rec (motive := fun _ => Nat → Option α) (fun _ => none)
    (fun v _ _ il ir k => Bool.rec (Bool.rec (ir (Nat.pred (Nat.div k 2))) (il (Nat.div k 2)) (Nat.beq (Nat.mod k 2) 1)) v (Nat.beq k 0)) t
noncomputable def one (x : Option α) (f : Nat) : Nat → Tree α :=
  Nat.rec (motive := fun _ => Nat → Tree α) (fun _ => nil)
    (fun _ ih k => Bool.rec (Bool.rec (node none nil (ih (Nat.pred (Nat.div k 2)))) (node none (ih (Nat.div k 2)) nil) (Nat.beq (Nat.mod k 2) 1)) (node x nil nil) (Nat.beq k 0)) f
noncomputable def upd (x : Option α) (t : Tree α) : Nat → Tree α :=
  Tree.rec (motive := fun _ => Nat → Tree α) (fun k => one x (Nat.succ k) k)
    (fun v l r il ir k => Bool.rec (Bool.rec (node v l (ir (Nat.pred (Nat.div k 2)))) (node v (il (Nat.div k 2)) r) (Nat.beq (Nat.mod k 2) 1)) (node x l r) (Nat.beq k 0)) t
def odds : List α → List α
  | [] => []
  | [_] => []
  | _ :: y :: l => y :: odds l
def evens : List α → List α
  | [] => []
  | [x] => [x]
  | x :: _ :: l => x :: evens l
def build : Nat → List α → Tree α
  | 0, _ => nil
  | _ + 1, [] => nil
  | f + 1, x :: l => node (some x) (build f (evens l)) (build f (odds l))
def ofList (l : List α) : Tree α := build 64 l
end Tree

structure ALoop where
  state : LoopState
  pending : Option Code
  fn : FuncId
  n : Nat
  tmps : Tree Value
  params : List Tmp
  assign : Code
  body : Code
  defers : Nat

inductive Blk where
  | cells (elem n : Nat) (c : Tree Value)
  | map (es : List MapEntry) (clock : Nat)
  | siter (s : ByteArray) (pos : Nat)
  | miter (m : Nat) (since : Nat) (seen : List Nat) (stepped : Nat)
  | loop (l : ALoop)
  | defd (live : Bool)

/-- What a run did: read a block, wrote one (none: gave it up), made one. -/
inductive Acc where
  | rd (b : Nat) | wr (b : Nat) (x : Option Blk) | new (b : Nat) (x : Blk)
inductive Log where
  | nil | one (a : Acc) (l : Log) | app (a b : Log)

inductive HM where
  | ret (v : Value)
  | fail
  | gb (b : Nat) (k : Blk → HM)
  | sb (b : Nat) (v : Blk) (k : HM)
  | mk (b : Blk) (k : Nat → HM)
  | kill (b : Nat) (k : HM)
  | choose (n : Nat) (k : Nat → HM)
  | iso (m : HM) (k : Value → Log → HM)

structure St where
  h : Tree Blk
  next : Nat

/-- The deterministic run, with its log in front of what was logged before. -/
noncomputable def HM.run (m : HM) : St → Log → Option (Value × St × Log) :=
  HM.rec (motive := fun _ => St → Log → Option (Value × St × Log))
    (fun v s l => some (v, s, l))
    (fun _ _ => none)
    (fun b _ ih s l => Option.rec none (fun x => ih x s (.one (.rd b) l)) (s.h.get b))
    (fun b v _ ih s l => Option.rec none (fun _ => ih ⟨s.h.upd (some v) b, s.next⟩ (.one (.wr b (some v)) l)) (s.h.get b))
    (fun x _ ih s l => Bool.rec none (ih s.next ⟨s.h.upd (some x) s.next, Nat.succ s.next⟩ (.one (.new s.next x) l)) (Nat.ble s.next 1152921504606846976))
    (fun b _ ih s l => ih ⟨s.h.upd none b, s.next⟩ (.one (.wr b none) l))
    (fun n _ ih s l => Bool.rec none (ih 0 s l) (Nat.ble n 1))
    (fun _ _ ihm ihk s l => Option.rec none (fun r => ihk r.1 r.2.2 r.2.1 (.app r.2.2 l)) (ihm s .nil)) m

/-- All ways: each ends in a value that the test takes. -/
noncomputable def HM.all (c : Value → Bool) (m : HM) : St → Bool :=
  HM.rec (motive := fun _ => St → Bool)
    (fun v _ => c v)
    (fun _ => false)
    (fun b _ ih s => Option.rec false (fun x => ih x s) (s.h.get b))
    (fun b v _ ih s => Option.rec false (fun _ => ih ⟨s.h.upd (some v) b, s.next⟩) (s.h.get b))
    (fun x _ ih s => Bool.rec false (ih s.next ⟨s.h.upd (some x) s.next, Nat.succ s.next⟩) (Nat.ble s.next 1152921504606846976))
    (fun b _ ih s => ih ⟨s.h.upd none b, s.next⟩)
    (fun n _ ih s => Bool.rec ((List.range n).all fun i => ih i s) (ih 0 s) (Nat.ble n 1))
    (fun m _ _ ihk s => Option.rec false (fun r => ihk r.1 r.2.2 r.2.1) (m.run s .nil)) m

/-! ### Values and operands -/
variable (P : Program)
def under (t : TypeId) : TypeDesc := (P.underlying t).getD .invalid
def cellsOf (t : TypeId) : Nat := ((P.info? t).map (·.size)).getD 0
def bytesOf (t : TypeId) : Nat := ((P.info? t).map (·.bytes)).getD 0
def zeroOf (t : TypeId) : Option Value := (P.info? t).bind (·.zero)
def aggD : TypeDesc → Bool
  | .struct _ | .array _ _ => true
  | _ => false
def aggO (t : TypeId) : Option Bool := (P.underlying t).map aggD
def szO (t : TypeId) : Option Nat := (P.info? t).map (·.size)

def plainFn : Fn → Bool
  | .yield _ => false
  | .func _ => true
  | .method _ => true
  | .methodOf _ _ => true
  | .via _ _ _ _ => true
mutual
/-- No address in it. -/
def plain : Value → Bool
  | .bool _ | .int .. | .float .. | .complex .. | .string _ | .nilFunc | .nilIface => true
  | .pointer a => a.isNone
  | .slice a _ _ => a.isNone
  | .map r => r.isNone
  | .chan r => r.isNone
  | .iface _ v => plain v
  | .func fn fs cs => plainFn fn && plainA fs && plainA cs
  | .agg vs => plainA vs
  | .tuple vs => plainA vs
def plainA : Array Value → Bool
  | ⟨l⟩ => plainL l
def plainL : List Value → Bool
  | [] => true
  | v :: l => plain v && plainL l
end

/-- An operand's value. -/
noncomputable def ev (A : Tree Value) : Operand → Value :=
  Operand.rec (fun t => (A.get t).getD undef) (fun v => v) (fun g => .pointer (some ⟨g, 0, none⟩)) (fun f => .func (.func f) #[] #[])
/-- An operand that may occur: no constant with an address, no variable that there is not. -/
def okOpd : Operand → Bool
  | .const v => plain v
  | .global g => Nat.blt g P.globals.size
  | _ => true
def okOp (o : Op) : Bool := o.operands.toList.all (okOpd P)

def prunV : Sem Value → Option Value
  | .pure v => some v
  | .program k => prunV (k P)
  | _ => none
def prunB : Sem Bool → Option Bool
  | .pure v => some v
  | .program k => prunB (k P)
  | _ => none
def prunU : Sem Unit → Bool
  | .pure _ => true
  | .program k => prunU (k P)
  | _ => false
/-- A value of a run that touches no memory, if it is plain. -/
def pure? (s : Sem Value) : Option Value := (prunV P s).filter plain

def retO (o : Option Value) (k : Value → HM) : HM := match o with | some v => k v | none => .fail

def asNat? : Value → Option Nat
  | .int _ n => match n with | .ofNat m => some m | .negSucc _ => none
  | _ => none

/-! ### Memory -/
def cellsB (b : Nat) (k : Nat → Nat → Tree Value → HM) : HM := .gb b fun | .cells e n c => k e n c | _ => .fail
noncomputable def takeC (c : Tree Value) : Nat → Nat → Option (List Value)
  | _, 0 => some []
  | off, n + 1 => match c.get off with
    | some v => (takeC c (off + 1) n).map (v :: ·)
    | none => none
noncomputable def putC (c : Tree Value) : Nat → List Value → Option (Tree Value)
  | _, [] => some c
  | off, v :: l => match c.get off, v.oneCell' with
    | some _, true => putC (c.upd (some v) off) (off + 1) l
    | _, _ => none
noncomputable def loadN (b off n : Nat) (k : List Value → HM) : HM :=
  cellsB b fun _ _ c => match takeC c off n with | some l => k l | none => .fail
noncomputable def storeN (b off : Nat) (l : List Value) (k : HM) : HM :=
  match l with
  | [] => k
  | l => cellsB b fun e n c => match Nat.ble P.globals.size b, putC c off l with | true, some c => .sb b (.cells e n c) k | _, _ => .fail
/-- A new row of k elements. -/
def newRow (elem m : Nat) (cells : List Value) (k : Nat → HM) : HM :=
  if cells.length = m * cellsOf P elem ∧ cells.length ≤ 1073741824 then .mk (.cells elem cells.length (Tree.ofList cells)) k else .fail

noncomputable def loadVarA (t : TypeId) (b off : Nat) (k : Value → HM) : HM :=
  match aggO P t, szO P t with
  | some true, some n => loadN b off n fun l => k (.agg ⟨l⟩)
  | some false, some _ => cellsB b fun _ _ c => retO (c.get off) k
  | _, _ => .fail
noncomputable def storeVarA (t : TypeId) (b off : Nat) (v : Value) (k : HM) : HM :=
  match szO P t with
  | some n => if v.cells.size = n then storeN P b off v.cells.toList k else .fail
  | none => .fail
def partA (t : TypeId) (cs : Array Value) (off : Nat) (k : Value → HM) : HM :=
  match aggO P t, szO P t with
  | some true, some n => k (.agg ⟨(cs.toList.drop off).take n⟩)
  | some false, some _ => retO (cs.toList[off]?) k
  | _, _ => .fail

/-! ### The operations -/
noncomputable section
def oMove (x : Operand) (A : Tree Value) (k : Value → HM) : HM := k (ev A x)
def oPick (c a b : Operand) (A : Tree Value) (k : Value → HM) : HM := match ev A c with | .bool c => k (if c then ev A a else ev A b) | _ => .fail
def oAlloc (elem : TypeId) (_ : Tree Value) (k : Value → HM) : HM :=
  match zeroOf P elem with
  | some z => if plain z then newRow P elem 1 z.cells.toList fun b => k (.pointer (some ⟨b, 0, none⟩)) else .fail
  | none => .fail
def oBox (elem : TypeId) (x : Operand) (A : Tree Value) (k : Value → HM) : HM := newRow P elem 1 (ev A x).cells.toList fun b => k (.pointer (some ⟨b, 0, none⟩))

def buildA (t : TypeId) (parts : List (Nat × Value)) : Option Value :=
  match zeroOf P t with
  | none => none
  | some z => if plain z then match under P t with
    | .struct fields => if fields.toList.all (fun f => (P.info? f.type).isSome) then (Instr.fill ((fields.map fun f => (f.offset, cellsOf P f.type))[·]?) z.cells parts).map .agg else none
    | .array _ elem => if (P.info? elem).isSome then (Instr.fill (fun i => some (i * cellsOf P elem, cellsOf P elem)) z.cells parts).map .agg else none
    | _ => none
    else none
def oBuild (t : TypeId) (parts : Array (Nat × Operand)) (A : Tree Value) (k : Value → HM) : HM := retO (buildA P t (parts.toList.map fun p => (p.1, ev A p.2))) k
def oBuildSlice (t : TypeId) (len : Nat) (parts : Array (Nat × Operand)) (A : Tree Value) (k : Value → HM) : HM :=
  match under P t with
  | .slice elem =>
    if len * cellsOf P elem > 2 ^ 24 ∨ (P.info? elem).isNone then .fail else
    match zeroOf P elem with
    | none => .fail
    | some z => if plain z then match Instr.fill (fun i => some (i * cellsOf P elem, cellsOf P elem)) ((Array.range (len * cellsOf P elem)).map (z.cells[· % z.cells.size]!)) (parts.toList.map fun p => (p.1, ev A p.2)) with
      | some cs => newRow P elem len cs.toList fun b => k (.slice (some ⟨b, 0, none⟩) len (3 * len))
      | none => .fail
      else .fail
  | _ => .fail
def oLoad (t : TypeId) (a : Operand) (A : Tree Value) (k : Value → HM) : HM := match ev A a with | .pointer (some a) => loadVarA P t a.block a.off k | _ => .fail
def oStore (t : TypeId) (a x : Operand) (A : Tree Value) (k : Value → HM) : HM := match ev A a with | .pointer (some a) => storeVarA P t a.block a.off (ev A x) (k undef) | _ => .fail
def oNil (x : Operand) (A : Tree Value) (k : Value → HM) : HM := match ev A x with
  | .pointer none | .nilIface | .nilFunc | .func (.method _) _ _ => .fail
  | v => k v

def eqA (t : TypeId) (x y : Value) : Option Bool :=
  match under P t, x, y with
  | .pointer _, .pointer none, .pointer b => some b.isNone
  | .pointer _, .pointer _, .pointer none => some false
  | .pointer e, .pointer (some a), .pointer (some b) => if a.block = b.block ∧ (P.info? e).isSome ∧ cellsOf P e ≠ 0 then some (a.off == b.off) else none
  | .slice _, .slice none _ _, .slice b _ _ => some b.isNone
  | .slice _, .slice _ _ _, .slice none _ _ => some false
  | .map _ _, .map none, .map b => some b.isNone
  | .map _ _, .map _, .map none => some false
  | .func _ _ _, .nilFunc, .nilFunc => some true
  | .func _ _ _, .nilFunc, .func _ _ _ | .func _ _ _, .func _ _ _, .nilFunc => some false
  | .interface _, .nilIface, .iface _ _ | .interface _, .iface _ _, .nilIface => some false
  | _, _, _ => none
def eqOr (op : BinOp) (t : TypeId) (xo yo : Operand) (x y : Value) : Option Value :=
  match plain x && plain y with
  | true => pure? P (do eqGuard op t xo yo x y; binOp op t x y)
  | false => match op with
    | .eql => (eqA P t x y).map (.bool ·)
    | .neq => (eqA P t x y).map fun b => .bool !b
    | _ => none
def intA (op : BinOp) (t : TypeId) (xo yo : Operand) (k : IntKind) (a : Int) (k' : IntKind) (b : Int) : Option Value :=
  match k == k', op with
  | true, .add => some (.int k (k.wrap (a + b)))
  | true, .sub => some (.int k (k.wrap (a - b)))
  | true, .eql => some (.bool (a == b))
  | true, .neq => some (.bool (a != b))
  | true, .lss => some (.bool (a < b))
  | true, .leq => some (.bool (a ≤ b))
  | true, .gtr => some (.bool (b < a))
  | true, .geq => some (.bool (b ≤ a))
  | _, _ => pure? P (do eqGuard op t xo yo (.int k a) (.int k' b); binOp op t (.int k a) (.int k' b))
def binA (op : BinOp) (t : TypeId) (xo yo : Operand) (x y : Value) : Option Value :=
  match x, y with
  | .int k a, .int k' b => intA P op t xo yo k a k' b
  | x, y => eqOr P op t xo yo x y
def oBin (op : BinOp) (t : TypeId) (x y : Operand) (_ : TypeId) (A : Tree Value) (k : Value → HM) : HM := retO (binA P op t x y (ev A x) (ev A y)) k
def oUn (op : UnOp) (_ : TypeId) (x : Operand) (A : Tree Value) (k : Value → HM) : HM :=
  match ev A x with
  | .bool b => (match op with | .not => k (.bool !b) | _ => .fail)
  | v => if plain v then retO (pure? P (Op.unary op v)) k else .fail

/-- The bytes of cells that hold bytes. -/
def bytesL : List Value → Option (List UInt8)
  | [] => some []
  | .int .u8 b :: l => (bytesL l).map (b.toNat.toUInt8 :: ·)
  | _ => none
def firstCellsA (size n : Nat) (x : Value) (k : List Value → HM) : HM := match x with
  | .slice (some a) _ c => if n * size = 0 then k [] else if c % 3 = 2 then .fail else loadN a.block a.off (n * size) k
  | .slice none _ _ => k []
  | .string s => k ((s.data.toList.take n).map fun b => .int .u8 b.toNat)
  | _ => .fail
def lenA : Value → Option Nat
  | .slice _ n _ => some n
  | .string s => some s.size
  | _ => none
def oConvert (src dst : TypeId) (x : Operand) (A : Tree Value) (k : Value → HM) : HM :=
  match under P src, under P dst, ev A x with
  | _, .slice _, .string _ => .fail
  | .slice el, .string, .slice a n c => (match under P el with
    | .int .u8 => firstCellsA 1 n (.slice a n c) fun l => retO ((bytesL l).map fun bs => .string ⟨⟨bs⟩⟩) k
    | _ => .fail)
  | _, _, v => if plain v then retO (pure? P (convert src dst v)) k else .fail
def oIface (t : TypeId) (x : Operand) (A : Tree Value) (k : Value → HM) : HM := match under P t with | .interface _ => .fail | .invalid => .fail | _ => k (.iface t (ev A x))
def oFunc (fn : Fn) (first captured : Array Operand) (A : Tree Value) (k : Value → HM) : HM := match fn with
  | .yield _ => .fail
  | fn => k (.func fn ⟨first.toList.map (ev A)⟩ ⟨captured.toList.map (ev A)⟩)
def oMakeMap (t : TypeId) (r : Option Operand) (_ : Tree Value) (k : Value → HM) : HM := match r with
  | none => .mk (.map [] 0) fun b => k (.map (some b))
  | some _ => .fail
def oMakeSlice (t : TypeId) (l c : Operand) (A : Tree Value) (k : Value → HM) : HM :=
  match under P t, asNat? (ev A l), asNat? (ev A c) with
  | .slice elem, some l, some c =>
    if l ≤ c ∧ c ≤ 2 ^ 20 ∧ bytesOf P elem ≤ 2 ^ 10 then match zeroOf P elem with
      | some z => if plain z then newRow P elem c ((Array.range (c * cellsOf P elem)).map (z.cells[· % z.cells.size]!)).toList fun b => k (.slice (some ⟨b, 0, none⟩) l (3 * c)) else .fail
      | none => .fail
    else .fail
  | _, _, _ => .fail

/-- cap codes: 3c literal; 1 open (up to the block's end); 3l+2: an open slice cut at its end l: empty. -/
def sliceBoundsA (len : Nat) (capOk : Nat → Bool) (cap : Option Nat) (low high max : Option Value) : Option (Nat × Nat × Option Nat) :=
  match low.elim (some 0) asNat?, high.elim (some len) asNat?, max with
  | some l, some h, none => if Nat.ble l h && (Nat.ble h len || capOk h) then some (l, h, cap) else none
  | some l, some h, some m => if high.isNone then none else match asNat? m with
    | some m => if Nat.ble l h && Nat.ble h m && (Nat.ble m len || capOk m) then some (l, h, some m) else none
    | none => none
  | _, _, _ => none
def slcLit (size : Nat) (a : Option Addr) (len c : Nat) (low high max : Option Value) (k : Value → HM) : HM :=
  match sliceBoundsA len (fun h => Nat.ble h c) (some c) low high max with
  | some (l, h, some m) => if len ≤ c ∧ (a.isSome ∨ c = 0) then k (.slice (if m = l then a else a.map (·.add (l * size))) (h - l) (3 * (m - l))) else .fail
  | _ => .fail
def slcOpen (elem size : Nat) (a : Addr) (len : Nat) (low high max : Option Value) (k : Value → HM) : HM :=
  cellsB a.block fun e n _ =>
    if e = elem ∧ size ≠ 0 ∧ a.off % size = 0 ∧ a.off + len * size ≤ n then
      match sliceBoundsA len (fun h => Nat.ble (a.off + h * size) n) none low high max with
      | some (l, h, some m) => k (.slice (some (if m = l then a else a.add (l * size))) (h - l) (3 * (m - l)))
      | some (l, h, none) =>
        if l = 0 then k (.slice (some a) h 1)
        else if a.off + l * size < n then k (.slice (some (a.add (l * size))) (h - l) 1)
        else if l = h then k (.slice (some a) 0 (3 * l + 2))
        else .fail
      | none => .fail
    else .fail
def slcA (t : TypeId) (x : Value) (low high max : Option Value) (k : Value → HM) : HM :=
  match under P t, x with
  | .string, .string s => match sliceBoundsA s.size (fun _ => false) none low high max with
    | some (l, h, none) => k (.string (s.extract l h))
    | _ => .fail
  | .slice elem, .slice a len cap =>
    (match szO P elem with
    | some size =>
      if cap % 3 = 0 then slcLit size a len (cap / 3) low high max k
      else if cap = 1 then match a with
        | some a => slcOpen elem size a len low high max k
        | none => .fail
      else .fail
    | none => .fail)
  | .array n elem, .pointer (some a) => (match szO P elem with
    | some size => slcLit size (some a) n n low high max k
    | none => .fail)
  | _, _ => .fail
def oSlice (t : TypeId) (x : Operand) (lo hi mx : Option Operand) (A : Tree Value) (k : Value → HM) : HM := slcA P t (ev A x) (lo.map (ev A)) (hi.map (ev A)) (mx.map (ev A)) k
def oFieldAddr (s : TypeId) (x : Operand) (f : Nat) (A : Tree Value) (k : Value → HM) : HM :=
  match under P s, ev A x with
  | .struct fields, .pointer (some a) => (match fields.toList[f]? with
    | some f => (match szO P f.type with
      | some (_ + 1) => k (.pointer (some (a.add f.offset)))
      | _ => .fail)
    | none => .fail)
  | _, _ => .fail
def oField (t : TypeId) (x : Operand) (f : Nat) (A : Tree Value) (k : Value → HM) : HM :=
  match under P t, ev A x with
  | .struct fields, .agg cs => (match fields.toList[f]? with
    | some f => partA P f.type cs f.offset k
    | none => .fail)
  | _, _ => .fail
def oIndexAddr (t : TypeId) (x ix : Operand) (A : Tree Value) (k : Value → HM) : HM :=
  match asNat? (ev A ix), under P t, ev A x with
  | some i, .array len elem, .pointer (some a) => (match Nat.blt i len, szO P elem with
    | true, some size => k (.pointer (some (a.add (i * size))))
    | _, _ => .fail)
  | some i, .slice elem, .slice (some a) len c => (match Nat.blt i len && (Nat.beq (c % 3) 0 || Nat.beq c 1), szO P elem with
    | true, some size => k (.pointer (some (a.add (i * size))))
    | _, _ => .fail)
  | _, _, _ => .fail
def oIndex (t : TypeId) (x ix : Operand) (A : Tree Value) (k : Value → HM) : HM :=
  match asNat? (ev A ix), under P t, ev A x with
  | some i, .array len elem, .agg cs => (match Nat.blt i len, szO P elem with
    | true, some size => partA P elem cs (i * size) k
    | _, _ => .fail)
  | some i, .string, .string s => (match s.data.toList[i]? with | some b => k (.int .u8 b.toNat) | none => .fail)
  | _, _, _ => .fail

/-! maps -/
def keyPlain (kt : TypeId) (key : Value) : Bool := plain key && prunU P (Instr.checkKey true 10000 kt key) && prunU P (Instr.checkKey false 10000 kt key)
def findA (kt : TypeId) (key : Value) : List MapEntry → Nat → Option (Option (Nat × Value))
  | [], _ => some none
  | e :: es, i => match plain e.key with
    | true => (match prunB P (Op.equal kt key e.key) with
      | some true => some (some (i, e.val))
      | some false => findA kt key es (i + 1)
      | none => none)
    | false => none
def withMap (r : Nat) (k : List MapEntry → Nat → HM) : HM := .gb r fun | .map es c => k es c | _ => .fail
def lookFin (et : TypeId) (ok : Bool) (r : Option (Nat × Value)) (k : Value → HM) : HM :=
  match r with
  | some (_, v) => k (if ok then .tuple #[v, .bool true] else v)
  | none => match zeroOf P et with
    | some z => if plain z then k (if ok then .tuple #[z, .bool false] else z) else .fail
    | none => .fail
def lookupA (t : TypeId) (x key : Value) (ok : Bool) (k : Value → HM) : HM :=
  match under P t with
  | .map kt et => (match keyPlain P kt key, x with
    | true, .map none => lookFin P et ok none k
    | true, .map (some r) => withMap r fun es _ => match findA P kt key es 0 with | some r => lookFin P et ok r k | none => .fail
    | _, _ => .fail)
  | _ => .fail
def oLookup (t : TypeId) (x ix : Operand) (ok : Bool) (A : Tree Value) (k : Value → HM) : HM := lookupA P t (ev A x) (ev A ix) ok k
def updateA (t : TypeId) (m key v : Value) (k : Value → HM) : HM :=
  match under P t, m with
  | .map kt _, .map (some r) => (match keyPlain P kt key with
    | true => withMap r fun es c => (match findA P kt key es 0 with
      | some (some (i, _)) => if Instr.sameBits 10000 ((es[i]?.map (·.key)).getD key) key then .sb r (.map (es.modify i fun e => { e with key, val := v }) c) (k undef) else .fail
      | some none => .sb r (.map (es ++ [{ key, val := v, born := c }]) (c + 1)) (k undef)
      | none => .fail)
    | false => .fail)
  | _, _ => .fail
def oUpdate (t : TypeId) (m key x : Operand) (A : Tree Value) (k : Value → HM) : HM := updateA P t (ev A m) (ev A key) (ev A x) k
def candsA (since : Nat) (seen : List Nat) (es : List MapEntry) : List (Option MapEntry) :=
  let left := es.filter fun e => !seen.contains e.born
  let old := left.filter (·.born < since)
  (if old.isEmpty then [none] else []) ++ (old ++ left.filter (·.born ≥ since)).map some
def oNext (it : Operand) (isStr : Bool) (A : Tree Value) (k : Value → HM) : HM :=
  match ev A it with
  | .pointer (some ⟨r, 0, _⟩) => .gb r fun
    | .siter s pos => if !isStr then .fail else
      if pos < s.size then .sb r (.siter s (pos + (Utf8.decode s pos).2)) (k (.tuple #[.bool true, goInt pos, .int .i32 (Utf8.decode s pos).1]))
      else k (.tuple #[.bool false])
    | .miter m since seen last => if isStr then .fail else
      withMap m fun es clock =>
        if !seen.isEmpty && !es.isEmpty && es.all (·.born ≥ last) then .fail else
        .choose (candsA since seen es).length fun i => match (candsA since seen es)[i]? with
          | some (some e) => .sb r (.miter m since (seen ++ [e.born]) clock) (k (.tuple #[.bool true, e.key, e.val]))
          | some none => k (.tuple #[.bool false])
          | none => .fail
    | _ => .fail
  | _ => .fail
def oRange (t : TypeId) (x : Operand) (A : Tree Value) (k : Value → HM) : HM :=
  match under P t, ev A x with
  | .string, .string s => .mk (.siter s 0) fun b => k (.pointer (some ⟨b, 0, none⟩))
  | .map _ _, .map (some m) => withMap m fun _ clock => .mk (.miter m clock [] clock) fun b => k (.pointer (some ⟨b, 0, none⟩))
  | _, _ => .fail
def oEntry (it : Operand) (A : Tree Value) (k : Value → HM) : HM :=
  match ev A it with
  | .pointer (some ⟨r, 0, _⟩) => .gb r fun
    | .miter m _ seen stepped => (match seen.getLast? with
      | none => .fail
      | some stamp => withMap m fun es clock => if clock != stepped then .fail else
        match es.find? (·.born == stamp) with
        | some e => k (.tuple #[e.key, e.val])
        | none => .fail)
    | _ => .fail
  | _ => .fail
def asrtFin (t : TypeId) (ok : Bool) (r : Option Value) (k : Value → HM) : HM :=
  match r with
  | some v => k (if ok then .tuple #[v, .bool true] else v)
  | none => if ok then (match zeroOf P t with | some z => if plain z then k (.tuple #[z, .bool false]) else .fail | none => .fail) else .fail
def oAssert (x : Operand) (_ asserted : TypeId) (ok : Bool) (A : Tree Value) (k : Value → HM) : HM :=
  match under P asserted, ev A x with
  | .invalid, _ => .fail
  | .interface _, .nilIface => asrtFin P asserted ok none k
  | .interface want, .iface t v => (match P.info? t with
    | some i => asrtFin P asserted ok (if (Instr.missingMethod want i.methods).isNone then some (.iface t v) else none) k
    | none => .fail)
  | _, .nilIface => asrtFin P asserted ok none k
  | _, .iface t v => asrtFin P asserted ok (if t = asserted then some v else none) k
  | _, _ => .fail
def oExtract (t : Operand) (ix : Nat) (A : Tree Value) (k : Value → HM) : HM := match ev A t with
  | .tuple vs => retO vs.toList[ix]? k
  | _ => .fail

/-! builtins -/
def growA (elem size need : Nat) (base : Option Addr) (len n : Nat) (x : Value) (kill : Option Nat) (k : Value → HM) : HM :=
  firstCellsA size len (.slice base len 0) fun old => firstCellsA size n x fun new =>
    match kill with
    | some b => if Nat.blt b P.globals.size || !new.all (·.oneCell') then .fail else .kill b (newRow P elem need (old ++ new) fun b => k (.slice (some ⟨b, 0, none⟩) need 1))
    | none => newRow P elem need (old ++ new) fun b => k (.slice (some ⟨b, 0, none⟩) need 1)
def inPlaceA (size : Nat) (base : Option Addr) (len n cap : Nat) (x : Value) (k : Value → HM) : HM :=
  match base with
  | none => k (.slice none (len + n) cap)
  | some a => firstCellsA size n x fun l => storeN P a.block (a.off + len * size) l (k (.slice base (len + n) cap))
def appendOn (elem size : Nat) (base : Option Addr) (len cap n : Nat) (x : Value) (k : Value → HM) : HM :=
  if bytesOf P elem > 2 ^ 10 ∨ len + n > 2 ^ 20 ∨ size = 0 ∨ (zeroOf P elem).map (·.cells.size) ≠ some size ∨ (base.isNone = true ∧ cap ≠ 0) then .fail else
  if cap % 3 = 0 then (if Nat.ble (len + n) (cap / 3) then inPlaceA P size base len n cap x k else growA P elem size (len + n) base len n x none k)
  else if cap ≠ 1 then .fail
  else match base with
    | none => .fail
    | some a => cellsB a.block fun e known _ =>
      if e = elem ∧ a.off % size = 0 ∧ a.off + len * size ≤ known then
        if Nat.ble (a.off + (len + n) * size) known then inPlaceA P size base len n cap x k
        else growA P elem size (len + n) base len n x (some a.block) k
      else .fail
def bAppend (argTypes : List TypeId) (args : List Value) (k : Value → HM) : HM :=
  match argTypes, args with
  | st :: xt :: _, .slice base len cap :: x :: _ => (match under P st, under P xt with
    | _, .int _ => .fail
    | _, .invalid => .fail
    | .slice elem, _ => (match lenA x, szO P elem with
      | some n, some size => appendOn P elem size base len cap n x k
      | _, _ => .fail)
    | _, _ => .fail)
  | _, _ => .fail
def bLen (argTypes : List TypeId) (args : List Value) (k : Value → HM) : HM :=
  match argTypes, args with
  | t :: _, x :: _ => (match under P t, x with
    | .map _ _, .map (some r) => withMap r fun es _ => k (goInt es.length)
    | .slice _, .slice _ n _ => k (goInt n)
    | .string, .string s => k (goInt s.size)
    | .array n _, _ => k (goInt n)
    | .map _ _, .map none => k (goInt 0)
    | _, _ => .fail)
  | _, _ => .fail
def bCopy (argTypes : List TypeId) (args : List Value) (k : Value → HM) : HM :=
  match argTypes, args with
  | dt :: _, .slice base dl cd :: src :: _ => if cd % 3 = 2 then .fail else (match under P dt, lenA src with
    | .slice elem, some sl => (match szO P elem with
      | some size => firstCellsA size (Nat.min sl dl) src fun l => (match base with
        | some a => storeN P a.block a.off l (k (goInt (Nat.min sl dl)))
        | none => k (goInt (Nat.min sl dl)))
      | none => .fail)
    | _, _ => .fail)
  | _, _ => .fail
def bDelete (argTypes : List TypeId) (args : List Value) (k : Value → HM) : HM :=
  match argTypes, args with
  | t :: _, .map (some r) :: key :: _ => (match under P t with
    | .map kt _ => (match keyPlain P kt key with
      | true => withMap r fun es c => (match findA P kt key es 0 with
        | some (some (i, _)) => .sb r (.map (es.eraseIdx i) c) (k (.tuple #[]))
        | some none => .sb r (.map es c) (k (.tuple #[]))
        | none => .fail)
      | false => .fail)
    | _ => .fail)
  | _, _ => .fail
def bClear (argTypes : List TypeId) (args : List Value) (k : Value → HM) : HM :=
  match argTypes, args with
  | t :: _, x :: _ => (match under P t, x with
    | .map _ _, .map (some r) => withMap r fun _ c => .sb r (.map [] c) (k (.tuple #[]))
    | .slice _, .slice none _ _ => k (.tuple #[])
    | .slice e, .slice (some a) n c => if n = 0 then k (.tuple #[]) else if c % 3 = 2 then .fail else (match zeroOf P e with
      | some z => if plain z then storeN P a.block a.off (Builtin.zeroCells z.cells n).toList (k (.tuple #[])) else .fail
      | none => .fail)
    | _, _ => .fail)
  | _, _ => .fail
def builtinA (b : Builtin) (argTypes : List TypeId) (args : List Value) (k : Value → HM) : HM :=
  match b with
  | .append => bAppend P argTypes args k
  | .len => bLen P argTypes args k
  | .copy => bCopy P argTypes args k
  | .delete => bDelete P argTypes args k
  | .clear => bClear P argTypes args k
  | .min => if plainL args then retO (pure? P (Builtin.min_ ⟨argTypes⟩ 0 ⟨args⟩)) k else .fail
  | .max => if plainL args then retO (pure? P (Builtin.max_ ⟨argTypes⟩ 0 ⟨args⟩)) k else .fail
  | _ => .fail

/-! calls -/
structure Rec where
  call : FuncId → Func → List Value → (Value → HM) → HM
  round : Nat → List Value → (Value → HM) → HM
def callFuncA (R : Rec) (f : FuncId) (args : List Value) (k : Value → HM) : HM :=
  match P.funcs[f]? with
  | some fn => if fn.name == "runtime.NumGoroutine" then .fail else
    match fn.body with
    | some _ => R.call f fn args k
    | none => .fail
  | none => .fail
def callValueA (R : Rec) (f : Value) (args : List Value) (k : Value → HM) : HM :=
  match f with
  | .func (.func f) first captured => callFuncA P R f (first.toList ++ args ++ captured.toList) k
  | .func (.yield l) first _ => R.round l (first.toList ++ args) k
  | _ => .fail
def invokeA (R : Rec) (recv : Value) (name : String) (args : List Value) (k : Value → HM) : HM :=
  match recv with
  | .iface t v => (match P.info? t with
    | some i => (match i.methods.toList.find? (·.name == name) with
      | some m => if !m.path.isEmpty then .fail else (match m.func, under P t with
        | some (f, true), .pointer _ => callFuncA P R f (v :: args) k
        | some (_, false), .pointer _ => .fail
        | some (_, false), .invalid => .fail
        | some (f, false), _ => callFuncA P R f (v :: args) k
        | _, _ => .fail)
      | none => .fail)
    | none => .fail)
  | _ => .fail
def oCall (R : Rec) (c : Call) (A : Tree Value) (k : Value → HM) : HM :=
  match c.callee with
  | .builtin b => builtinA P b c.argTypes.toList (c.args.toList.map (ev A)) k
  | .invoke recv name => invokeA P R (ev A recv) name (c.args.toList.map (ev A)) k
  | .value f => callValueA P R (ev A f) (c.args.toList.map (ev A)) k

def oNo (_ : Tree Value) (_ : Value → HM) : HM := .fail
/-- One operation. -/
def opB (R : Rec) (o : Op) : Tree Value → (Value → HM) → HM :=
  Op.rec (motive := fun _ => Tree Value → (Value → HM) → HM)
    oMove oMove oPick (oAlloc P) (oBox P) (oBuild P) (oBuildSlice P) (oUpdate P) (oLoad P) (oStore P) (fun _ => oNo) (fun _ => oNo) oNil (oBin P) (oUn P) (oConvert P) (fun _ _ => oNo)
    (oIface P) oFunc oMakeMap (fun _ _ => oNo) (oMakeSlice P) (oSlice P) (oFieldAddr P) (oField P) (oIndexAddr P) (oIndex P) (oLookup P) (oUpdate P)
    (fun _ _ _ => oNo) (fun _ _ _ _ => oNo) (oRange P) oNext oEntry (oAssert P) oExtract (oCall P R) (fun _ => oNo) (fun _ => oNo) (fun _ => oNo) (fun _ _ => oNo) (fun _ _ _ => oNo) (fun _ _ => oNo) o

def opA (R : Rec) (o : Op) (A : Tree Value) (k : Value → HM) : HM := Bool.rec .fail (opB P R o A k) (okOp P o)

/-! ### Regions -/
def yes? (A : Tree Value) (ops : List Oper) (j : Nat) : Option Bool :=
  match (ops[j]?).bind (·.dst) with
  | some d => match A.get d with
    | some (.bool b) => some b
    | _ => none
  | none => none
def wantedA (ops : List Oper) (A : Tree Value) (o : Oper) : Bool :=
  match o.guard with
  | none => true
  | some (j, want) => match yes? A ops j with
    | some b => b == want
    | none => false
/-- A value into a temporary, of n. -/
def putA (n : Nat) (A : Tree Value) (d : Option Tmp) (v : Value) : Tree Value :=
  match d with
  | some d => Bool.rec A (A.upd (some v) d) (Nat.blt d n)
  | none => A
def opsA (R : Rec) (n : Nat) (ops : List Oper) (todo : List Oper) : Tree Value → (Tree Value → HM) → HM :=
  List.rec (motive := fun _ => Tree Value → (Tree Value → HM) → HM) (fun A k => k A)
    (fun o _ ih A k => Bool.rec (ih (putA n A o.dst undef) k) (opA P R o.op A fun v => ih (putA n A o.dst v) k) (wantedA ops A o)) todo

def clash1 (a b : Acc) : Bool :=
  match a, b with
  | .rd _, .rd _ => false
  | .new _ _, .new _ _ => true
  | .rd x, .wr y _ | .wr x _, .rd y | .wr x _, .wr y _ | .rd x, .new y _ | .new x _, .rd y | .wr x _, .new y _ | .new x _, .wr y _ => Nat.beq x y
def Log.hits (a : Acc) : Log → Bool
  | .nil => false
  | .one b l => clash1 a b || l.hits a
  | .app x y => x.hits a || y.hits a
def Log.clash : Log → Log → Bool
  | .nil, _ => false
  | .one a l, m => m.hits a || l.clash m
  | .app x y, m => x.clash m || y.clash m
def Log.none? : Log → Bool
  | .nil => true
  | .one .. => false
  | .app a b => a.none? && b.none?

/-- For each operation, which ones must come ahead of it. -/
def predsA (acc : List (List Nat)) : List Oper → List (List Nat)
  | [] => acc
  | o :: l => predsA (acc ++ [o.after.toList.flatMap fun e => if Region.binds .any e then e.on :: acc.getD e.on [] else []]) l
/-- Operations that are not ordered leave each other's temporaries alone. -/
def apartA (ops : Array Oper) (preds : List (List Nat)) : Bool :=
  (List.range ops.size).all fun j => (List.range j).all fun i =>
    (preds.getD j []).contains i || ((ops.getD i default).apart ops (ops.getD j default) && (ops.getD j default).apart ops (ops.getD i default))
def okDraw (ops : Array Oper) : Bool :=
  P.follows .mixedOrders && Region.noSelect ops && apartA ops (predsA [] ops.toList) &&
    (ops.toList.zipIdx.all fun p => p.1.after.toList.all fun e => !Region.binds .any e || Nat.blt e.on p.2)

/-- Each operation alone, with its log: it must not clash with one ahead that it need not follow. -/
def drawA (R : Rec) (n : Nat) (ops : List Oper) (preds : List (List Nat)) (todo : List Oper) : Nat → List (Nat × Log) → Tree Value → (Tree Value → HM) → HM :=
  List.rec (motive := fun _ => Nat → List (Nat × Log) → Tree Value → (Tree Value → HM) → HM) (fun _ _ A k => k A)
    (fun o _ ih i done A k =>
      Bool.rec (ih (Nat.succ i) done (putA n A o.dst undef) k)
        (.iso (opA P R o.op A .ret) fun v l =>
          Bool.rec (Bool.rec (ih (Nat.succ i) ((i, l) :: done) (putA n A o.dst v) k) .fail (done.any fun p => p.2.clash l && !(preds.getD i []).contains p.1))
            (ih (Nat.succ i) done (putA n A o.dst v) k) l.none?)
        (wantedA ops A o)) todo

/-! ### Frames -/
structure Ctx where
  fn : FuncId
  n : Nat
  roundOf : Option Nat

def closeDefers : List Nat → HM → HM
  | [], k => k
  | r :: rs, k => .gb r fun | .defd true => .sb r (.defd false) (closeDefers rs k) | _ => .fail
def resultsA (A : Tree Value) : List ResultVar → List Value → (List Value → HM) → HM
  | [], acc, k => k acc
  | .tmp t :: rs, acc, k => resultsA A rs (acc ++ [(A.get t).getD undef]) k
  | .cell a t :: rs, acc, k => match (A.get a).getD undef with
    | .pointer (some a) => loadVarA P t a.block a.off fun v => resultsA A rs (acc ++ [v]) k
    | _ => .fail
def one? : List Value → Value
  | [v] => v
  | vs => .tuple ⟨vs⟩
def leaveRet (C : Ctx) (A : Tree Value) (defers : List Nat) (kr : Value → HM) : HM :=
  closeDefers defers (match P.funcs[C.fn]? with
    | some fn => resultsA P A fn.results.toList [] fun vs => kr (one? vs)
    | none => .fail)
def leaveA (C : Ctx) (A : Tree Value) (defers : List Nat) (jump : Option Code) (kr : Value → HM) : HM :=
  match C.roundOf with
  | none => (match jump with
    | none | some .ret => leaveRet P C A defers kr
    | _ => .fail)
  | some l => (match defers with
    | [] => .gb l fun
      | .loop r => .sb l (.loop { r with state := if jump.isNone then .ready else .done, pending := jump }) (kr (.bool jump.isNone))
      | _ => .fail
    | _ => .fail)

abbrev Go1 := Tree Value → List Item → List Nat → HM
abbrev Stp := Tree Value → List Nat → List Item → Go1 → (Value → HM) → HM

def sTo (todo : List Item → List Item) (A : Tree Value) (ds : List Nat) (k : List Item) (kc : Go1) (_ : Value → HM) : HM := kc A (todo k) ds
def sRegion (R : Rec) (C : Ctx) (ops : Array Oper) (draw : Bool) (A : Tree Value) (ds : List Nat) (k : List Item) (kc : Go1) (_ : Value → HM) : HM :=
  match draw with
  | false => opsA P R C.n ops.toList ops.toList A fun A => kc A k ds
  | true => if okDraw P ops then drawA P R C.n ops.toList (predsA [] ops.toList) ops.toList 0 [] A fun A => kc A k ds else .fail
def sCond (c : Operand) (a b : Code) (A : Tree Value) (ds : List Nat) (k : List Item) (kc : Go1) (_ : Value → HM) : HM :=
  match okOpd P c, ev A c with
  | true, .bool true => kc A (.code a :: k) ds
  | true, .bool false => kc A (.code b :: k) ds
  | _, _ => .fail
def sExit (C : Ctx) (id : Nat) (A : Tree Value) (ds : List Nat) (k : List Item) (kc : Go1) (kr : Value → HM) : HM :=
  match exitTo id k with | some t => kc A t ds | none => leaveA P C A ds (some (.exit id)) kr
def sGoto (C : Ctx) (l : Nat) (A : Tree Value) (ds : List Nat) (k : List Item) (kc : Go1) (kr : Value → HM) : HM :=
  match gotoIn l k with | some t => kc A t ds | none => leaveA P C A ds (some (.goto l)) kr
def sRange (R : Rec) (C : Ctx) (f : Operand) (params : Array Tmp) (assign body : Code) (A : Tree Value) (ds : List Nat) (k : List Item) (kc : Go1) (_ : Value → HM) : HM :=
  match okOpd P f with
  | false => .fail
  | true => match C.roundOf with
  | some l => .gb l fun
    | .loop r => .mk (.loop { state := .ready, pending := none, fn := C.fn, n := C.n, tmps := A, params := params.toList, assign, body, defers := r.defers }) fun l =>
        callValueA P R (ev A f) [.func (.yield l) #[] #[]] fun _ => kc A (.endRangeFunc l :: k) ds
    | _ => .fail
  | none => .mk (.defd true) fun r =>
      .mk (.loop { state := .ready, pending := none, fn := C.fn, n := C.n, tmps := A, params := params.toList, assign, body, defers := r }) fun l =>
        callValueA P R (ev A f) [.func (.yield l) #[] #[]] fun _ => kc A (.endRangeFunc l :: k) (r :: ds)
def sCode (R : Rec) (C : Ctx) (c : Code) : Stp :=
  Code.rec (motive := fun _ => Stp)
    (sTo fun k => k)
    (fun _ ops draw => sRegion P R C ops draw)
    (fun a b _ _ => sTo fun k => .code a :: .code b :: k)
    (fun c a b _ _ => sCond P c a b)
    (fun id body _ => sTo fun k => .code body :: .inBlock id :: k)
    (fun body _ => sTo fun k => .code body :: .inLoop body :: k)
    (fun f params assign body _ _ => sRange P R C f params assign body)
    (fun id => sExit P C id)
    (fun body _ => sTo fun k => .code body :: .inScope body :: k)
    (fun _ => sTo fun k => k)
    (fun l => sGoto P C l)
    (fun A ds _ _ kr => leaveA P C A ds (some .ret) kr)
    (fun _ _ _ _ _ _ => .fail) c
def sBegin (C : Ctx) (A : Tree Value) (ds : List Nat) (k : List Item) (kc : Go1) (_ : Value → HM) : HM :=
  match C.roundOf with
  | some l => .gb l fun
    | .loop r => (match r.state with
      | .ready => .sb l (.loop { r with state := .busy }) (kc A k ds)
      | _ => .fail)
    | _ => .fail
  | none => .fail
def sEnd (l : Nat) (A : Tree Value) (ds : List Nat) (k : List Item) (kc : Go1) (_ : Value → HM) : HM :=
  .gb l fun
    | .loop r => (match r.state with
      | .busy => .fail
      | _ => .sb l (.loop { r with state := .exhausted }) (kc A ((r.pending.map Item.code).toList ++ k) ds))
    | _ => .fail
def sNo (_ : Tree Value) (_ : List Nat) (_ : List Item) (_ : Go1) (_ : Value → HM) : HM := .fail
def sItem (R : Rec) (C : Ctx) (it : Item) : Stp :=
  Item.rec (motive := fun _ => Stp)
    (sCode P R C)
    (fun _ => sTo fun k => k)
    (fun body => sTo fun k => .code body :: .inLoop body :: k)
    (fun _ => sTo fun k => k)
    (fun _ _ => sNo)
    (fun _ => sNo)
    sEnd
    (sBegin C)
    (fun _ _ _ _ => sNo)
    (fun _ _ => sNo) it
def stepA (R : Rec) (C : Ctx) (A : Tree Value) (todo : List Item) (ds : List Nat) (kc : Go1) (kr : Value → HM) : HM :=
  List.rec (motive := fun _ => HM) (leaveA P C A ds none kr) (fun it k _ => sItem P R C it A ds k kc kr) todo
/-- 2^n steps at most. -/
def iterA (R : Rec) (C : Ctx) (n : Nat) : Tree Value → List Item → List Nat → Go1 → (Value → HM) → HM :=
  Nat.rec (motive := fun _ => Tree Value → List Item → List Nat → Go1 → (Value → HM) → HM) (stepA P R C)
    (fun _ ih A todo ds kc kr => ih A todo ds (fun A todo ds => ih A todo ds kc kr) kr) n
def stop (_ : Tree Value) (_ : List Item) (_ : List Nat) : HM := .fail

def callA (R : Rec) (f : FuncId) (fn : Func) (args : List Value) (k : Value → HM) : HM :=
  match fn.body with
  | some c => if Nat.ble args.length fn.ntmps && Nat.ble fn.ntmps 1073741824 then iterA P R ⟨f, fn.ntmps, none⟩ 20 (Tree.ofList args) [.code c] [] stop k else .fail
  | none => .fail
def roundA (R : Rec) (l : Nat) (args : List Value) (k : Value → HM) : HM := .gb l fun
  | .loop r => if args.length = r.params.length then
      iterA P R ⟨r.fn, r.n, some l⟩ 20 ((r.params.zip args).foldl (fun t p => putA r.n t (some p.1) p.2) r.tmps) [.code r.assign, .beginRound, .code r.body] [] stop k
    else .fail
  | _ => .fail
def recA (d : Nat) : Rec :=
  Nat.rec (motive := fun _ => Rec) ⟨fun _ _ _ _ => .fail, fun _ _ _ => .fail⟩ (fun _ R => ⟨callA P R, roundA P R⟩) d
end
end Go.Ab
