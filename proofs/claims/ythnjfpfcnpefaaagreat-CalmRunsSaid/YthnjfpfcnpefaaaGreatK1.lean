/-
  The evaluator: operations laid out ahead, and what they do to temporaries and to memory. Conditions: none.
-/
import Derived.Test.YthnjfpfcnpefaaaGreatK0
namespace Go.Am

inductive Opd where
  | tmp (p : Slot)
  | val (v : AVal)
abbrev Tm := Ts AVal
noncomputable def orUndef (o : Option AVal) : AVal := match o with | some v => v | none => .undef
noncomputable def Tm.at (T : Tm) (p : Slot) : AVal := @Option.rec AVal (fun _ => AVal) .undef (fun v => v) (Ts.get p T)
noncomputable def Opd.ev (T : Tm) (x : Opd) : AVal := @Opd.rec (fun _ => AVal) (Tm.at T) (fun v => v) x
theorem Tm.at_eq (T : Tm) (p : Slot) : T.at p = orUndef (Ts.get p T) := by unfold Tm.at; cases Ts.get p T <;> rfl
theorem Opd.ev_tmp (T : Tm) (p : Slot) : Opd.ev T (.tmp p) = T.at p := rfl
theorem Opd.ev_val (T : Tm) (v : AVal) : Opd.ev T (.val v) = v := rfl

/-- Of what kind values are compared. -/
inductive TK where
  | num | bool | ptr | sl
/-- Cells that are compared. -/
inductive CK where
  | b | i | s
/-- Operations that change nothing. -/
inductive QOp where
  | mov (x : Opd)
  | pick (c a b : Opd)
  | load1 (x : Opd)
  | loadN (n : Nat) (x : Opd)
  | nilck (x : Opd)
  | bin (op : BinOp) (tk : TK) (x y : Opd)
  | eqAgg (ks : List CK) (neg : Bool) (x y : Opd)
  | un (op : UnOp) (x : Opd)
  | toInt (k : IntKind) (x : Opd)
  | sameStr (x : Opd)
  | bytesStr (x : Opd)
  | slStr (x : Opd) (lo hi : Option Opd)
  | slSl (esz : Nat) (x : Opd) (lo hi mx : Option Opd)
  | slArr (n esz : Nat) (x : Opd) (lo hi mx : Option Opd)
  | fieldAddr (off : Nat) (x : Opd)
  | field (off n : Nat) (isAgg : Bool) (x : Opd)
  | ixArr (n esz : Nat) (x i : Opd)
  | ixSl (esz : Nat) (x i : Opd)
  | idxAgg (n esz : Nat) (isAgg : Bool) (x i : Opd)
  | idxStr (x i : Opd)
  | extract (i : Nat) (x : Opd)
  | build (zero : List AVal) (parts : List (Nat × Nat × Opd))
  | lenStr (x : Opd)
  | lenSl (x : Opd)
  | lenK (n : Nat)
  | capSl (x : Opd)
  | maxI (x : Opd) (xs : List Opd)
  | minI (x : Opd) (xs : List Opd)
  | mkFunc (f : Nat) (caps : List Opd)
  | mlook (agg : Bool) (cs : List CK) (zero : AVal) (ok : Bool) (x k : Opd)
  | mlen (x : Opd)
  | mentry (x : Opd)
/-- Operations that make a block, and read no memory. -/
inductive AOp where
  | alloc (zero : List AVal)
  | box (x : Opd)
  | bslice (esz : Nat) (zero : List AVal) (len : Nat) (parts : List (Nat × Nat × Opd))
  | mkslice (esz bytes : Nat) (zero : List AVal) (len cap : Opd)
  | strBytes (x : Opd)
/-- Operations that change memory. -/
inductive EOp where
  | store (n : Nat) (x v : Opd)
  | append (esz bytes : Nat) (s x : Opd)
  | copy (esz : Nat) (d s : Opd)
  | call (f : Nat) (args : List Opd)
  | callV (f : Opd) (args : List Opd)
  | mmake (r : Option Opd)
  | mset (agg : Bool) (cs : List CK) (x k v : Opd)
  | mdel (agg : Bool) (cs : List CK) (x k : Opd)
  | ment (agg : Bool) (cs : List CK) (zero : AVal) (x k : Opd)
  | mstamp (x s v : Opd)
  | clr (esz : Nat) (zero : List AVal) (x : Opd)
  | mrange (x : Opd)
  | mnext (x : Opd)
inductive KOp where
  | q (x : QOp)
  | a (x : AOp)
  | e (x : EOp)
structure POp where
  dst : Option Slot
  guard : Option (Slot × Bool)
  op : KOp

noncomputable def cellsOf (v : AVal) : Option (List AVal) := match v with
  | .agg xs => some xs
  | .tup _ => none
  | v => some [v]
/-- An option's value, handed on. -/
noncomputable def andThen {α β : Type} (o : Option α) (k : α → Option β) : Option β := @Option.rec α (fun _ => Option β) none k o
noncomputable def test {β : Type} (b : Bool) (k : Option β) : Option β := @Bool.rec (fun _ => Option β) none k b
theorem andThen_some {α β : Type} (a : α) (k : α → Option β) : andThen (some a) k = k a := rfl
theorem andThen_none {α β : Type} (k : α → Option β) : andThen none k = none := rfl
theorem test_true {β : Type} (k : Option β) : test true k = k := rfl
theorem test_false {β : Type} (k : Option β) : test false k = none := rfl
noncomputable def takeN (n : Nat) : List AVal → Option (List AVal) :=
  @Nat.rec (fun _ => List AVal → Option (List AVal)) (fun _ => some []) (fun _ ih cs => @List.rec AVal (fun _ => Option (List AVal)) none (fun c cs _ => andThen (ih cs) fun r => some (c :: r)) cs) n
noncomputable def dropN (n : Nat) : List AVal → List AVal :=
  @Nat.rec (fun _ => List AVal → List AVal) (fun cs => cs) (fun _ ih cs => @List.rec AVal (fun _ => List AVal) [] (fun _ cs _ => ih cs) cs) n
noncomputable def nthV (n : Nat) : List AVal → Option AVal :=
  @Nat.rec (fun _ => List AVal → Option AVal) (fun cs => @List.rec AVal (fun _ => Option AVal) none (fun c _ _ => some c) cs) (fun _ ih cs => @List.rec AVal (fun _ => Option AVal) none (fun _ cs _ => ih cs) cs) n
noncomputable def over (new : List AVal) : List AVal → Option (List AVal) :=
  @List.rec AVal (fun _ => List AVal → Option (List AVal)) (fun cs => some cs) (fun v _ ih cs => @List.rec AVal (fun _ => Option (List AVal)) none (fun _ cs _ => andThen (ih cs) fun r => some (v :: r)) cs) new
noncomputable def putN (n : Nat) (new : List AVal) : List AVal → Option (List AVal) :=
  @Nat.rec (fun _ => List AVal → Option (List AVal)) (over new) (fun _ ih cs => @List.rec AVal (fun _ => Option (List AVal)) none (fun c cs _ => andThen (ih cs) fun r => some (c :: r)) cs) n
theorem takeN_zero (cs : List AVal) : takeN 0 cs = some [] := rfl
theorem takeN_nil (n : Nat) : takeN (n + 1) [] = none := rfl
theorem takeN_cons (n : Nat) (c : AVal) (cs : List AVal) : takeN (n + 1) (c :: cs) = andThen (takeN n cs) fun r => some (c :: r) := rfl
theorem dropN_zero (cs : List AVal) : dropN 0 cs = cs := rfl
theorem dropN_nil (n : Nat) : dropN (n + 1) [] = [] := rfl
theorem dropN_cons (n : Nat) (c : AVal) (cs : List AVal) : dropN (n + 1) (c :: cs) = dropN n cs := rfl
theorem nthV_nil (n : Nat) : nthV n [] = none := by cases n <;> rfl
theorem nthV_zero (c : AVal) (cs : List AVal) : nthV 0 (c :: cs) = some c := rfl
theorem nthV_succ (n : Nat) (c : AVal) (cs : List AVal) : nthV (n + 1) (c :: cs) = nthV n cs := rfl
theorem over_nil (cs : List AVal) : over [] cs = some cs := rfl
theorem over_nil' (v : AVal) (vs : List AVal) : over (v :: vs) [] = none := rfl
theorem over_cons (v : AVal) (vs : List AVal) (c : AVal) (cs : List AVal) : over (v :: vs) (c :: cs) = andThen (over vs cs) fun r => some (v :: r) := rfl
theorem putN_zero (new cs : List AVal) : putN 0 new cs = over new cs := rfl
theorem putN_nil (n : Nat) (new : List AVal) : putN (n + 1) new [] = none := rfl
theorem putN_cons (n : Nat) (new : List AVal) (c : AVal) (cs : List AVal) : putN (n + 1) new (c :: cs) = andThen (putN n new cs) fun r => some (c :: r) := rfl
noncomputable def repN : Nat → List AVal → List AVal
  | 0, _ => []
  | n + 1, z => z ++ repN n z
noncomputable def lenN (cs : List AVal) : Nat := match cs with
  | [] => 0
  | _ :: cs => Nat.succ (lenN cs)

/-- Tests on numbers, by the kernel's own arithmetic. -/
noncomputable def ieq (a b : Int) : Bool := match a, b with
  | .ofNat m, .ofNat n => Nat.beq m n
  | .negSucc m, .negSucc n => Nat.beq m n
  | _, _ => false
noncomputable def ilt (a b : Int) : Bool := match a, b with
  | .ofNat m, .ofNat n => Nat.ble (Nat.succ m) n
  | .ofNat _, .negSucc _ => false
  | .negSucc _, .ofNat _ => true
  | .negSucc m, .negSucc n => Nat.ble (Nat.succ n) m
noncomputable def keq (a b : IntKind) : Bool := match a with
  | .i8 => match b with | .i8 => true | _ => false
  | .i16 => match b with | .i16 => true | _ => false
  | .i32 => match b with | .i32 => true | _ => false
  | .i64 => match b with | .i64 => true | _ => false
  | .u8 => match b with | .u8 => true | _ => false
  | .u16 => match b with | .u16 => true | _ => false
  | .u32 => match b with | .u32 => true | _ => false
  | .u64 => match b with | .u64 => true | _ => false
noncomputable def seq (a b : List Nat) : Bool := match a with
  | [] => match b with | [] => true | _ :: _ => false
  | x :: a => match b with | [] => false | y :: b => match Nat.beq x y with | true => seq a b | false => false
noncomputable def beqB (a b : Bool) : Bool := match a with
  | true => b
  | false => match b with | true => false | false => true
noncomputable def notB (a : Bool) : Bool := match a with
  | true => false
  | false => true
/-- 'IntKind.wrap'. -/
def i64max : Nat := 9223372036854775807
def wI64 (n : Int) : Int := match n with
  | .ofNat m => match Nat.ble m i64max with | true => .ofNat m | false => IntKind.wrap .i64 (.ofNat m)
  | .negSucc m => match Nat.ble m i64max with | true => .negSucc m | false => IntKind.wrap .i64 (.negSucc m)
def wU (md : Nat) (k : IntKind) (n : Int) : Int := match n with
  | .ofNat m => .ofNat (Nat.mod m md)
  | .negSucc m => IntKind.wrap k (.negSucc m)
def wrapK (k : IntKind) (n : Int) : Int :=
  match k with
  | .i64 => wI64 n
  | .u8 => wU 256 .u8 n
  | .u32 => wU 4294967296 .u32 n
  | .u64 => wU 18446744073709551616 .u64 n
  | k => IntKind.wrap k n
/-- A whole number as an answer, laid ready. -/
noncomputable def outI (k : IntKind) (n : Int) : Option AVal := forceInt n fun n => some (.int k n)
noncomputable def outB (b : Bool) : Option AVal := match b with
  | true => some (.bool true)
  | false => some (.bool false)
noncomputable def outIB (k : IntKind) (n : Int) : Option AVal := outI k (wrapK k n)

noncomputable def eq1 (c : CK) (x y : AVal) : Option Bool := match c with
  | .b => match x with
    | .bool a => match y with | .bool b => some (beqB a b) | _ => none
    | _ => none
  | .i => match x with
    | .int k a => match y with | .int l b => test (keq k l) (some (ieq a b)) | _ => none
    | _ => none
  | .s => match x with
    | .str a => match y with | .str b => some (seq a b) | _ => none
    | _ => none
noncomputable def eqCells (cs : List CK) (xs ys : List AVal) : Option Bool := match cs with
  | [] => some true
  | c :: cs => match xs with
    | [] => none
    | x :: xs => match ys with
      | [] => none
      | y :: ys => andThen (eq1 c x y) fun b => match b with | true => eqCells cs xs ys | false => some false
def lenC (cs : List CK) : Nat := match cs with
  | [] => 0
  | _ :: cs => Nat.succ (lenC cs)
/-- Surely the same value? -/
noncomputable def same1 (x y : AVal) : Bool := match x with
  | .bool a => match y with | .bool b => beqB a b | _ => false
  | .int k a => match y with | .int l b => (match keq k l with | true => ieq a b | false => false) | _ => false
  | .str a => match y with | .str b => seq a b | _ => false
  | .nptr => match y with | .nptr => true | _ => false
  | .ptr b o => match y with | .ptr c p => (match b.beq c with | true => Nat.beq o p | false => false) | _ => false
  | .nsl => match y with | .nsl => true | _ => false
  | .sl b o l c => match y with | .sl b' o' l' c' => b.beq b' && (Nat.beq o o' && (Nat.beq l l' && Nat.beq c c')) | _ => false
  | .slu b o l e => match y with | .slu b' o' l' e' => b.beq b' && (Nat.beq o o' && (Nat.beq l l' && Nat.beq e e')) | _ => false
  | .nmap => match y with | .nmap => true | _ => false
  | .map b => match y with | .map c => b.beq c | _ => false
  | .nfunc => match y with | .nfunc => true | _ => false
  | .niface => match y with | .niface => true | _ => false
  | _ => false
noncomputable def sames (xs ys : List AVal) : Bool := match xs with
  | [] => match ys with | [] => true | _ :: _ => false
  | x :: xs => match ys with
    | [] => false
    | y :: ys => match same1 x y with | true => sames xs ys | false => false
noncomputable def same (x y : AVal) : Bool := match x with
  | .agg xs => match y with | .agg ys => sames xs ys | _ => false
  | x => same1 x y

noncomputable def natOf (k : IntKind) (a : Int) : Nat := match a with
  | .ofNat m => match k with
    | .u32 => Nat.mod m 4294967296
    | .u64 => Nat.mod m 18446744073709551616
    | .u8 => Nat.mod m 256
    | k => Nat.mod m (2 ^ k.bits)
  | a => (a % (2 ^ k.bits : Nat)).toNat
noncomputable def natsLess (x y : List Nat) : Bool := match y with
  | [] => false
  | b :: y => match x with
    | [] => true
    | a :: x => match Nat.ble (Nat.succ a) b with
      | true => true
      | false => match Nat.beq a b with | true => natsLess x y | false => false
noncomputable def lenS (s : List Nat) : Nat := match s with
  | [] => 0
  | _ :: s => Nat.succ (lenS s)
/-- Two whole numbers of one kind, by the operation. -/
noncomputable def iadd (a b : Int) : Int := match a with
  | .ofNat m => match b with
    | .ofNat n => .ofNat (Nat.add m n)
    | b => Int.add (.ofNat m) b
  | a => Int.add a b
noncomputable def isub (a b : Int) : Int := match a with
  | .ofNat m => match b with
    | .ofNat n => match Nat.ble n m with
      | true => .ofNat (Nat.sub m n)
      | false => .negSucc (Nat.pred (Nat.sub n m))
    | b => Int.sub (.ofNat m) b
  | a => Int.sub a b
noncomputable def addI (k : IntKind) (a b : Int) : Option AVal := outIB k (iadd a b)
noncomputable def subI (k : IntKind) (a b : Int) : Option AVal := outIB k (isub a b)
noncomputable def mulI (k : IntKind) (a b : Int) : Option AVal := outIB k (Int.mul a b)
noncomputable def quoI (k : IntKind) (a b : Int) : Option AVal := match ieq b 0 with | true => none | false => outIB k (Int.tdiv a b)
noncomputable def remI (k : IntKind) (a b : Int) : Option AVal := match ieq b 0 with | true => none | false => outI k (Int.tmod a b)
noncomputable def andI (k : IntKind) (a b : Int) : Option AVal := outIB k (.ofNat (Nat.land (natOf k a) (natOf k b)))
noncomputable def orI (k : IntKind) (a b : Int) : Option AVal := outIB k (.ofNat (Nat.lor (natOf k a) (natOf k b)))
noncomputable def xorI (k : IntKind) (a b : Int) : Option AVal := outIB k (.ofNat (Nat.xor (natOf k a) (natOf k b)))
noncomputable def noI (_ : IntKind) (_ _ : Int) : Option AVal := none
noncomputable def eqlI (_ : IntKind) (a b : Int) : Option AVal := outB (ieq a b)
noncomputable def neqI (_ : IntKind) (a b : Int) : Option AVal := outB (notB (ieq a b))
noncomputable def lssI (_ : IntKind) (a b : Int) : Option AVal := outB (ilt a b)
noncomputable def leqI (_ : IntKind) (a b : Int) : Option AVal := outB (notB (ilt b a))
noncomputable def gtrI (_ : IntKind) (a b : Int) : Option AVal := outB (ilt b a)
noncomputable def geqI (_ : IntKind) (a b : Int) : Option AVal := outB (notB (ilt a b))
noncomputable def intOp (op : BinOp) : IntKind → Int → Int → Option AVal := match op with
  | .add => addI | .sub => subI | .mul => mulI | .quo => quoI | .rem => remI | .and => andI | .or => orI | .xor => xorI
  | .andNot => noI | .shl => noI | .shr => noI
  | .eql => eqlI | .neq => neqI | .lss => lssI | .leq => leqI | .gtr => gtrI | .geq => geqI
noncomputable def shlI (k : IntKind) (a b : Int) : Option AVal := match b with
  | .ofNat n => outIB k (Int.mul a (.ofNat (Nat.pow 2 (min n k.bits))))
  | .negSucc _ => none
noncomputable def shrI (k : IntKind) (a b : Int) : Option AVal := match b with
  | .ofNat n => match a with
    | .ofNat m => outI k (.ofNat (Nat.div m (Nat.pow 2 (min n k.bits))))
    | a => outI k (Int.fdiv a (.ofNat (Nat.pow 2 (min n k.bits))))
  | .negSucc _ => none
noncomputable def addS (x y : List Nat) : Option AVal := match Nat.ble (Nat.add (lenS x) (lenS y)) 1099511627776 with
  | true => forceNats (x ++ y) fun s => some (.str s)
  | false => none
noncomputable def eqlS (x y : List Nat) : Option AVal := outB (seq x y)
noncomputable def neqS (x y : List Nat) : Option AVal := outB (notB (seq x y))
noncomputable def lssS (x y : List Nat) : Option AVal := outB (natsLess x y)
noncomputable def leqS (x y : List Nat) : Option AVal := outB (natsLess x y || seq x y)
noncomputable def gtrS (x y : List Nat) : Option AVal := outB (notB (natsLess x y || seq x y))
noncomputable def geqS (x y : List Nat) : Option AVal := outB (notB (natsLess x y))
noncomputable def noS (_ _ : List Nat) : Option AVal := none
noncomputable def strOp (op : BinOp) : List Nat → List Nat → Option AVal := match op with
  | .add => addS | .eql => eqlS | .neq => neqS | .lss => lssS | .leq => leqS | .gtr => gtrS | .geq => geqS
  | _ => noS
noncomputable def nilEq (tk : TK) (x y : AVal) : Option Bool := match tk with
  | .num => none
  | .bool => match x with
    | .bool a => match y with | .bool b => some (beqB a b) | _ => none
    | _ => none
  | .ptr => match x with
    | .nptr => match y with | .nptr => some true | .ptr _ _ => some false | _ => none
    | .ptr _ _ => match y with | .nptr => some false | _ => none
    | _ => none
  | .sl => match x with
    | .nsl => match y with | .nsl => some true | .sl _ _ _ _ => some false | .slu _ _ _ _ => some false | _ => none
    | .sl _ _ _ _ => match y with | .nsl => some false | _ => none
    | .slu _ _ _ _ => match y with | .nsl => some false | _ => none
    | _ => none
noncomputable def nilOp (op : BinOp) (tk : TK) (x y : AVal) : Option AVal := match op with
  | .eql => andThen (nilEq tk x y) outB
  | .neq => andThen (nilEq tk x y) fun b => outB (notB b)
  | _ => none
noncomputable def isSh (op : BinOp) : Bool := match op with
  | .shl => true
  | .shr => true
  | _ => false
noncomputable def shOp (op : BinOp) (k : IntKind) (a b : Int) : Option AVal := match op with
  | .shl => shlI k a b
  | .shr => shrI k a b
  | _ => none
noncomputable def binII (op : BinOp) (k : IntKind) (a : Int) (l : IntKind) (b : Int) : Option AVal :=
  match isSh op with
  | true => shOp op k a b
  | false => match keq k l with
    | true => intOp op k a b
    | false => none
noncomputable def binA (op : BinOp) (tk : TK) (x y : AVal) : Option AVal := match x with
  | .int k a => match y with | .int l b => binII op k a l b | _ => none
  | .str a => match y with | .str b => strOp op a b | _ => none
  | x => nilOp op tk x y
noncomputable def unA (op : UnOp) (x : AVal) : Option AVal :=
  match op with
  | .neg => match x with | .int k n => outIB k (Int.sub 0 n) | _ => none
  | .xor => match x with | .int k n => xorI k (if k.signed then -1 else k.max) n | _ => none
  | .not => match x with | .bool b => outB (notB b) | _ => none
  | .plus => none
noncomputable def bnd (x : Option AVal) (d y : Nat) : Option Nat :=
  match x with
  | none => some d
  | some x => match x with
    | .int _ i => match i with
      | .ofNat m => match Nat.ble m y with | true => some m | false => none
      | .negSucc _ => none
    | _ => none
noncomputable def ixOf (x : AVal) (n : Nat) : Option Nat :=
  match x with
  | .int _ i => match i with
    | .ofNat m => match Nat.ble (Nat.succ m) n with | true => some m | false => none
    | .negSucc _ => none
  | _ => none
noncomputable def fillA (cells : List AVal) (l : List (Nat × Nat × AVal)) : Option (List AVal) := match l with
  | [] => some cells
  | (off, n, v) :: rest => andThen (cellsOf v) fun cs => test (Nat.beq (lenN cs) n) (andThen (putN off cs cells) fun cells => fillA cells rest)
noncomputable def S.read (σ : S) (b : Pos) (o n : Nat) : Option (List AVal) :=
  andThen (Tr.get b σ.heap) fun blk => takeN n (dropN o blk.cells)
noncomputable def u8s (l : List AVal) : Option (List Nat) := match l with
  | [] => some []
  | c :: r => match c with
    | .int k m => match k with
      | .u8 => match m with
        | .ofNat n => test (Nat.ble n 255) (andThen (u8s r) fun s => some (n :: s))
        | .negSucc _ => none
      | _ => none
    | _ => none
noncomputable def natsAt (n : Nat) (s : List Nat) : Option Nat := match s with
  | [] => none
  | c :: s => match n with
    | 0 => some c
    | .succ n => natsAt n s
noncomputable def maxA (v : AVal) (l : List AVal) : Option AVal := match l with
  | [] => some v
  | w :: r => match v with
    | .int k a => match w with
      | .int _ b => match ilt a b with
        | true => maxA (.int k b) r
        | false => maxA (.int k a) r
      | _ => none
    | _ => none
noncomputable def minA (v : AVal) (l : List AVal) : Option AVal := match l with
  | [] => some v
  | w :: r => match v with
    | .int k a => match w with
      | .int _ b => match ilt b a with
        | true => minA (.int k b) r
        | false => minA (.int k a) r
      | _ => none
    | _ => none
noncomputable def evs (T : Tm) (xs : List Opd) : List AVal := match xs with
  | [] => []
  | x :: xs => headK (x.ev T) fun v => v :: evs T xs
noncomputable def evParts (T : Tm) (ps : List (Nat × Nat × Opd)) : List (Nat × Nat × AVal) := match ps with
  | [] => []
  | (o, n, x) :: ps => (o, n, x.ev T) :: evParts T ps
noncomputable def evo (T : Tm) (x : Option Opd) : Option AVal := match x with
  | none => none
  | some x => some (x.ev T)

noncomputable def vLoad1 (v : AVal) (σ : S) : Option AVal := match v with
  | .ptr b o => andThen (Tr.get b σ.heap) fun blk => nthV o blk.cells
  | _ => none
noncomputable def vLoadN (n : Nat) (v : AVal) (σ : S) : Option AVal := match v with
  | .ptr b o => andThen (σ.read b o n) fun cs => some (.agg cs)
  | _ => none
noncomputable def vNilck (v : AVal) : Option AVal := match v with
  | .nptr => none
  | .niface => none
  | .nfunc => none
  | .func _ _ => none
  | v => some v
noncomputable def vPick (c a b : AVal) : Option AVal := match c with
  | .bool t => match t with | true => some a | false => some b
  | _ => none
noncomputable def vEqAgg (ks : List CK) (neg : Bool) (x y : AVal) : Option AVal := match x with
  | .agg xs => match y with
    | .agg ys => test (Nat.beq (lenN xs) (lenC ks)) (test (Nat.beq (lenN ys) (lenC ks)) (andThen (eqCells ks xs ys) fun r => match neg with | true => outB (notB r) | false => outB r))
    | _ => none
  | _ => none
noncomputable def vToInt (k : IntKind) (v : AVal) : Option AVal := match v with
  | .int _ n => outIB k n
  | _ => none
noncomputable def vSameStr (v : AVal) : Option AVal := match v with
  | .str s => some (.str s)
  | _ => none
noncomputable def vBytes (σ : S) (b : Pos) (o len : Nat) : Option AVal :=
  match len with
  | 0 => some (.str [])
  | .succ l => andThen (σ.read b o (.succ l)) fun cs => andThen (u8s cs) fun s => some (.str s)
noncomputable def vBytesStr (v : AVal) (σ : S) : Option AVal := match v with
  | .nsl => some (.str [])
  | .sl b o len _ => vBytes σ b o len
  | .slu b o len _ => vBytes σ b o len
  | _ => none
/-- Low, high and most. -/
noncomputable def bounds (lo hi mx : Option AVal) (len cap : Nat) : Option (Nat × Nat × Nat) :=
  andThen (bnd mx cap cap) fun m => andThen (bnd hi len m) fun h => andThen (bnd lo 0 h) fun l => some (l, h, m)
noncomputable def vSlStr (v : AVal) (lo hi : Option AVal) : Option AVal := match v with
  | .str s => andThen (bounds lo hi none (lenS s) (lenS s)) fun (l, h, _) => forceNats ((s.drop l).take (h - l)) fun s => some (.str s)
  | _ => none
/-- A slice with its place and lengths laid ready. -/
noncomputable def outSl (b : Pos) (o len cap : Nat) : Option AVal := forceNat o fun o => forceNat len fun len => forceNat cap fun cap => some (.sl b o len cap)
noncomputable def outSlu (b : Pos) (o len esz : Nat) : Option AVal := forceNat o fun o => forceNat len fun len => some (.slu b o len esz)
noncomputable def outPtr (b : Pos) (o : Nat) : Option AVal := forceNat o fun o => some (.ptr b o)
noncomputable def slKnown (esz : Nat) (b : Pos) (o : Nat) (x : Nat × Nat × Nat) : Option AVal := match x with
  | (l, h, m) => match Nat.beq m l with
    | true => outSl b o (h - l) (m - l)
    | false => outSl b (o + l * esz) (h - l) (m - l)
noncomputable def isZero (n : Nat) : Bool := match n with
  | 0 => true
  | .succ _ => false
noncomputable def vSlSl (esz : Nat) (v : AVal) (lo hi mx : Option AVal) : Option AVal := match v with
  | .nsl => andThen (bounds lo hi mx 0 0) fun _ => some .nsl
  | .sl b o len cap => andThen (bounds lo hi mx len cap) (slKnown esz b o)
  | .slu b o len z => match mx with
    | none => test (Nat.beq z esz) (andThen (bounds lo hi none len len) fun (l, h, _) => outSlu b (o + l * esz) (h - l) z)
    | some mx => andThen (bounds lo hi (some mx) len len) fun r => match isZero len with
      | true => outSlu b o 0 z
      | false => slKnown esz b o r
  | _ => none
noncomputable def vSlArr (n esz : Nat) (v : AVal) (lo hi mx : Option AVal) : Option AVal := match v with
  | .ptr b o => andThen (bounds lo hi mx n n) (slKnown esz b o)
  | _ => none
noncomputable def vFieldAddr (off : Nat) (v : AVal) : Option AVal := match v with
  | .ptr b o => outPtr b (o + off)
  | _ => none
noncomputable def vPart (off n : Nat) (isAgg : Bool) (v : AVal) : Option AVal := match v with
  | .agg cs => match isAgg with
    | true => andThen (takeN n (dropN off cs)) fun r => some (.agg r)
    | false => nthV off cs
  | _ => none
noncomputable def vIxArr (n esz : Nat) (v i : AVal) : Option AVal := match v with
  | .ptr b o => andThen (ixOf i n) fun j => outPtr b (o + j * esz)
  | _ => none
noncomputable def vIxSl (esz : Nat) (v i : AVal) : Option AVal := match v with
  | .sl b o len _ => andThen (ixOf i len) fun j => outPtr b (o + j * esz)
  | .slu b o len _ => andThen (ixOf i len) fun j => outPtr b (o + j * esz)
  | _ => none
noncomputable def vIdxAgg (n esz : Nat) (isAgg : Bool) (v i : AVal) : Option AVal := match v with
  | .agg cs => andThen (ixOf i n) fun j => vPart (j * esz) esz isAgg (.agg cs)
  | _ => none
noncomputable def vIdxStr (v i : AVal) : Option AVal := match v with
  | .str s => match i with
    | .int _ j => match j with
      | .ofNat j => andThen (natsAt j s) fun c => some (.int .u8 (.ofNat c))
      | .negSucc _ => none
    | _ => none
  | _ => none
noncomputable def vExtract (i : Nat) (v : AVal) : Option AVal := match v with
  | .tup vs => nthV i vs
  | _ => none
noncomputable def vLenStr (v : AVal) : Option AVal := match v with
  | .str s => outI .i64 (.ofNat (lenS s))
  | _ => none
noncomputable def vLenSl (v : AVal) : Option AVal := match v with
  | .nsl => some (.int .i64 (.ofNat 0))
  | .sl _ _ len _ => some (.int .i64 (.ofNat len))
  | .slu _ _ len _ => some (.int .i64 (.ofNat len))
  | _ => none
noncomputable def vCapSl (v : AVal) : Option AVal := match v with
  | .nsl => some (.int .i64 (.ofNat 0))
  | .sl _ _ _ c => some (.int .i64 (.ofNat c))
  | _ => none

/-! Maps: entries by their time, key, value. -/
abbrev MEs := List (Nat × AVal × AVal)
/-- Is it a key of this shape? -/
noncomputable def keyShape (agg : Bool) (cs : List CK) (k : AVal) : Bool := match k with
  | .agg xs => match agg with | true => Nat.beq (lenN xs) (lenC cs) | false => false
  | .bool _ => notB agg
  | .int _ _ => notB agg
  | .str _ => notB agg
  | _ => false
/-- A key of a map; else what stands there is no map but a range over one: its first entry tells which. -/
noncomputable def goodKey (k : AVal) : Bool := match k with
  | .agg _ => true
  | .bool _ => true
  | .int _ _ => true
  | .str _ => true
  | _ => false
noncomputable def genuine (es : MEs) : Bool := match es with
  | [] => true
  | (_, k, _) :: _ => goodKey k
noncomputable def keyEq (agg : Bool) (cs : List CK) (x y : AVal) : Option Bool := match agg with
  | true => match x with
    | .agg xs => match y with
      | .agg ys => test (Nat.beq (lenN xs) (lenC cs)) (test (Nat.beq (lenN ys) (lenC cs)) (eqCells cs xs ys))
      | _ => none
    | _ => none
  | false => match cs with
    | [] => none
    | c :: r => match r with
      | [] => eq1 c x y
      | _ :: _ => none
noncomputable def mget (agg : Bool) (cs : List CK) (k : AVal) (es : MEs) : Option (Option (Nat × AVal)) := match es with
  | [] => some none
  | (b, k', v) :: es => andThen (keyEq agg cs k k') fun r => match r with
    | true => some (some (b, v))
    | false => mget agg cs k es
/-- Put; whether the key is new. -/
noncomputable def mput (agg : Bool) (cs : List CK) (clock : Nat) (k v : AVal) (es : MEs) : Option (Bool × MEs) := match es with
  | [] => some (true, [(clock, k, v)])
  | (b, k', v') :: es => andThen (keyEq agg cs k k') fun r => match r with
    | true => some (false, (b, k, v) :: es)
    | false => andThen (mput agg cs clock k v es) fun x => match x with | (n, es) => some (n, (b, k', v') :: es)
noncomputable def mrem (agg : Bool) (cs : List CK) (k : AVal) (es : MEs) : Option MEs := match es with
  | [] => some []
  | (b, k', v') :: es => andThen (keyEq agg cs k k') fun r => match r with
    | true => some es
    | false => andThen (mrem agg cs k es) fun es => some ((b, k', v') :: es)
noncomputable def mborn (n : Int) (v : AVal) (es : MEs) : Option MEs := match es with
  | [] => none
  | (b, k', v') :: es => match ieq (.ofNat b) n with
    | true => some ((b, k', v) :: es)
    | false => andThen (mborn n v es) fun es => some ((b, k', v') :: es)
noncomputable def lenM (es : MEs) : Nat := match es with
  | [] => 0
  | _ :: es => Nat.succ (lenM es)
noncomputable def outOk (ok b : Bool) (v : AVal) : Option AVal := match ok with
  | true => some (.tup [v, .bool b])
  | false => some v
noncomputable def mlookE (agg : Bool) (cs : List CK) (zero : AVal) (ok : Bool) (k : AVal) (es : MEs) : Option AVal :=
  andThen (mget agg cs k es) fun r => match r with
    | some x => match x with | (_, v) => outOk ok true v
    | none => outOk ok false zero
noncomputable def vLook (agg : Bool) (cs : List CK) (zero : AVal) (ok : Bool) (x k : AVal) (σ : S) : Option AVal := test (keyShape agg cs k) (match x with
  | .nmap => mlookE agg cs zero ok k []
  | .map b => andThen (Tr.get b σ.maps) fun mb => match mb with | ⟨_, es⟩ => test (genuine es) (mlookE agg cs zero ok k es)
  | _ => none)
noncomputable def vLenM (x : AVal) (σ : S) : Option AVal := match x with
  | .nmap => some (.int .i64 (.ofNat 0))
  | .map b => andThen (Tr.get b σ.maps) fun mb => match mb with | ⟨_, es⟩ => test (genuine es) (outI .i64 (.ofNat (lenM es)))
  | _ => none
noncomputable def mfind (n : Int) (es : MEs) : Option AVal := match es with
  | [] => none
  | (b, k, v) :: es => match ieq (.ofNat b) n with
    | true => some (.tup [k, v])
    | false => mfind n es
/-- A range over a map: when it was last asked; the map; what it has told. -/
noncomputable def iterOf (es : MEs) : Option (Nat × AVal × List AVal) := match es with
  | [] => none
  | (last, src, sv) :: r => match r with
    | [] => match sv with
      | .tup seen => some (last, src, seen)
      | _ => none
    | _ :: _ => none
noncomputable def entryIn (last : Nat) (b : Pos) (n : Int) (σ : S) : Option AVal := andThen (Tr.get b σ.maps) fun mb => match mb with
  | ⟨clock, es⟩ => test (genuine es) (test (Nat.beq clock last) (mfind n es))
noncomputable def vEntry (x : AVal) (σ : S) : Option AVal := match x with
  | .ptr p o => test (isZero o) (andThen (Tr.get p σ.maps) fun mb => match mb with
    | ⟨_, es⟩ => andThen (iterOf es) fun i => match i with
      | (last, src, seen) => match src with
        | .map b => match seen with
          | [] => none
          | s :: r => match r with
            | [] => match s with
              | .int _ n => entryIn last b n σ
              | _ => none
            | _ :: _ => none
        | _ => none)
  | _ => none
noncomputable def qMentry (x : Opd) (T : Tm) (σ : S) : Option AVal := vEntry (x.ev T) σ
noncomputable def qMlook (agg : Bool) (cs : List CK) (zero : AVal) (ok : Bool) (x k : Opd) (T : Tm) (σ : S) : Option AVal := vLook agg cs zero ok (x.ev T) (k.ev T) σ
noncomputable def qMlen (x : Opd) (T : Tm) (σ : S) : Option AVal := vLenM (x.ev T) σ
noncomputable def qMov (x : Opd) (T : Tm) (_ : S) : Option AVal := headK (x.ev T) some
noncomputable def qPick (c a b : Opd) (T : Tm) (_ : S) : Option AVal := andThen (vPick (c.ev T) (a.ev T) (b.ev T)) fun v => headK v some
noncomputable def qLoad (x : Opd) (T : Tm) (σ : S) : Option AVal := vLoad1 (x.ev T) σ
noncomputable def qLoadN (n : Nat) (x : Opd) (T : Tm) (σ : S) : Option AVal := vLoadN n (x.ev T) σ
noncomputable def qNilck (x : Opd) (T : Tm) (_ : S) : Option AVal := vNilck (x.ev T)
noncomputable def qBin (op : BinOp) (tk : TK) (x y : Opd) (T : Tm) (_ : S) : Option AVal := binA op tk (x.ev T) (y.ev T)
noncomputable def qEqAgg (ks : List CK) (neg : Bool) (x y : Opd) (T : Tm) (_ : S) : Option AVal := vEqAgg ks neg (x.ev T) (y.ev T)
noncomputable def qUn (op : UnOp) (x : Opd) (T : Tm) (_ : S) : Option AVal := unA op (x.ev T)
noncomputable def qToInt (k : IntKind) (x : Opd) (T : Tm) (_ : S) : Option AVal := vToInt k (x.ev T)
noncomputable def qSameStr (x : Opd) (T : Tm) (_ : S) : Option AVal := vSameStr (x.ev T)
noncomputable def qBytesStr (x : Opd) (T : Tm) (σ : S) : Option AVal := vBytesStr (x.ev T) σ
noncomputable def qSlStr (x : Opd) (lo hi : Option Opd) (T : Tm) (_ : S) : Option AVal := vSlStr (x.ev T) (evo T lo) (evo T hi)
noncomputable def qSlSl (esz : Nat) (x : Opd) (lo hi mx : Option Opd) (T : Tm) (_ : S) : Option AVal := vSlSl esz (x.ev T) (evo T lo) (evo T hi) (evo T mx)
noncomputable def qSlArr (n esz : Nat) (x : Opd) (lo hi mx : Option Opd) (T : Tm) (_ : S) : Option AVal := vSlArr n esz (x.ev T) (evo T lo) (evo T hi) (evo T mx)
noncomputable def qFieldAddr (off : Nat) (x : Opd) (T : Tm) (_ : S) : Option AVal := vFieldAddr off (x.ev T)
noncomputable def qField (off n : Nat) (isAgg : Bool) (x : Opd) (T : Tm) (_ : S) : Option AVal := vPart off n isAgg (x.ev T)
noncomputable def qIxArr (n esz : Nat) (x i : Opd) (T : Tm) (_ : S) : Option AVal := vIxArr n esz (x.ev T) (i.ev T)
noncomputable def qIxSl (esz : Nat) (x i : Opd) (T : Tm) (_ : S) : Option AVal := vIxSl esz (x.ev T) (i.ev T)
noncomputable def qIdxAgg (n esz : Nat) (isAgg : Bool) (x i : Opd) (T : Tm) (_ : S) : Option AVal := vIdxAgg n esz isAgg (x.ev T) (i.ev T)
noncomputable def qIdxStr (x i : Opd) (T : Tm) (_ : S) : Option AVal := vIdxStr (x.ev T) (i.ev T)
noncomputable def qExtract (i : Nat) (x : Opd) (T : Tm) (_ : S) : Option AVal := vExtract i (x.ev T)
noncomputable def qBuild (zero : List AVal) (parts : List (Nat × Nat × Opd)) (T : Tm) (_ : S) : Option AVal :=
  andThen (fillA zero (evParts T parts)) fun cs => forces cs fun cs => some (.agg cs)
noncomputable def qLenStr (x : Opd) (T : Tm) (_ : S) : Option AVal := vLenStr (x.ev T)
noncomputable def qLenSl (x : Opd) (T : Tm) (_ : S) : Option AVal := vLenSl (x.ev T)
noncomputable def qLenK (n : Nat) (_ : Tm) (_ : S) : Option AVal := some (.int .i64 (.ofNat n))
noncomputable def qCapSl (x : Opd) (T : Tm) (_ : S) : Option AVal := vCapSl (x.ev T)
noncomputable def qMaxI (x : Opd) (xs : List Opd) (T : Tm) (_ : S) : Option AVal := maxA (x.ev T) (evs T xs)
noncomputable def qMinI (x : Opd) (xs : List Opd) (T : Tm) (_ : S) : Option AVal := minA (x.ev T) (evs T xs)
noncomputable def scals (l : List AVal) : Option (List AVal) := match l with
  | [] => some []
  | v :: l => match v with
    | .agg _ => none
    | .tup _ => none
    | v => andThen (scals l) fun l => some (v :: l)
noncomputable def qMkFunc (f : Nat) (caps : List Opd) (T : Tm) (_ : S) : Option AVal := andThen (scals (evs T caps)) fun l => some (.func f l)
noncomputable def evalQ (q : QOp) : Tm → S → Option AVal :=
  @QOp.rec (fun _ => Tm → S → Option AVal) qMov qPick qLoad qLoadN qNilck qBin qEqAgg qUn qToInt qSameStr qBytesStr qSlStr qSlSl qSlArr qFieldAddr qField
    qIxArr qIxSl qIdxAgg qIdxStr qExtract qBuild qLenStr qLenSl qLenK qCapSl qMaxI qMinI qMkFunc qMlook qMlen qMentry q

/-- A new block, and the value that names it once it has its name. -/
noncomputable def aAlloc (zero : List AVal) (_ : Tm) : Option (Blk × (Pos → AVal)) := some (⟨0, .ex, zero⟩, fun p => .ptr p 0)
noncomputable def aBox (x : Opd) (T : Tm) : Option (Blk × (Pos → AVal)) := andThen (cellsOf (x.ev T)) fun cs => some (⟨0, .ex, cs⟩, fun p => .ptr p 0)
noncomputable def aBslice (esz : Nat) (zero : List AVal) (len : Nat) (parts : List (Nat × Nat × Opd)) (T : Tm) : Option (Blk × (Pos → AVal)) :=
  andThen (fillA (repN len zero) (evParts T parts)) fun cs => some (⟨esz, .ex, cs⟩, fun p => .sl p 0 len len)
noncomputable def mkLen (bytes : Nat) (l c : AVal) : Option (Nat × Nat) := match l with
  | .int _ l => match c with
    | .int _ c => match l with
      | .ofNat l => match c with
        | .ofNat c => test (Nat.ble l c && (Nat.ble (c * bytes) 1099511627776 && Nat.ble c 1099511627776)) (some (l, c))
        | .negSucc _ => none
      | .negSucc _ => none
    | _ => none
  | _ => none
noncomputable def aMkslice (esz bytes : Nat) (zero : List AVal) (len cap : Opd) (T : Tm) : Option (Blk × (Pos → AVal)) :=
  andThen (mkLen bytes (len.ev T) (cap.ev T)) fun (l, c) => some (⟨esz, .ex, repN c zero⟩, fun p => .sl p 0 l c)
noncomputable def bytesV (s : List Nat) : List AVal := match s with
  | [] => []
  | c :: s => .int .u8 (.ofNat c) :: bytesV s
noncomputable def aStrBytes (x : Opd) (T : Tm) : Option (Blk × (Pos → AVal)) := match x.ev T with
  | .str s => forceNat (lenS s) fun n => some (⟨1, .fam Pos.first 0, bytesV s⟩, fun p => .slu p 0 n 1)
  | _ => none
noncomputable def evalA (a : AOp) : Tm → Option (Blk × (Pos → AVal)) :=
  match a with
  | .alloc zero => aAlloc zero
  | .box x => aBox x
  | .bslice esz zero len parts => aBslice esz zero len parts
  | .mkslice esz bytes zero len cap => aMkslice esz bytes zero len cap
  | .strBytes x => aStrBytes x
/-- The block named: one that an append may make longer is the first of its family. -/
noncomputable def Blk.named (blk : Blk) (p : Pos) : Blk :=
  match blk with
  | ⟨esz, kind, cells⟩ => match kind with
    | .fam _ vb => ⟨esz, .fam p vb, cells⟩
    | kind => ⟨esz, kind, cells⟩
noncomputable def famOf (root : Pos) (fams : Tr (List Pos)) : List Pos := match Tr.get root fams with
  | some l => l
  | none => []
noncomputable def famAdd {R : Type} (kind : Kind) (p : Pos) (fams : Tr (List Pos)) (k : Tr (List Pos) → R) : R :=
  match kind with
  | .fam root _ => match famOf root fams with
    | [] => Tr.setK root (some [p]) fams k
    | q :: l => Tr.setK root (some (p :: q :: l)) fams k
  | _ => k fams
/-- The block is laid under a name. -/
noncomputable def S.lay (σ : S) (p : Pos) (blk : Blk) : S := match σ with
  | ⟨h, nx, fams, ms⟩ => match blk with
    | ⟨esz, kind, cells⟩ => forces cells fun cs => Tr.setK p (some ⟨esz, kind, cs⟩) h fun h => famAdd kind p fams fun fams => ⟨h, nx, fams, ms⟩
/-- Likewise, the cells being laid ready. -/
noncomputable def S.layR (σ : S) (p : Pos) (blk : Blk) : S := match σ with
  | ⟨h, nx, fams, ms⟩ => match blk with
    | ⟨esz, kind, cells⟩ => Tr.setK p (some ⟨esz, kind, cells⟩) h fun h => famAdd kind p fams fun fams => ⟨h, nx, fams, ms⟩
/-- The next name. -/
noncomputable def S.bump (σ : S) : Option S := match σ with
  | ⟨h, n, fams, ms⟩ => Pos.nextK n fun n => some ⟨h, n, fams, ms⟩
noncomputable def S.bumpN : Nat → S → Option S
  | 0, σ => some σ
  | n + 1, σ => andThen σ.bump (S.bumpN n)
noncomputable def S.alloc (σ : S) (blk : Blk) : Option (Pos × S) := match σ with
  | ⟨h, nx, fams, ms⟩ => match S.lay ⟨h, nx, fams, ms⟩ nx (blk.named nx) with
    | ⟨h, n, fams, ms⟩ => Pos.nextK n fun m => some (n, ⟨h, m, fams, ms⟩)

noncomputable def S.allocR (σ : S) (blk : Blk) : Option (Pos × S) := match σ with
  | ⟨h, nx, fams, ms⟩ => match S.layR ⟨h, nx, fams, ms⟩ nx (blk.named nx) with
    | ⟨h, n, fams, ms⟩ => Pos.nextK n fun m => some (n, ⟨h, m, fams, ms⟩)
/-- Cells behind cells, laid ready. -/
noncomputable def appL (old new : List AVal) (k : List AVal → Option (AVal × S)) : Option (AVal × S) :=
  @List.rec AVal (fun _ => List AVal → (List AVal → Option (AVal × S)) → Option (AVal × S)) (fun new k => k new) (fun c _ ih new k => ih new fun l => k (c :: l)) old new k
theorem appL_eq (old new : List AVal) (k : List AVal → Option (AVal × S)) : appL old new k = k (old ++ new) := by
  induction old generalizing k with
  | nil => rfl
  | cons c old ih => exact ih _
/-- Elders and kin of a family that reach beyond a place are given up. -/
noncomputable def killK {R : Type} (from_ : Nat) (but : Pos) (l : List Pos) (h : Tr Blk) (k : Tr Blk → R) : R := match l with
  | [] => k h
  | p :: l => match p.beq but with
    | true => killK from_ but l h k
    | false => match Tr.get p h with
      | some blk => match blk with
        | ⟨_, kind, cs⟩ => match kind with
          | .fam _ vb => match Nat.ble (vb + lenN cs) from_ with
            | true => killK from_ but l h k
            | false => Tr.setK p none h fun h => killK from_ but l h k
          | _ => killK from_ but l h k
      | none => killK from_ but l h k
noncomputable def putEx (σ : S) (b : Pos) (o : Nat) (new : List AVal) (esz : Nat) (cs : List AVal) : Option S := match σ with
  | ⟨h, nx, fams, ms⟩ => andThen (putN o new cs) fun cs => Tr.setK b (some ⟨esz, .ex, cs⟩) h fun h => some ⟨h, nx, fams, ms⟩
noncomputable def putFam (σ : S) (b : Pos) (o : Nat) (new : List AVal) (esz : Nat) (root : Pos) (vb : Nat) (cs : List AVal) : Option S := match σ with
  | ⟨h, nx, fams, ms⟩ => andThen (putN o new cs) fun cs => killK (vb + o) b (famOf root fams) h fun h =>
    Tr.setK b (some ⟨esz, .fam root vb, cs⟩) h fun h => some ⟨h, nx, fams, ms⟩
noncomputable def putBlk (σ : S) (b : Pos) (o : Nat) (new : List AVal) (blk : Blk) : Option S := match blk with
  | ⟨esz, kind, cs⟩ => match kind with
    | .ex => putEx σ b o new esz cs
    | .fam root vb => putFam σ b o new esz root vb cs
    | .ro => none
noncomputable def S.put (σ : S) (b : Pos) (o : Nat) (new : List AVal) : Option S :=
  andThen (Tr.get b σ.heap) (putBlk σ b o new)
noncomputable def rdN (σ : S) (b : Pos) (o n : Nat) : Option (List AVal) := match n with
  | 0 => some []
  | .succ n => σ.read b o (.succ n)
noncomputable def slRead (esz : Nat) (n : Nat) (x : AVal) (σ : S) : Option (List AVal) :=
  match x with
  | .nsl => test (isZero n) (some [])
  | .sl b o _ _ => rdN σ b o (n * esz)
  | .slu b o _ _ => rdN σ b o (n * esz)
  | .str s => test (Nat.beq esz 1) (takeN n (bytesV s))
  | _ => none
noncomputable def slLen (v : AVal) : Option Nat := match v with
  | .nsl => some 0
  | .sl _ _ l _ => some l
  | .slu _ _ l _ => some l
  | .str s => some (lenS s)
  | _ => none
noncomputable def fits (n bytes : Nat) : Bool := Nat.ble (n * bytes) 1099511627776
noncomputable def newFam (σ : S) (esz n : Nat) (cells : List AVal) : Option (AVal × S) :=
  andThen (σ.allocR ⟨esz, .fam Pos.first 0, cells⟩) fun (p, σ) => forceNat n fun n => some (.slu p 0 n esz, σ)
noncomputable def appNil (esz bytes n : Nat) (x : AVal) (σ : S) : Option (AVal × S) :=
  test (fits n bytes) (andThen (slRead esz n x σ) fun new => newFam σ esz n new)
noncomputable def appSl (esz bytes : Nat) (b : Pos) (o len cap n : Nat) (x : AVal) (σ : S) : Option (AVal × S) :=
  match Nat.ble (len + n) cap with
  | true => andThen (slRead esz n x σ) fun new => andThen (σ.put b (o + len * esz) new) fun σ => forceNat (len + n) fun m => some (.sl b o m cap, σ)
  | false => test (fits (len + n) bytes) (andThen (rdN σ b o (len * esz)) fun old => andThen (slRead esz n x σ) fun new => appL old new (newFam σ esz (len + n)))
noncomputable def layFam (σ : S) (esz : Nat) (root : Pos) (vb n : Nat) (cells : List AVal) (h : Tr Blk) : Option (AVal × S) :=
  match σ with
  | ⟨_, nx, fams, ms⟩ => forceNat vb fun vb => match S.layR ⟨h, nx, fams, ms⟩ nx ⟨esz, .fam root vb, cells⟩ with
    | ⟨h, nx, fams, ms⟩ => Pos.nextK nx fun m => forceNat n fun n => some (.slu nx 0 n esz, ⟨h, m, fams, ms⟩)
/-- Of a family those that are still there. -/
noncomputable def aliveK (l : List Pos) (h : Tr Blk) (k : List Pos → Option (AVal × S)) : Option (AVal × S) := match l with
  | [] => k []
  | p :: l => match Tr.get p h with
    | some _ => aliveK l h fun l => k (p :: l)
    | none => aliveK l h k
noncomputable def pruneV (root : Pos) (v : AVal) (σ : S) : Option (AVal × S) := match σ with
  | ⟨h, nx, fams, ms⟩ => aliveK (famOf root fams) h fun l => Tr.setK root (some l) fams fun fams => some (v, ⟨h, nx, fams, ms⟩)
noncomputable def appFam (esz : Nat) (o len n : Nat) (x : AVal) (σ : S) (blk : Blk) : Option (AVal × S) := match blk with
  | ⟨_, kind, cs⟩ => match kind with
    | .fam root vb => andThen (takeN (len * esz) (dropN o cs)) fun old => andThen (slRead esz n x σ) fun new =>
        appL old new fun cs => killK (vb + o + len * esz - 1) σ.next (famOf root σ.fams) σ.heap fun h => andThen (layFam σ esz root (vb + o) (len + n) cs h) fun x => match x with | (v, σ) => pruneV root v σ
    | _ => none
noncomputable def appSlu (esz bytes : Nat) (b : Pos) (o len n : Nat) (x : AVal) (σ : S) : Option (AVal × S) :=
  test (fits (len + n) bytes) (andThen (Tr.get b σ.heap) (appFam esz o len n x σ))
noncomputable def appN (esz bytes n : Nat) (s x : AVal) (σ : S) : Option (AVal × S) := match s with
  | .nsl => appNil esz bytes n x σ
  | .sl b o len cap => appSl esz bytes b o len cap n x σ
  | .slu b o len z => test (Nat.beq z esz) (appSlu esz bytes b o len n x σ)
  | _ => none
noncomputable def isSl (s : AVal) : Bool := match s with
  | .nsl => true
  | .sl _ _ _ _ => true
  | .slu _ _ _ _ => true
  | _ => false
noncomputable def appendA (esz bytes : Nat) (s x : AVal) (σ : S) : Option (AVal × S) :=
  andThen (slLen x) fun n => match n with
    | 0 => test (isSl s) (some (s, σ))
    | .succ n => forceNat (.succ n) fun n => appN esz bytes n s x σ
noncomputable def copyTo (d : AVal) (n : Nat) (σ : S) (new : List AVal) : Option (AVal × S) := match d with
  | .sl b o _ _ => andThen (σ.put b o new) fun σ => some (.int .i64 (.ofNat n), σ)
  | .slu b o _ _ => andThen (σ.put b o new) fun σ => some (.int .i64 (.ofNat n), σ)
  | _ => none
noncomputable def minN (a b : Nat) : Nat := match Nat.ble a b with
  | true => a
  | false => b
noncomputable def copyA (esz : Nat) (d s : AVal) (σ : S) : Option (AVal × S) :=
  andThen (slLen s) fun a => andThen (slLen d) fun b => test (isSl d) (match minN a b with
    | 0 => some (.int .i64 (.ofNat 0), σ)
    | .succ n => forceNat (.succ n) fun n => andThen (slRead esz n s σ) (copyTo d n σ))
abbrev Caller := Nat → List AVal → S → Option (AVal × S)
noncomputable def storeV (n : Nat) (cs : List AVal) (v : AVal) (σ : S) : Option (AVal × S) := match v with
  | .ptr b o => test (Nat.beq (lenN cs) n) (match n with
    | 0 => some (.undef, σ)
    | .succ _ => andThen (σ.put b o cs) fun σ => some (.undef, σ))
  | _ => none
noncomputable def eStore (n : Nat) (x v : Opd) (_ : Caller) (T : Tm) (σ : S) : Option (AVal × S) := headK (v.ev T) fun v => andThen (cellsOf v) fun cs => storeV n cs (x.ev T) σ
noncomputable def eAppend (esz bytes : Nat) (s x : Opd) (_ : Caller) (T : Tm) (σ : S) : Option (AVal × S) := appendA esz bytes (s.ev T) (x.ev T) σ
noncomputable def eCopy (esz : Nat) (d s : Opd) (_ : Caller) (T : Tm) (σ : S) : Option (AVal × S) := copyA esz (d.ev T) (s.ev T) σ
noncomputable def eCall (f : Nat) (args : List Opd) (call : Caller) (T : Tm) (σ : S) : Option (AVal × S) := call f (evs T args) σ
noncomputable def callVal (call : Caller) (v : AVal) (args : List AVal) (σ : S) : Option (AVal × S) := match v with
  | .func f caps => call f (args ++ caps) σ
  | _ => none
noncomputable def eCallV (f : Opd) (args : List Opd) (call : Caller) (T : Tm) (σ : S) : Option (AVal × S) := callVal call (f.ev T) (evs T args) σ
noncomputable def isMapR (r : Option AVal) : Bool := match r with
  | none => true
  | some v => match v with
    | .int _ _ => true
    | _ => false
/-- No tuple. -/
noncomputable def isV1 (v : AVal) : Bool := match v with
  | .tup _ => false
  | _ => true
noncomputable def newMB (clock : Nat) (es : MEs) (mk : Pos → AVal) (σ : S) : Option (AVal × S) := match σ with
  | ⟨h, n, fams, ms⟩ => Pos.nextK n fun m => Tr.setK n (some ⟨clock, es⟩) ms fun ms => some (mk n, ⟨h, m, fams, ms⟩)
noncomputable def newMap (σ : S) : Option (AVal × S) := newMB 0 [] .map σ
noncomputable def putMap (b : Pos) (clock : Nat) (es : MEs) (v : AVal) (σ : S) : Option (AVal × S) := match σ with
  | ⟨h, n, fams, ms⟩ => Tr.setK b (some ⟨clock, es⟩) ms fun ms => some (v, ⟨h, n, fams, ms⟩)
noncomputable def putMapN (b : Pos) (clock : Nat) (v : AVal) (σ : S) (x : Bool × MEs) : Option (AVal × S) := match x with
  | (n, es) => match n with
    | true => forceNat (Nat.succ clock) fun clock => putMap b clock es v σ
    | false => putMap b clock es v σ
noncomputable def setM (agg : Bool) (cs : List CK) (x k v : AVal) (σ : S) : Option (AVal × S) := match x with
  | .map b => andThen (Tr.get b σ.maps) fun mb => match mb with
    | ⟨clock, es⟩ => test (genuine es) (test (keyShape agg cs k) (test (isV1 v) (force k fun k => force v fun v => andThen (mput agg cs clock k v es) (putMapN b clock .undef σ))))
  | _ => none
noncomputable def delM (agg : Bool) (cs : List CK) (x k : AVal) (σ : S) : Option (AVal × S) := test (keyShape agg cs k) (match x with
  | .nmap => some (.undef, σ)
  | .map b => andThen (Tr.get b σ.maps) fun mb => match mb with
    | ⟨clock, es⟩ => test (genuine es) (andThen (mrem agg cs k es) fun es => putMap b clock es .undef σ)
  | _ => none)
noncomputable def entNew (agg : Bool) (cs : List CK) (zero : AVal) (b : Pos) (clock : Nat) (k : AVal) (es : MEs) (σ : S) : Option (AVal × S) :=
  force k fun k => andThen (mput agg cs clock k zero es) (putMapN b clock (.tup [zero, .int .i64 (.ofNat clock)]) σ)
noncomputable def entM (agg : Bool) (cs : List CK) (zero : AVal) (x k : AVal) (σ : S) : Option (AVal × S) := match x with
  | .map b => andThen (Tr.get b σ.maps) fun mb => match mb with
    | ⟨clock, es⟩ => test (genuine es) (test (keyShape agg cs k) (andThen (mget agg cs k es) fun r => match r with
      | some x => match x with | (born, v) => some (.tup [v, .int .i64 (.ofNat born)], σ)
      | none => entNew agg cs zero b clock k es σ))
  | _ => none
noncomputable def stampM (x s v : AVal) (σ : S) : Option (AVal × S) := match x with
  | .map b => andThen (Tr.get b σ.maps) fun mb => match mb with
    | ⟨clock, es⟩ => match s with
      | .int _ n => test (genuine es) (test (isV1 v) (force v fun v => andThen (mborn n v es) fun es => putMap b clock es .undef σ))
      | _ => none
  | _ => none
noncomputable def clrTo (b : Pos) (o len : Nat) (zero : List AVal) (σ : S) : Option (AVal × S) := match len with
  | 0 => some (.undef, σ)
  | .succ n => forceNat (.succ n) fun n => andThen (σ.put b o (repN n zero)) fun σ => some (.undef, σ)
noncomputable def clrA (zero : List AVal) (x : AVal) (σ : S) : Option (AVal × S) := match x with
  | .nsl => some (.undef, σ)
  | .sl b o len _ => clrTo b o len zero σ
  | .slu b o len _ => clrTo b o len zero σ
  | _ => none
noncomputable def rangeM (x : AVal) (σ : S) : Option (AVal × S) := match x with
  | .nmap => newMB 0 [(0, .nmap, .tup [])] (fun p => .ptr p 0) σ
  | .map b => andThen (Tr.get b σ.maps) fun mb => match mb with
    | ⟨clock, es⟩ => test (genuine es) (newMB clock [(clock, .map b, .tup [])] (fun p => .ptr p 0) σ)
  | _ => none
/-- Of a map of one entry at most. -/
noncomputable def nextOf (p : Pos) (since last : Nat) (b : Pos) (seen : List AVal) (σ : S) (mb : MBlk) : Option (AVal × S) := match mb with
  | ⟨clock, es⟩ => test (genuine es) (match seen with
    | [] => match es with
      | [] => some (.tup [.bool false], σ)
      | (born, k, v) :: r => match r with
        | [] => test (Nat.ble (Nat.succ born) since) (test (isV1 v) (putMap p since [(clock, .map b, .tup [.int .i64 (.ofNat born)])] (.tup [.bool true, k, v]) σ))
        | _ :: _ => none
    | s :: _ => match s with
      | .int _ n => match es with
        | [] => none
        | (born, _, _) :: r => match r with
          | [] => test (ieq (.ofNat born) n) (test (Nat.ble (Nat.succ born) last) (some (.tup [.bool false], σ)))
          | _ :: _ => none
      | _ => none)
noncomputable def nextM (x : AVal) (σ : S) : Option (AVal × S) := match x with
  | .ptr p o => test (isZero o) (andThen (Tr.get p σ.maps) fun mb => match mb with
    | ⟨since, es⟩ => andThen (iterOf es) fun i => match i with
      | (last, src, seen) => match src with
        | .nmap => some (.tup [.bool false], σ)
        | .map b => andThen (Tr.get b σ.maps) (nextOf p since last b seen σ)
        | _ => none)
  | _ => none
noncomputable def eMrange (x : Opd) (_ : Caller) (T : Tm) (σ : S) : Option (AVal × S) := rangeM (x.ev T) σ
noncomputable def eMnext (x : Opd) (_ : Caller) (T : Tm) (σ : S) : Option (AVal × S) := nextM (x.ev T) σ
noncomputable def eMmake (r : Option Opd) (_ : Caller) (T : Tm) (σ : S) : Option (AVal × S) := test (isMapR (evo T r)) (newMap σ)
noncomputable def eMset (agg : Bool) (cs : List CK) (x k v : Opd) (_ : Caller) (T : Tm) (σ : S) : Option (AVal × S) := setM agg cs (x.ev T) (k.ev T) (v.ev T) σ
noncomputable def eMdel (agg : Bool) (cs : List CK) (x k : Opd) (_ : Caller) (T : Tm) (σ : S) : Option (AVal × S) := delM agg cs (x.ev T) (k.ev T) σ
noncomputable def eMent (agg : Bool) (cs : List CK) (zero : AVal) (x k : Opd) (_ : Caller) (T : Tm) (σ : S) : Option (AVal × S) := entM agg cs zero (x.ev T) (k.ev T) σ
noncomputable def eMstamp (x s v : Opd) (_ : Caller) (T : Tm) (σ : S) : Option (AVal × S) := stampM (x.ev T) (s.ev T) (v.ev T) σ
noncomputable def eClr (zero : List AVal) (x : Opd) (_ : Caller) (T : Tm) (σ : S) : Option (AVal × S) := clrA zero (x.ev T) σ
noncomputable def evalE (e : EOp) : Caller → Tm → S → Option (AVal × S) :=
  match e with
  | .store n x v => eStore n x v
  | .append esz bytes s x => eAppend esz bytes s x
  | .copy esz d s => eCopy esz d s
  | .call f args => eCall f args
  | .callV f args => eCallV f args
  | .mmake r => eMmake r
  | .mset agg cs x k v => eMset agg cs x k v
  | .mdel agg cs x k => eMdel agg cs x k
  | .ment agg cs z x k => eMent agg cs z x k
  | .mstamp x s v => eMstamp x s v
  | .clr _ z x => eClr z x
  | .mrange x => eMrange x
  | .mnext x => eMnext x
/-- A value that is no answer of an operation that lays it ready. -/
noncomputable def Tm.put (T : Tm) (d : Option Slot) (v : AVal) : Tm := match d with
  | some p => Ts.set p (some v) T
  | none => T
/-- The value laid ready, put. -/
noncomputable def Tm.putK {R : Type} (T : Tm) (d : Option Slot) (v : AVal) (k : Tm → R) : R :=
  @Option.rec Slot (fun _ => R) (k T) (fun p => Ts.setK p (some v) T k) d
theorem Tm.putK_eq {R : Type} (T : Tm) (d : Option Slot) (v : AVal) (k : Tm → R) : T.putK d v k = k (T.put d v) := by
  cases d with
  | none => rfl
  | some p => exact Ts.setK_eq _ _ _ _
noncomputable def isB (v : AVal) (want : Bool) : Bool := match v with
  | .bool b => beqB b want
  | _ => false
noncomputable def wanted (g : Option (Slot × Bool)) (T : Tm) : Bool :=
  @Option.rec (Slot × Bool) (fun _ => Bool) true (fun x => @Prod.rec Slot Bool (fun _ => Bool) (fun p want => isB (Tm.at T p) want) x) g
theorem wanted_none (T : Tm) : wanted none T = true := rfl
theorem wanted_some (p : Slot) (b : Bool) (T : Tm) : wanted (some (p, b)) T = isB (Tm.at T p) b := rfl
/-- One operation, where the order is the text's. -/
noncomputable def opQ (x : QOp) (d : Option Slot) (_ : Caller) (T : Tm) (σ : S) : Option (Tm × S) := andThen (evalQ x T σ) fun v => T.putK d v fun T => some (T, σ)
noncomputable def opA (x : AOp) (d : Option Slot) (_ : Caller) (T : Tm) (σ : S) : Option (Tm × S) :=
  andThen (evalA x T) fun (blk, mk) => andThen (σ.alloc blk) fun (p, σ) => T.putK d (mk p) fun T => some (T, σ)
noncomputable def opE (x : EOp) (d : Option Slot) (call : Caller) (T : Tm) (σ : S) : Option (Tm × S) :=
  andThen (evalE x call T σ) fun (v, σ) => T.putK d v fun T => some (T, σ)
noncomputable def opK (k : KOp) : Option Slot → Caller → Tm → S → Option (Tm × S) :=
  @KOp.rec (fun _ => Option Slot → Caller → Tm → S → Option (Tm × S)) opQ opA opE k
noncomputable def evalOp (call : Caller) (o : POp) (T : Tm) (σ : S) : Option (Tm × S) :=
  @POp.rec (fun _ => Option (Tm × S)) (fun d g k => @Bool.rec (fun _ => Option (Tm × S)) (T.putK d .undef fun T => some (T, σ)) (opK k d call T σ) (wanted g T)) o
noncomputable def evalOps (call : Caller) (l : List POp) : Tm → S → Option (Tm × S) :=
  @List.rec POp (fun _ => Tm → S → Option (Tm × S)) (fun T σ => some (T, σ)) (fun o _ ih T σ => andThen (evalOp call o T σ) fun x => @Prod.rec Tm S (fun _ => Option (Tm × S)) ih x) l
theorem evalOps_nil (call : Caller) (T : Tm) (σ : S) : evalOps call [] T σ = some (T, σ) := rfl
theorem evalOps_cons (call : Caller) (o : POp) (l : List POp) (T : Tm) (σ : S) :
    evalOps call (o :: l) T σ = andThen (evalOp call o T σ) fun x => evalOps call l x.1 x.2 := rfl
/-- An operation of a statement whose order is open: its number there; which reads must read alike behind it. -/
structure DOp where
  ix : Nat
  op : POp
  checks : List POp
noncomputable def Pos.addK {R : Type} : Nat → Pos → (Pos → Option R) → Option R
  | 0, p, k => k p
  | n + 1, p, k => Pos.nextK p fun p => Pos.addK n p k
noncomputable def recheckQ (T : Tm) (σ : S) (k : KOp) (d : Option Slot) : Bool := match k with
  | .q q => match d with
    | some p => match evalQ q T σ with
      | some v => same v (Tm.at T p)
      | none => false
    | none => false
  | _ => false
noncomputable def recheck (T : Tm) (σ : S) (o : POp) : Bool := match o with
  | ⟨d, g, k⟩ => match wanted g T with
    | true => recheckQ T σ k d
    | false => true
noncomputable def rechecks (T : Tm) (σ : S) (l : List POp) : Bool := match l with
  | [] => true
  | o :: l => match recheck T σ o with
    | true => rechecks T σ l
    | false => false
noncomputable def dQ (_ : Pos) (_ : Nat) (_ : List POp) (x : QOp) (d : Option Slot) (call : Caller) (T : Tm) (σ : S) : Option (Tm × S) := opQ x d call T σ
noncomputable def dA (base : Pos) (ix : Nat) (_ : List POp) (x : AOp) (d : Option Slot) (_ : Caller) (T : Tm) (σ : S) : Option (Tm × S) :=
  andThen (evalA x T) fun (blk, mk) => Pos.addK ix base fun p => match σ.lay p (blk.named p) with
    | ⟨h, n, fams, ms⟩ => T.putK d (mk p) fun T => some (T, ⟨h, n, fams, ms⟩)
noncomputable def dE (_ : Pos) (_ : Nat) (checks : List POp) (x : EOp) (d : Option Slot) (call : Caller) (T : Tm) (σ : S) : Option (Tm × S) :=
  andThen (evalE x call T σ) fun (v, σ) => T.putK d v fun T => test (rechecks T σ checks) (some (T, σ))
noncomputable def dK (k : KOp) : Pos → Nat → List POp → Option Slot → Caller → Tm → S → Option (Tm × S) := match k with
  | .q x => fun b i c => dQ b i c x
  | .a x => fun b i c => dA b i c x
  | .e x => fun b i c => dE b i c x
noncomputable def evalD (call : Caller) (base : Pos) (d : DOp) (T : Tm) (σ : S) : Option (Tm × S) :=
  match d with
  | ⟨ix, o, checks⟩ => match o with
    | ⟨d, g, k⟩ => match wanted g T with
      | true => dK k base ix checks d call T σ
      | false => T.putK d .undef fun T => some (T, σ)
noncomputable def evalDs (call : Caller) (base : Pos) (l : List DOp) (T : Tm) (σ : S) : Option (Tm × S) := match l with
  | [] => some (T, σ)
  | d :: l => andThen (evalD call base d T σ) fun x => match x with | (T, σ) => evalDs call base l T σ
inductive PC where
  | skip
  | ops (l : List POp)
  | draw (n : Nat) (l : List DOp)
  | seq (a b : PC)
  | cond (c : Opd) (a b : PC)
  | block (id : Nat) (c : PC)
  | loop (c : PC)
  | exit (id : Nat)
  | ret
inductive Ex where
  | normal
  | exit (id : Nat)
  | ret
abbrev Out := Option (Ex × Tm × S)
noncomputable def iter (body : Tm → S → Out) (n : Nat) : Tm → S → Out :=
  Nat.rec (fun _ _ => none) (fun _ ih T σ => andThen (body T σ) fun x => match x with
    | (e, T, σ) => match e with
      | .normal => ih T σ
      | e => some (e, T, σ)) n
noncomputable def thenC (next : Tm → S → Out) (o : Out) : Out := andThen o fun x => match x with
  | (e, T, σ) => match e with
    | .normal => next T σ
    | e => some (e, T, σ)
theorem iter_zero (body : Tm → S → Out) (T : Tm) (σ : S) : iter body 0 T σ = none := rfl
theorem iter_succ (body : Tm → S → Out) (n : Nat) (T : Tm) (σ : S) : iter body (n + 1) T σ = thenC (iter body n) (body T σ) := by
  rfl
noncomputable def cSkip (T : Tm) (σ : S) : Out := some (.normal, T, σ)
noncomputable def cOps (call : Caller) (l : List POp) (T : Tm) (σ : S) : Out := andThen (evalOps call l T σ) fun x => match x with | (T, σ) => some (.normal, T, σ)
noncomputable def cDraw (call : Caller) (n : Nat) (l : List DOp) (T : Tm) (σ : S) : Out :=
  andThen (σ.bumpN n) fun σ' => andThen (evalDs call σ.next l T σ') fun x => match x with | (T, σ) => some (.normal, T, σ)
noncomputable def cSeq (a b : Tm → S → Out) (T : Tm) (σ : S) : Out := thenC b (a T σ)
noncomputable def cCond (c : Opd) (a b : Tm → S → Out) (T : Tm) (σ : S) : Out := match c.ev T with
  | .bool t => match t with
    | true => a T σ
    | false => b T σ
  | _ => none
noncomputable def cBlock (id : Nat) (c : Tm → S → Out) (T : Tm) (σ : S) : Out := andThen (c T σ) fun x => match x with
  | (e, T, σ) => match e with
    | .exit i => match Nat.beq i id with
      | true => some (.normal, T, σ)
      | false => some (.exit i, T, σ)
    | e => some (e, T, σ)
noncomputable def cExit (id : Nat) (T : Tm) (σ : S) : Out := some (.exit id, T, σ)
noncomputable def cRet (T : Tm) (σ : S) : Out := some (.ret, T, σ)
noncomputable def evalC (call : Caller) (fuel : Nat) (c : PC) : Tm → S → Out :=
  PC.rec cSkip (fun l => cOps call l) (fun n l => cDraw call n l) (fun _ _ iha ihb => cSeq iha ihb) (fun c _ _ iha ihb => cCond c iha ihb)
    (fun id _ ih => cBlock id ih) (fun _ ih => iter ih fuel) (fun id => cExit id) cRet c
inductive PRes where
  | tmp (p : Slot)
  | cell1 (p : Slot)
  | cellN (n : Nat) (p : Slot)
inductive PFn where
  | code (slots : List Slot) (body : PC) (results : List PRes)
  | keys (off : Nat)
noncomputable def enterK (l : List AVal) (i : List Slot) (T : Tm) (k : Tm → Option (AVal × S)) : Option (AVal × S) := match l with
  | [] => k T
  | v :: l => match i with
    | [] => none
    | s :: i => Ts.setK s (some v) T fun T => enterK l i T k
noncomputable def resOf (T : Tm) (σ : S) (r : PRes) : Option AVal := match r with
  | .tmp p => some (Tm.at T p)
  | .cell1 p => vLoad1 (Tm.at T p) σ
  | .cellN n p => vLoadN n (Tm.at T p) σ
noncomputable def resAll (T : Tm) (σ : S) (l : List PRes) : Option (List AVal) := match l with
  | [] => some []
  | r :: l => andThen (resOf T σ r) fun v => headK v fun v => test (isV1 v) (andThen (resAll T σ l) fun vs => some (v :: vs))
noncomputable def outVs (σ : S) (vs : List AVal) : Option (AVal × S) := match vs with
  | [] => some (.tup [], σ)
  | v :: r => match r with
    | [] => some (v, σ)
    | r => some (.tup (v :: r), σ)
noncomputable def leave (l : List PRes) (T : Tm) (σ : S) : Option (AVal × S) := andThen (resAll T σ l) (outVs σ)
/-- Whole numbers in order, each once. -/
noncomputable def insI (n : Int) (l : List Int) : Option (List Int) := match l with
  | [] => some [n]
  | k :: l => match ilt n k with
    | true => some (n :: k :: l)
    | false => match ilt k n with
      | true => andThen (insI n l) fun l => some (k :: l)
      | false => none
noncomputable def keysI (es : MEs) : Option (List Int) := match es with
  | [] => some []
  | (_, k, _) :: es => match k with
    | .int q n => match q with
      | .i64 => andThen (keysI es) fun l => insI n l
      | _ => none
    | _ => none
noncomputable def intsA (l : List Int) : List AVal := match l with
  | [] => []
  | n :: l => .int .i64 n :: intsA l
noncomputable def lenI (l : List Int) : Nat := match l with
  | [] => 0
  | _ :: l => Nat.succ (lenI l)
noncomputable def keysOut (l : List Int) (σ : S) : Option (AVal × S) := match l with
  | [] => some (.nsl, σ)
  | n :: l => newFam σ 1 (lenI (n :: l)) (intsA (n :: l))
noncomputable def bornIn (b : Nat) (es : MEs) : Bool := match es with
  | [] => false
  | (b', _, _) :: es => match Nat.beq b b' with
    | true => true
    | false => bornIn b es
noncomputable def keyInI (k : AVal) : Bool := match k with
  | .int q n => match q with
    | .i64 => match n with
      | .ofNat m => Nat.beq m 1 || Nat.beq m 2
      | .negSucc _ => false
    | _ => false
  | _ => false
/-- Each entry of its own time, its key a number. -/
noncomputable def stampOk (clock : Nat) (es : MEs) : Bool := match es with
  | [] => true
  | (b, k, _) :: es => Nat.ble (Nat.succ b) clock && (not (bornIn b es) && (keyInI k && stampOk clock es))
noncomputable def keysM (v : AVal) (σ : S) : Option (AVal × S) := match v with
  | .map b => andThen (Tr.get b σ.maps) fun mb => match mb with | ⟨clock, es⟩ => test (genuine es && stampOk clock es) (andThen (keysI es) fun l => keysOut l σ)
  | _ => none
/-- The keys of the map that stands there, in order. -/
noncomputable def runKeys (off : Nat) (args : List AVal) (σ : S) : Option (AVal × S) := match args with
  | [] => none
  | v :: r => match r with
    | [] => andThen (vFieldAddr off v) fun p => andThen (vLoad1 p σ) fun v => keysM v σ
    | _ :: _ => none
noncomputable def runC (call : Caller) (fuel : Nat) (slots : List Slot) (body : PC) (res : List PRes) (args : List AVal) (σ : S) : Option (AVal × S) := enterK args slots Ts.empty fun T => andThen (evalC call fuel body T σ) fun x => match x with
    | (e, T, σ) => match e with
      | .normal => leave res T σ
      | .ret => leave res T σ
      | .exit _ => none
noncomputable def runF (call : Caller) (fuel : Nat) (fn : PFn) (args : List AVal) (σ : S) : Option (AVal × S) := match fn with
  | .code slots body res => runC call fuel slots body res args σ
  | .keys off => runKeys off args σ
noncomputable def evalF (tab : Nat → Option PFn) (n : Nat) : Caller :=
  Nat.rec (fun _ _ _ => none) (fun n ih f args σ => andThen (tab f) fun fn => runF ih n fn args σ) n
theorem evalF_zero (tab : Nat → Option PFn) (f : Nat) (args : List AVal) (σ : S) : evalF tab 0 f args σ = none := rfl
theorem evalF_succ (tab : Nat → Option PFn) (n : Nat) (f : Nat) (args : List AVal) (σ : S) :
    evalF tab (n + 1) f args σ = andThen (tab f) fun fn => runF (evalF tab n) n fn args σ := rfl
end Go.Am
