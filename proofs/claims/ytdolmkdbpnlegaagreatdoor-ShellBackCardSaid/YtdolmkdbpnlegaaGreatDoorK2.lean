/-
  From the model's code to the evaluator's. Conditions: none.
-/
import Derived.Test.YtdolmkdbpnlegaaGreatDoorK1
import GoSem.Dispatch
namespace Go.Am

def cval1 : Value → Option AVal
  | .bool b => some (.bool b)
  | .int k n => some (.int k n)
  | .string s => some (.str (s.data.toList.map (·.toNat)))
  | .pointer none => some .nptr
  | .slice none 0 0 => some .nsl
  | .map none => some .nmap
  | .nilFunc => some .nfunc
  | .nilIface => some .niface
  | _ => none
def cvals : List Value → Option (List AVal)
  | [] => some []
  | v :: l => match cval1 v, cvals l with
    | some v, some l => some (v :: l)
    | _, _ => none
def cval : Value → Option AVal
  | .agg cs => match cvals cs.toList with
    | some l => some (.agg l)
    | none => none
  | .tuple vs => match cvals vs.toList with
    | some l => some (.tup l)
    | none => none
  | v => cval1 v
def copd : Operand → Option Opd
  | .tmp t => (Slot.of t).map .tmp
  | .const v => (cval v).map .val
  | .func f => some (.val (.func f []))
  | .global g => some (.val (.gp g 0))
def copds : List Operand → Option (List Opd)
  | [] => some []
  | x :: l => match copd x, copds l with
    | some x, some l => some (x :: l)
    | _, _ => none
def copt : Option Operand → Option (Option Opd)
  | none => some none
  | some x => (copd x).map some

def isAggB (P : Program) (t : TypeId) : Bool :=
  match P.underlying t with
  | some (.struct _) => true
  | some (.array _ _) => true
  | _ => false
def czero (P : Program) (t : TypeId) : Option (List AVal) :=
  match P.info? t with
  | some i => match i.zero with
    | some z => cvals z.cells.toList
    | none => none
  | none => none
def csize (P : Program) (t : TypeId) : Option Nat := (P.info? t).map (·.size)
def cparts (place : Nat → Option (Nat × Nat)) : List (Nat × Operand) → Option (List (Nat × Nat × Opd))
  | [] => some []
  | (i, x) :: l => match place i, copd x, cparts place l with
    | some (o, n), some x, some l => some ((o, n, x) :: l)
    | _, _, _ => none
def repC : Nat → List CK → List CK
  | 0, _ => []
  | n + 1, l => l ++ repC n l
def flats (P : Program) (g : TypeId → Option (List CK)) : List Field → Nat → Option (List CK)
  | [], _ => some []
  | f :: l, o => match g f.type, csize P f.type with
    | some c, some s => if f.name ≠ "_" ∧ f.offset = o ∧ s = c.length then (match flats P g l (o + s) with
      | some r => some (c ++ r)
      | none => none) else none
    | _, _ => none
def flat (P : Program) : Nat → TypeId → Option (List CK)
  | 0, _ => none
  | d + 1, t => match P.underlying t with
    | some .bool => some [.b]
    | some (.int _) => some [.i]
    | some .string => some [.s]
    | some (.struct fs) => if P.stoodInHeld t then none else flats P (flat P d) fs.toList 0
    | some (.array n e) => match flat P d e, csize P e with
      | some l, some s => if s = l.length then some (repC n l) else none
      | _, _ => none
    | _ => none

def isU8 (P : Program) (e : TypeId) : Bool :=
  match P.underlying e with
  | some (.int .u8) => true
  | _ => false
def czeroV (P : Program) (t : TypeId) : Option AVal :=
  match P.info? t with
  | some i => match i.zero with
    | some (.agg cs) => (cvals cs.toList).map .agg
    | some z => cval1 z
    | none => none
  | none => none
def cmap (P : Program) (t : TypeId) : Option (Bool × List CK × TypeId) :=
  match P.underlying t with
  | some (.map k e) => match flat P 20 k with
    | some cs => some (isAggB P k, cs, e)
    | none => none
  | _ => none
def tagOf (t : Nat) : Nat := 4294967296 + t
def isBuilder (P : Program) (t : TypeId) : Bool := match P.info? t with
  | some { desc := .named n _, .. } => n == "strings.Builder"
  | _ => false
def isC (x : Operand) : Bool := match x with
  | .const _ => true
  | _ => false
def ifOk (P : Program) : Bool := match P.underlying ifT, P.info? ifT with
  | some (.int _), some i => i.comparable
  | _, _ => false
def liesOk (P : Program) (u : TypeId) : Bool := decide (0 < P.depth) && sameLayout P P.depth u u
def extOf (P : Program) (f : Nat) : Option Nat := match P.funcs[f]? with
  | some fn => if fn.body.isSome then none else if (Extern.findNext fn).isSome then none else
    if fn.name = "internal/abi.NoEscape" then some 0 else if fn.name = "internal/bytealg.CountString" then some 1 else if fn.name = "internal/bytealg.IndexByteString" then some 2 else none
  | none => none
def cop (P : Program) (op : Op) : Option KOp :=
  match op with
  | .makeMap t r => do
    let some (.map _ _) := P.underlying t | none
    pure (.e (.mmake (← copt r)))
  | .lookup t x k ok => do
    let (g, cs, e) ← cmap P t
    pure (.q (.mlook g cs (← czeroV P e) ok (← copd x) (← copd k)))
  | .mapUpdate t x k v => do
    let (g, cs, _) ← cmap P t
    pure (.e (.mset g cs (← copd x) (← copd k) (← copd v)))
  | .mapEntry t x k => do
    let (g, cs, e) ← cmap P t
    pure (.e (.ment g cs (← czeroV P e) (← copd x) (← copd k)))
  | .entryStore _ x s v => do pure (.e (.mstamp (← copd x) (← copd s) (← copd v)))
  | .range t x => do
    let some (.map _ _) := P.underlying t | none
    pure (.e (.mrange (← copd x)))
  | .next x false => do pure (.e (.mnext (← copd x)))
  | .entry x => do pure (.q (.mentry (← copd x)))
  | .move x | .assign x => do pure (.q (.mov (← copd x)))
  | .pick c a b => do pure (.q (.pick (← copd c) (← copd a) (← copd b)))
  | .alloc t => do
    if isBuilder P t then pure (.a (.allocT (tagOf t) (← czero P t))) else pure (.a (.alloc (← czero P t)))
  | .box _ x => do pure (.a (.box (← copd x)))
  | .build t ps => do
    let z ← czero P t
    match P.underlying t with
    | some (.struct fs) =>
      if fs.all fun f => (csize P f.type).isSome then
        pure (.q (.build z (← cparts (fun i => (fs[i]?).bind fun f => (csize P f.type).map fun n => (f.offset, n)) ps.toList)))
      else none
    | some (.array _ e) => do
      let s ← csize P e
      pure (.q (.build z (← cparts (fun i => some (i * s, s)) ps.toList)))
    | _ => none
  | .buildSlice t len ps => do
    let some (.slice e) := P.underlying t | none
    let s ← csize P e
    let z ← czero P e
    if decide (s = z.length) && decide (0 < s) && decide (s ≤ 1048576) && decide (len * s ≤ 16777216) then
      pure (.a (.bslice s z len (← cparts (fun i => some (i * s, s)) ps.toList)))
    else none
  | .load t x => do
    if isAggB P t then pure (.q (.loadN (← csize P t) (← copd x))) else (if (P.underlying t).isSome then do pure (.q (.load1 (← copd x))) else none)
  | .store t x v => do pure (.e (.store (← csize P t) (← copd x) (← copd v)))
  | .nilCheck x => do pure (.q (.nilck (← copd x)))
  | .binOp op t x y _ => do
    match isAggB P t, op with
    | true, .eql => if !P.eqGuardType P.depth t then do pure (.q (.eqAgg (← flat P 20 t) false (← copd x) (← copd y))) else none
    | true, .neq => if !P.eqGuardType P.depth t then do pure (.q (.eqAgg (← flat P 20 t) true (← copd x) (← copd y))) else none
    | true, _ => none
    | false, op => match P.underlying t with
      | some .bool => do pure (.q (.bin op .bool (← copd x) (← copd y)))
      | some (.int _) | some .string => do pure (.q (.bin op .num (← copd x) (← copd y)))
      | some (.pointer e) => if (csize P e).isSome then do pure (.q (.bin op .ptr (← copd x) (← copd y))) else none
      | some (.slice _) => do pure (.q (.bin op .sl (← copd x) (← copd y)))
      | some (.interface _) => if ifOk P then do pure (.q (.bin op (if isC x || isC y then .ifc else .ifd) (← copd x) (← copd y))) else none
      | _ => none
  | .makeInterface t x => match P.underlying t with
    | some (.interface _) => none
    | some _ => do pure (.q (.mkI t (← copd x)))
    | none => none
  | .unOp op _ x => do pure (.q (.un op (← copd x)))
  | .convert s d x =>
    match P.underlying s, P.underlying d with
    | some _, some (.int k) => do pure (.q (.toInt k (← copd x)))
    | some .string, some .string => do pure (.q (.sameStr (← copd x)))
    | some (.slice e), some .string => if isU8 P e then do pure (.q (.bytesStr (← copd x))) else none
    | some .string, some (.slice e) => if isU8 P e then do pure (.a (.strBytes (← copd x))) else none
    | some (.pointer u), some .unsafePointer => do
      let n ← csize P u
      if n = 0 then none else pure (.q (.toU (← copd x)))
    | some .unsafePointer, some (.pointer u) => do
      let n ← csize P u
      if n = 0 then none else if liesOk P u then pure (.q (.ofU (tagOf u) n (← copd x))) else none
    | _, _ => none
  | .makeSlice t l c => do
    let some (.slice e) := P.underlying t | none
    let i ← P.info? e
    let z ← czero P e
    if decide (i.size = z.length) && decide (0 < i.size) && decide (i.size ≤ 1048576) && decide (0 < i.bytes) then pure (.a (.mkslice i.size i.bytes z (← copd l) (← copd c))) else none
  | .slice t x lo hi mx =>
    match P.underlying t with
    | some .string => match mx with
      | none => do pure (.q (.slStr (← copd x) (← copt lo) (← copt hi)))
      | some _ => none
    | some (.slice e) => do
      let s ← csize P e
      if mx.isSome && hi.isNone then none else
      pure (.q (.slSl s (← copd x) (← copt lo) (← copt hi) (← copt mx)))
    | some (.array n e) => do
      let s ← csize P e
      if mx.isSome && hi.isNone then none else
      pure (.q (.slArr n s (← copd x) (← copt lo) (← copt hi) (← copt mx)))
    | some (.pointer arr) => match P.underlying arr with
      | some (.array n e) => do
        let s ← csize P e
        if mx.isSome && hi.isNone then none else
        pure (.q (.slArr n s (← copd x) (← copt lo) (← copt hi) (← copt mx)))
      | _ => none
    | _ => none
  | .fieldAddr t x f => do
    let some (.struct fs) := P.underlying t | none
    let fd ← fs[f]?
    let n ← csize P fd.type
    if n = 0 then none else pure (.q (.fieldAddr fd.offset (← copd x)))
  | .field t x f => do
    let some (.struct fs) := P.underlying t | none
    let fd ← fs[f]?
    let n ← csize P fd.type
    if (P.underlying fd.type).isSome then pure (.q (.field fd.offset n (isAggB P fd.type) (← copd x))) else none
  | .indexAddr t x i => do
    match P.underlying t with
    | some (.array n e) => pure (.q (.ixArr n (← csize P e) (← copd x) (← copd i)))
    | some (.slice e) => pure (.q (.ixSl (← csize P e) (← copd x) (← copd i)))
    | _ => none
  | .index t x i => do
    match P.underlying t with
    | some (.array n e) => if (P.underlying e).isSome then pure (.q (.idxAgg n (← csize P e) (isAggB P e) (← copd x) (← copd i))) else none
    | some .string => pure (.q (.idxStr (← copd x) (← copd i)))
    | _ => none
  | .extract x i => do pure (.q (.extract i (← copd x)))
  | .makeFunc (.func f) first caps => if first.isEmpty then do pure (.q (.mkFunc f (← copds caps.toList))) else none
  | .call c =>
    match c.callee with
    | .value (.func f) => match extOf P f with
      | some k => match k, c.args.toList with
        | 0, [x] => do pure (.q (.mov (← copd x)))
        | 1, [x, y] => do pure (.q (.cntS (← copd x) (← copd y)))
        | 2, [x, y] => do pure (.q (.ixbS (← copd x) (← copd y)))
        | _, _ => none
      | none => do pure (.e (.call f (← copds c.args.toList)))
    | .builtin .unsafeSliceData => match c.args.toList with
      | [x] => do pure (.q (.slData (← copd x)))
      | _ => none
    | .builtin .unsafeString => match c.argTypes.toList, c.args.toList with
      | [t, _], [x, n] => match P.underlying t with
        | some (.pointer e) => if isU8 P e && (liesOk P e && csize P e == some 1) then do pure (.e (.uStr (tagOf e) (← copd x) (← copd n))) else none
        | _ => none
      | _, _ => none
    | .value (.tmp t) => do pure (.e (.callV (.tmp (← Slot.of t)) (← copds c.args.toList)))
    | .builtin .len => match c.argTypes.toList, c.args.toList with
      | [t], [x] => match P.underlying t with
        | some .string => do pure (.q (.lenStr (← copd x)))
        | some (.slice _) => do pure (.q (.lenSl (← copd x)))
        | some (.map _ _) => do pure (.q (.mlen (← copd x)))
        | some (.array n _) => some (.q (.lenK n))
        | some (.pointer a) => match P.underlying a with
          | some (.array n _) => some (.q (.lenK n))
          | _ => none
        | _ => none
      | _, _ => none
    | .builtin .cap => match c.argTypes.toList, c.args.toList with
      | [t], [x] => match P.underlying t with
        | some (.slice _) => do pure (.q (.capSl (← copd x)))
        | _ => none
      | _, _ => none
    | .builtin .max => match c.args.toList with
      | x :: xs => do pure (.q (.maxI (← copd x) (← copds xs)))
      | [] => none
    | .builtin .min => match c.args.toList with
      | x :: xs => do pure (.q (.minI (← copd x) (← copds xs)))
      | [] => none
    | .builtin .append => match c.argTypes.toList, c.args.toList with
      | [t, u], [s, x] => do
        let some (.slice e) := P.underlying t | none
        let i ← P.info? e
        let z ← czero P e
        match P.underlying u with
        | some (.slice _) =>
          if decide (0 < i.size) && decide (0 < i.bytes) && decide (i.bytes ≤ 1048576) && decide (z.length = i.size) && decide (i.size ≤ 1048576) then pure (.e (.append i.size i.bytes (← copd s) (← copd x))) else none
        | some .string =>
          if decide (0 < i.size) && decide (0 < i.bytes) && decide (i.bytes ≤ 1048576) && decide (z.length = i.size) && decide (i.size ≤ 1048576) then pure (.e (.appendT (tagOf e) i.size i.bytes (← copd s) (← copd x))) else none
        | _ => none
      | _, _ => none
    | .builtin .delete => match c.argTypes.toList, c.args.toList with
      | [t, _], [x, k] => do
        let (g, cs, _) ← cmap P t
        pure (.e (.mdel g cs (← copd x) (← copd k)))
      | _, _ => none
    | .builtin .clear => match c.argTypes.toList, c.args.toList with
      | [t], [x] => do
        let some (.slice e) := P.underlying t | none
        let z ← czero P e
        pure (.e (.clr z.length z (← copd x)))
      | _, _ => none
    | .builtin .copy => match c.argTypes.toList, c.args.toList with
      | [t, _], [d, s] => do
        let some (.slice e) := P.underlying t | none
        pure (.e (.copy (← csize P e) (← copd d) (← copd s)))
      | _, _ => none
    | _ => none
  | _ => none
def cdst (nt : Nat) : Option Nat → Option (Option Slot)
  | none => some none
  | some d => if d < nt then (Slot.of d).map some else none
def cguard (ops : Array Oper) : Option (Nat × Bool) → Option (Option (Slot × Bool))
  | none => some none
  | some (j, want) => match (ops[j]?).bind (·.dst) with
    | some t => (Slot.of t).map fun s => some (s, want)
    | none => none
def cpop (P : Program) (nt : Nat) (ops : Array Oper) (o : Oper) : Option POp :=
  match cop P o.op, cdst nt o.dst, cguard ops o.guard with
  | some k, some d, some g => some ⟨d, g, k⟩
  | _, _, _ => none
def cpops (P : Program) (nt : Nat) (ops : Array Oper) : List Oper → Option (List POp)
  | [] => some []
  | o :: l => match cpop P nt ops o, cpops P nt ops l with
    | some o, some l => some (o :: l)
    | _, _ => none

def preOf (o : Oper) : List Nat := (o.after.toList.filter (Region.binds .any)).map (·.on)
def ancs (ops : List Oper) : Nat → Nat → List Nat
  | 0, _ => []
  | f + 1, i => match ops[i]? with
    | some o => (preOf o).flatMap fun j => j :: ancs ops f j
    | none => []
def POp.isQ (o : POp) : Bool := match o.op with | .q _ => true | _ => false
def POp.isE (o : POp) : Bool := match o.op with | .e _ => true | _ => false
def QOp.reads : QOp → Bool
  | .load1 _ | .loadN _ _ | .bytesStr _ | .mlook .. | .mlen _ | .mentry _ | .toU _ | .ofU .. => true
  | _ => false
def POp.reads (o : POp) : Bool := match o.op with | .q q => q.reads | _ => false
def POp.calm (o : POp) : Bool := match o.op with | .q q => !q.reads | .a _ => true | .e _ => false
def Opd.slots : Opd → List Slot
  | .tmp p => [p]
  | .val _ => []
def QOp.opds : QOp → List Opd
  | .mov x | .load1 x | .loadN _ x | .nilck x | .un _ x | .toInt _ x | .sameStr x | .bytesStr x | .fieldAddr _ x | .field _ _ _ x | .extract _ x | .lenStr x | .lenSl x | .capSl x | .mkI _ x | .toU x | .ofU _ _ x | .slData x => [x]
  | .pick a b c => [a, b, c]
  | .bin _ _ x y | .eqAgg _ _ x y | .ixArr _ _ x y | .ixSl _ x y | .idxAgg _ _ _ x y | .idxStr x y | .cntS x y | .ixbS x y => [x, y]
  | .slStr x lo hi => x :: (lo.toList ++ hi.toList)
  | .slSl _ x lo hi mx | .slArr _ _ x lo hi mx => x :: (lo.toList ++ (hi.toList ++ mx.toList))
  | .build _ ps => ps.map fun q => q.2.2
  | .lenK _ => []
  | .maxI x xs | .minI x xs => x :: xs
  | .mkFunc _ caps => caps
  | .mlook _ _ _ _ x k => [x, k]
  | .mlen x => [x]
  | .mentry x => [x]
def AOp.opds : AOp → List Opd
  | .alloc _ => []
  | .allocT _ _ => []
  | .box x | .strBytes x => [x]
  | .bslice _ _ _ ps => ps.map fun q => q.2.2
  | .mkslice _ _ _ x y => [x, y]
def EOp.opds : EOp → List Opd
  | .store _ x y | .append _ _ x y | .copy _ x y => [x, y]
  | .call _ l => l
  | .callV x l => x :: l
  | .mmake r => r.toList
  | .mset _ _ x k v => [x, k, v]
  | .mdel _ _ x k => [x, k]
  | .ment _ _ _ x k => [x, k]
  | .mstamp x s v => [x, s, v]
  | .clr _ _ x => [x]
  | .mrange x => [x]
  | .mnext x => [x]
  | .uStr _ x n => [x, n]
  | .appendT _ _ _ s x => [s, x]
def KOp.opds : KOp → List Opd
  | .q x => x.opds
  | .a x => x.opds
  | .e x => x.opds
def POp.looks (o : POp) : List Slot := o.op.opds.flatMap Opd.slots ++ (match o.guard with | some (p, _) => [p] | none => [])
def slotEq (s t : Slot) : Bool := Nat.beq s.nat t.nat
def slotIn (s : Slot) (l : List Slot) : Bool := l.any fun t => slotEq s t
def noClash (x y : POp) : Bool := match x.dst with
  | none => true
  | some s => !slotIn s y.looks && (match y.dst with | some t => !slotEq s t | none => true)
def selfApart (x : POp) : Bool := match x.dst with
  | none => true
  | some s => !slotIn s x.looks
structure DRow where
  ix : Nat
  p : POp
  cks : List Nat
  pre : List Nat
  anc : List Nat
def checksOf (l : List DRow) (r : DRow) : List POp := (l.filter fun z => r.cks.contains z.ix).map (·.p)
def implies (a b : Bool) : Bool := match a with
  | true => b
  | false => true
def dopOf (l : List DRow) (r : DRow) : DOp := ⟨r.ix, r.p, checksOf l r⟩
def slotNat (s : Slot) : Nat := s.nat
def bitN (i : Nat) : Nat := Nat.shiftLeft 1 i
def hasBit (m i : Nat) : Bool := match Nat.beq (Nat.land 1 (Nat.shiftRight m i)) 0 with
  | true => false
  | false => true
def apart (a b : Nat) : Bool := Nat.beq (Nat.land a b) 0
def maskS (l : List Slot) : Nat := match l with
  | [] => 0
  | s :: l => Nat.lor (bitN (slotNat s)) (maskS l)
def maskN (l : List Nat) : Nat := match l with
  | [] => 0
  | i :: l => Nat.lor (bitN i) (maskN l)
def POp.dmask (p : POp) : Nat := match p.dst with
  | some s => bitN (slotNat s)
  | none => 0
structure MRow where
  ix : Nat
  p : POp
  pl : List Nat
  d : Nat
  lk : Nat
  pre : Nat
  anc : Nat
  q : Bool
  e : Bool
  r : Bool
  c : Bool
def ancM (pm : Nat) (rows : List MRow) : Nat := match rows with
  | [] => 0
  | x :: rows => match hasBit pm x.ix with
    | true => Nat.lor x.anc (Nat.lor (bitN x.ix) (ancM pm rows))
    | false => ancM pm rows
noncomputable def mrow {R : Type} (i : Nat) (p : POp) (pl : List Nat) (rows : List MRow) (k : MRow → R) : R :=
  forceNat i fun i => forceNat (maskN pl) fun pre => forceNat (ancM pre rows) fun anc => forceNat p.dmask fun d => forceNat (Nat.lor (maskS p.looks) d) fun lk =>
  forceBool p.isQ fun q => forceBool p.isE fun e => forceBool p.reads fun r => forceBool p.calm fun c => k ⟨i, p, pl, d, lk, pre, anc, q, e, r, c⟩
noncomputable def mrowsOf (P : Program) (nt : Nat) (ops : Array Oper) (l : List Oper) (i : Nat) (acc : List MRow) : Option (List MRow) := match l with
  | [] => some acc
  | o :: l => match cpop P nt ops o with
    | some p => mrow i p (preOf o) acc fun r => mrowsOf P nt ops l (Nat.succ r.ix) (r :: acc)
    | none => none
structure PRow where
  m : MRow
  cks : List Nat
  cm : Nat
def revM {α : Type} (l acc : List α) : List α := match l with
  | [] => acc
  | x :: l => revM l (x :: acc)
def isReady (done : Nat) (x : MRow) : Bool := Nat.beq (Nat.land x.pre done) x.pre
def findQ (done : Nat) (l : List MRow) : Option MRow := match l with
  | [] => none
  | x :: l => match x.q with
    | true => match isReady done x with
      | true => some x
      | false => findQ done l
    | false => findQ done l
def findE (done : Nat) (l : List MRow) : Option MRow := match l with
  | [] => none
  | x :: l => match x.e with
    | true => match isReady done x with
      | true => some x
      | false => findE done l
    | false => findE done l
def findR (done : Nat) (l : List MRow) : Option MRow := match l with
  | [] => none
  | x :: l => match isReady done x with
    | true => some x
    | false => findR done l
def pickM (done : Nat) (l : List MRow) : Option MRow := match findQ done l with
  | some x => some x
  | none => match findE done l with
    | some x => some x
    | none => findR done l
noncomputable def without {R : Type} (i : Nat) (l : List MRow) (k : List MRow → R) : R := match l with
  | [] => k []
  | x :: l => match Nat.beq x.ix i with
    | true => k l
    | false => without i l fun l => k (x :: l)
noncomputable def cksM {R : Type} (anc : Nat) (l : List MRow) (k : List Nat → Nat → R) : R := match l with
  | [] => k [] 0
  | x :: l => match x.r with
    | true => match hasBit anc x.ix with
      | true => cksM anc l k
      | false => cksM anc l fun c m => forceNat (Nat.lor m x.lk) fun m => k (x.ix :: c) m
    | false => cksM anc l k
noncomputable def planM (f : Nat) (done : Nat) (dl left : List MRow) (acc : List PRow) : List PRow := match f with
  | 0 => revM acc []
  | .succ f => match pickM done left with
    | none => []
    | some r => without r.ix left fun left => forceNat (Nat.lor done (bitN r.ix)) fun done => match r.e with
      | false => planM f done (r :: dl) left (⟨r, [], 0⟩ :: acc)
      | true => cksM r.anc dl fun c m => planM f done (r :: dl) left (⟨r, c, m⟩ :: acc)
def hasN (i : Nat) (l : List Nat) : Bool := match l with
  | [] => false
  | j :: l => match Nat.beq j i with
    | true => true
    | false => hasN i l
def pairM (x y : PRow) : Bool := match Nat.beq x.m.ix y.m.ix with
  | true => false
  | false => match implies x.m.r (apart y.m.d x.m.lk) with
    | false => false
    | true => match hasBit y.m.anc x.m.ix with
      | true => true
      | false => match apart x.m.d y.m.lk with
        | false => false
        | true => match apart y.m.d x.m.lk with
          | false => false
          | true => match x.m.q with
            | true => match y.m.e with
              | true => implies x.m.r (hasN x.m.ix y.cks)
              | false => true
            | false => match y.m.c with
              | false => false
              | true => implies x.m.e (apart y.m.d x.cm)
def pairsM1 (x : PRow) (l : List PRow) : Bool := match l with
  | [] => true
  | y :: l => match pairM x y with
    | true => pairsM1 x l
    | false => false
def pairsM (l : List PRow) : Bool := match l with
  | [] => true
  | x :: l => match pairsM1 x l with
    | true => pairsM l
    | false => false
def topoM (done : Nat) (l : List PRow) : Bool := match l with
  | [] => true
  | x :: l => match isReady done x.m with
    | true => topoM (Nat.lor done (bitN x.m.ix)) l
    | false => false
def ixsM (l : List PRow) : Nat := match l with
  | [] => 0
  | x :: l => Nat.lor (bitN x.m.ix) (ixsM l)
def ancsM (pre : Nat) (l : List PRow) : Nat := match l with
  | [] => pre
  | z :: l => match hasBit pre z.m.ix with
    | true => Nat.lor z.m.anc (ancsM pre l)
    | false => ancsM pre l
def cmOk (all : List PRow) (cks : List Nat) (cm : Nat) : Bool := match all with
  | [] => true
  | z :: all => match hasN z.m.ix cks with
    | true => Nat.beq (Nat.lor z.m.lk cm) cm && cmOk all cks cm
    | false => cmOk all cks cm
def rowM (all : List PRow) (x : PRow) : Bool := match Nat.beq (Nat.lor x.m.anc (ancsM x.m.pre all)) (ancsM x.m.pre all) with
  | false => false
  | true => match implies x.m.r (apart x.m.d (maskS x.m.p.looks)) with
    | false => false
    | true => match x.cks with
      | [] => true
      | c :: l => cmOk all (c :: l) x.cm
def rowsM (all l : List PRow) : Bool := match l with
  | [] => true
  | x :: l => match rowM all x with
    | true => rowsM all l
    | false => false
def lenP (l : List PRow) : Nat := match l with
  | [] => 0
  | _ :: l => Nat.succ (lenP l)
def chkM (n : Nat) (l : List PRow) : Bool := Nat.beq (lenP l) n && (Nat.beq (Nat.succ (ixsM l)) (bitN n) && (topoM 0 l && (rowsM l l && pairsM l)))
def opsIn (cks : List Nat) (l : List PRow) : List POp := match l with
  | [] => []
  | z :: l => match hasN z.m.ix cks with
    | true => z.m.p :: opsIn cks l
    | false => opsIn cks l
def dopM (all : List PRow) (x : PRow) : DOp := match x.cks with
  | [] => ⟨x.m.ix, x.m.p, []⟩
  | c :: l => ⟨x.m.ix, x.m.p, opsIn (c :: l) all⟩
noncomputable def planOf (P : Program) (nt : Nat) (ops : Array Oper) : Option (List DOp) :=
  match mrowsOf P nt ops ops.toList 0 [] with
  | some rows => match planM ops.size 0 [] (revM rows []) [] with
    | l => match chkM ops.size l with
      | true => some (l.map (dopM l))
      | false => none
  | none => none
def badC : PC := .ops [⟨none, none, .q (.un .not (.val .nptr))⟩]
noncomputable def cc (P : Program) (nt : Nat) : Code → Option PC
  | .skip => some .skip
  | .label _ => some .skip
  | .region _ ops false => match cpops P nt ops ops.toList with
    | some l => some (.ops l)
    | none => some badC
  | .region _ ops true => match planOf P nt ops with
    | some l => some (.draw ops.size l)
    | none => some badC
  | .seq a b => match cc P nt a, cc P nt b with
    | some a, some b => some (.seq a b)
    | _, _ => none
  | .cond c a b => match copd c, cc P nt a, cc P nt b with
    | some c, some a, some b => some (.cond c a b)
    | _, _, _ => none
  | .block id c => (cc P nt c).map (.block id)
  | .loop c => (cc P nt c).map .loop
  | .scope c => cc P nt c
  | .exit id => some (.exit id)
  | .ret => some .ret
  | _ => some badC
def cres (P : Program) : List ResultVar → Option (List PRes)
  | [] => some []
  | .tmp t :: l => do pure (.tmp (← Slot.of t) :: (← cres P l))
  | .cell a t :: l => do
    let r ← cres P l
    if isAggB P t then pure (.cellN (← csize P t) (← Slot.of a) :: r) else if (P.underlying t).isSome then pure (.cell1 (← Slot.of a) :: r) else none
def slotsFrom : Nat → Nat → Option (List Slot)
  | 0, _ => some []
  | n + 1, i => match Slot.of i, slotsFrom n (i + 1) with
    | some s, some l => some (s :: l)
    | _, _ => none
noncomputable def cfn (P : Program) (fn : Func) : Option PFn := do
  let body ← fn.body
  if fn.name == "runtime.NumGoroutine" then none else
  pure (.code (← slotsFrom fn.ntmps 0) (← cc P fn.ntmps body) (← cres P fn.results.toList))
section
variable {R : Type}
noncomputable def forceOpd (x : Opd) (k : Opd → R) : R := match x with
  | .tmp p => forceSlot p fun p => k (.tmp p)
  | .val v => force v fun v => k (.val v)
theorem forceOpd_eq (x : Opd) (k : Opd → R) : forceOpd x k = k x := by cases x <;> simp [forceOpd, forceSlot_eq, force_eq]
noncomputable def forceOpds (l : List Opd) (k : List Opd → R) : R := match l with
  | [] => k []
  | x :: l => forceOpd x fun x => forceOpds l fun l => k (x :: l)
theorem forceOpds_eq (l : List Opd) (k : List Opd → R) : forceOpds l k = k l := by
  induction l generalizing k <;> simp [forceOpds, forceOpd_eq, *]
noncomputable def forceOo (x : Option Opd) (k : Option Opd → R) : R := match x with
  | none => k none
  | some x => forceOpd x fun x => k (some x)
theorem forceOo_eq (x : Option Opd) (k : Option Opd → R) : forceOo x k = k x := by cases x <;> simp [forceOo, forceOpd_eq]
noncomputable def forceParts (l : List (Nat × Nat × Opd)) (k : List (Nat × Nat × Opd) → R) : R := match l with
  | [] => k []
  | (a, b, x) :: l => forceNat a fun a => forceNat b fun b => forceOpd x fun x => forceParts l fun l => k ((a, b, x) :: l)
theorem forceParts_eq (l : List (Nat × Nat × Opd)) (k : List (Nat × Nat × Opd) → R) : forceParts l k = k l := by
  induction l generalizing k with
  | nil => rfl
  | cons x l ih => obtain ⟨a, b, x⟩ := x; simp [forceParts, forceOpd_eq, forceNat_eq, ih]
def forceTK (t : TK) (k : TK → R) : R := match t with
  | .num => k .num | .bool => k .bool | .ptr => k .ptr | .sl => k .sl | .ifc => k .ifc | .ifd => k .ifd
theorem forceTK_eq (t : TK) (k : TK → R) : forceTK t k = k t := by cases t <;> rfl
noncomputable def forceCKs (l : List CK) (k : List CK → R) : R := match l with
  | [] => k []
  | c :: l => match c with
    | .b => forceCKs l fun l => k (.b :: l)
    | .i => forceCKs l fun l => k (.i :: l)
    | .s => forceCKs l fun l => k (.s :: l)
theorem forceCKs_eq (l : List CK) (k : List CK → R) : forceCKs l k = k l := by
  induction l generalizing k with
  | nil => rfl
  | cons c l ih => cases c <;> simp [forceCKs, ih]
noncomputable def forceQ (q : QOp) (k : QOp → R) : R := match q with
  | .mov x => forceOpd x fun x => k (.mov x)
  | .pick a b c => forceOpd a fun a => forceOpd b fun b => forceOpd c fun c => k (.pick a b c)
  | .load1 x => forceOpd x fun x => k (.load1 x)
  | .loadN n x => forceNat n fun n => forceOpd x fun x => k (.loadN n x)
  | .nilck x => forceOpd x fun x => k (.nilck x)
  | .bin op tk x y => forceTK tk fun tk => forceOpd x fun x => forceOpd y fun y => k (.bin op tk x y)
  | .eqAgg cs neg x y => forceCKs cs fun cs => forceBool neg fun neg => forceOpd x fun x => forceOpd y fun y => k (.eqAgg cs neg x y)
  | .un op x => forceOpd x fun x => k (.un op x)
  | .toInt q x => forceKind q fun q => forceOpd x fun x => k (.toInt q x)
  | .sameStr x => forceOpd x fun x => k (.sameStr x)
  | .bytesStr x => forceOpd x fun x => k (.bytesStr x)
  | .slStr x lo hi => forceOpd x fun x => forceOo lo fun lo => forceOo hi fun hi => k (.slStr x lo hi)
  | .slSl e x lo hi mx => forceNat e fun e => forceOpd x fun x => forceOo lo fun lo => forceOo hi fun hi => forceOo mx fun mx => k (.slSl e x lo hi mx)
  | .slArr n e x lo hi mx => forceNat n fun n => forceNat e fun e => forceOpd x fun x => forceOo lo fun lo => forceOo hi fun hi => forceOo mx fun mx => k (.slArr n e x lo hi mx)
  | .fieldAddr o x => forceNat o fun o => forceOpd x fun x => k (.fieldAddr o x)
  | .field o n b x => forceNat o fun o => forceNat n fun n => forceBool b fun b => forceOpd x fun x => k (.field o n b x)
  | .ixArr n e x i => forceNat n fun n => forceNat e fun e => forceOpd x fun x => forceOpd i fun i => k (.ixArr n e x i)
  | .ixSl e x i => forceNat e fun e => forceOpd x fun x => forceOpd i fun i => k (.ixSl e x i)
  | .idxAgg n e b x i => forceNat n fun n => forceNat e fun e => forceBool b fun b => forceOpd x fun x => forceOpd i fun i => k (.idxAgg n e b x i)
  | .idxStr x i => forceOpd x fun x => forceOpd i fun i => k (.idxStr x i)
  | .extract i x => forceNat i fun i => forceOpd x fun x => k (.extract i x)
  | .build z ps => forces z fun z => forceParts ps fun ps => k (.build z ps)
  | .lenStr x => forceOpd x fun x => k (.lenStr x)
  | .lenSl x => forceOpd x fun x => k (.lenSl x)
  | .lenK n => forceNat n fun n => k (.lenK n)
  | .capSl x => forceOpd x fun x => k (.capSl x)
  | .maxI x xs => forceOpd x fun x => forceOpds xs fun xs => k (.maxI x xs)
  | .minI x xs => forceOpd x fun x => forceOpds xs fun xs => k (.minI x xs)
  | .mkFunc f caps => forceNat f fun f => forceOpds caps fun caps => k (.mkFunc f caps)
  | .mlook g cs z ok x i => forceBool g fun g => forceCKs cs fun cs => force z fun z => forceBool ok fun ok => forceOpd x fun x => forceOpd i fun i => k (.mlook g cs z ok x i)
  | .mlen x => forceOpd x fun x => k (.mlen x)
  | .mentry x => forceOpd x fun x => k (.mentry x)
  | .mkI t x => forceNat t fun t => forceOpd x fun x => k (.mkI t x)
  | .cntS x y => forceOpd x fun x => forceOpd y fun y => k (.cntS x y)
  | .ixbS x y => forceOpd x fun x => forceOpd y fun y => k (.ixbS x y)
  | .toU x => forceOpd x fun x => k (.toU x)
  | .ofU tg n x => forceNat tg fun tg => forceNat n fun n => forceOpd x fun x => k (.ofU tg n x)
  | .slData x => forceOpd x fun x => k (.slData x)
theorem forceQ_eq (q : QOp) (k : QOp → R) : forceQ q k = k q := by
  cases q <;> simp [forceQ, forceCKs_eq, forceTK_eq, forceOpd_eq, forceOpds_eq, forceOo_eq, forceNat_eq, forceBool_eq, forceKind_eq, forces_eq, forceParts_eq, force_eq]
noncomputable def forceA (a : AOp) (k : AOp → R) : R := match a with
  | .alloc z => forces z fun z => k (.alloc z)
  | .box x => forceOpd x fun x => k (.box x)
  | .bslice e z n ps => forceNat e fun e => forces z fun z => forceNat n fun n => forceParts ps fun ps => k (.bslice e z n ps)
  | .mkslice e b z l c => forceNat e fun e => forceNat b fun b => forces z fun z => forceOpd l fun l => forceOpd c fun c => k (.mkslice e b z l c)
  | .strBytes x => forceOpd x fun x => k (.strBytes x)
  | .allocT tg z => forceNat tg fun tg => forces z fun z => k (.allocT tg z)
theorem forceA_eq (a : AOp) (k : AOp → R) : forceA a k = k a := by
  cases a <;> simp [forceA, forceOpd_eq, forceNat_eq, forces_eq, forceParts_eq]
noncomputable def forceE (e : EOp) (k : EOp → R) : R := match e with
  | .store n x v => forceNat n fun n => forceOpd x fun x => forceOpd v fun v => k (.store n x v)
  | .append e b s x => forceNat e fun e => forceNat b fun b => forceOpd s fun s => forceOpd x fun x => k (.append e b s x)
  | .copy e d s => forceNat e fun e => forceOpd d fun d => forceOpd s fun s => k (.copy e d s)
  | .call f args => forceNat f fun f => forceOpds args fun args => k (.call f args)
  | .callV f args => forceOpd f fun f => forceOpds args fun args => k (.callV f args)
  | .mmake r => forceOo r fun r => k (.mmake r)
  | .mset g cs x i v => forceBool g fun g => forceCKs cs fun cs => forceOpd x fun x => forceOpd i fun i => forceOpd v fun v => k (.mset g cs x i v)
  | .mdel g cs x i => forceBool g fun g => forceCKs cs fun cs => forceOpd x fun x => forceOpd i fun i => k (.mdel g cs x i)
  | .ment g cs z x i => forceBool g fun g => forceCKs cs fun cs => force z fun z => forceOpd x fun x => forceOpd i fun i => k (.ment g cs z x i)
  | .mstamp x s v => forceOpd x fun x => forceOpd s fun s => forceOpd v fun v => k (.mstamp x s v)
  | .clr e z x => forceNat e fun e => forces z fun z => forceOpd x fun x => k (.clr e z x)
  | .mrange x => forceOpd x fun x => k (.mrange x)
  | .mnext x => forceOpd x fun x => k (.mnext x)
  | .uStr tg x n => forceNat tg fun tg => forceOpd x fun x => forceOpd n fun n => k (.uStr tg x n)
  | .appendT tg e b s x => forceNat tg fun tg => forceNat e fun e => forceNat b fun b => forceOpd s fun s => forceOpd x fun x => k (.appendT tg e b s x)
theorem forceE_eq (e : EOp) (k : EOp → R) : forceE e k = k e := by
  cases e <;> simp [forceE, forceOpd_eq, forceOpds_eq, forceNat_eq, forceOo_eq, forceBool_eq, forceCKs_eq, force_eq, forces_eq]
noncomputable def forceKOp (o : KOp) (k : KOp → R) : R := match o with
  | .q q => forceQ q fun q => k (.q q)
  | .a a => forceA a fun a => k (.a a)
  | .e e => forceE e fun e => k (.e e)
theorem forceKOp_eq (o : KOp) (k : KOp → R) : forceKOp o k = k o := by cases o <;> simp [forceKOp, forceQ_eq, forceA_eq, forceE_eq]
noncomputable def forceDst (d : Option Slot) (k : Option Slot → R) : R := match d with
  | none => k none
  | some p => forceSlot p fun p => k (some p)
theorem forceDst_eq (d : Option Slot) (k : Option Slot → R) : forceDst d k = k d := by cases d <;> simp [forceDst, forceSlot_eq]
noncomputable def forceGuard (d : Option (Slot × Bool)) (k : Option (Slot × Bool) → R) : R := match d with
  | none => k none
  | some (p, b) => forceSlot p fun p => forceBool b fun b => k (some (p, b))
theorem forceGuard_eq (d : Option (Slot × Bool)) (k : Option (Slot × Bool) → R) : forceGuard d k = k d := by
  cases d with
  | none => rfl
  | some x => obtain ⟨p, b⟩ := x; simp [forceGuard, forceSlot_eq, forceBool_eq]
noncomputable def forcePOp (o : POp) (k : POp → R) : R := match o with
  | ⟨d, g, x⟩ => forceDst d fun d => forceGuard g fun g => forceKOp x fun x => k ⟨d, g, x⟩
theorem forcePOp_eq (o : POp) (k : POp → R) : forcePOp o k = k o := by simp [forcePOp, forceDst_eq, forceGuard_eq, forceKOp_eq]
noncomputable def forcePOps (l : List POp) (k : List POp → R) : R := match l with
  | [] => k []
  | o :: l => forcePOp o fun o => forcePOps l fun l => k (o :: l)
theorem forcePOps_eq (l : List POp) (k : List POp → R) : forcePOps l k = k l := by
  induction l generalizing k <;> simp [forcePOps, forcePOp_eq, *]
noncomputable def forceDOps (l : List DOp) (k : List DOp → R) : R := match l with
  | [] => k []
  | ⟨i, o, c⟩ :: l => forceNat i fun i => forcePOp o fun o => forcePOps c fun c => forceDOps l fun l => k (⟨i, o, c⟩ :: l)
theorem forceDOps_eq (l : List DOp) (k : List DOp → R) : forceDOps l k = k l := by
  induction l generalizing k <;> simp [forceDOps, forcePOp_eq, forcePOps_eq, forceNat_eq, *]
noncomputable def forcePC (c : PC) (k : PC → R) : R := match c with
  | .skip => k .skip
  | .ops l => forcePOps l fun l => k (.ops l)
  | .draw n l => forceNat n fun n => forceDOps l fun l => k (.draw n l)
  | .seq a b => forcePC a fun a => forcePC b fun b => k (.seq a b)
  | .cond c a b => forceOpd c fun c => forcePC a fun a => forcePC b fun b => k (.cond c a b)
  | .block i c => forceNat i fun i => forcePC c fun c => k (.block i c)
  | .loop c => forcePC c fun c => k (.loop c)
  | .exit i => forceNat i fun i => k (.exit i)
  | .ret => k .ret
theorem forcePC_eq (c : PC) (k : PC → R) : forcePC c k = k c := by
  induction c generalizing k <;> simp [forcePC, forcePOps_eq, forceDOps_eq, forceOpd_eq, forceNat_eq, *]
noncomputable def forceRes (l : List PRes) (k : List PRes → R) : R := match l with
  | [] => k []
  | .tmp p :: l => forceSlot p fun p => forceRes l fun l => k (.tmp p :: l)
  | .cell1 p :: l => forceSlot p fun p => forceRes l fun l => k (.cell1 p :: l)
  | .cellN n p :: l => forceNat n fun n => forceSlot p fun p => forceRes l fun l => k (.cellN n p :: l)
theorem forceRes_eq (l : List PRes) (k : List PRes → R) : forceRes l k = k l := by
  induction l generalizing k with
  | nil => rfl
  | cons x l ih => cases x <;> simp [forceRes, forceSlot_eq, forceNat_eq, ih]
noncomputable def forceSlots (l : List Slot) (k : List Slot → R) : R := match l with
  | [] => k []
  | s :: l => forceSlot s fun s => forceSlots l fun l => k (s :: l)
theorem forceSlots_eq (l : List Slot) (k : List Slot → R) : forceSlots l k = k l := by
  induction l generalizing k <;> simp [forceSlots, forceSlot_eq, *]
noncomputable def forceFn (f : PFn) (k : PFn → R) : R := match f with
  | .code n b r => forceSlots n fun n => forcePC b fun b => forceRes r fun r => k (.code n b r)
  | .keys o => forceNat o fun o => k (.keys o)
  | .host o => forceNat o fun o => k (.host o)
theorem forceFn_eq (f : PFn) (k : PFn → R) : forceFn f k = k f := by cases f <;> simp [forceFn, forceSlots_eq, forcePC_eq, forceRes_eq, forceNat_eq]
end
noncomputable def tabOf (P : Program) (f : Nat) : Option PFn := (P.funcs[f]?).bind (cfn P)
noncomputable def hookOf (hk : List (Nat × PFn)) (f : Nat) : Option PFn := match hk with
  | [] => none
  | (g, fn) :: l => match Nat.beq f g with
    | true => some fn
    | false => hookOf l f
def isAggBF (_P : Program) (U : TypeId → Option TypeDesc) (_I : TypeId → Option TypeInfo) (t : TypeId) : Bool :=
  match U t with
  | some (.struct _) => true
  | some (.array _ _) => true
  | _ => false
def czeroF (_P : Program) (_U : TypeId → Option TypeDesc) (I : TypeId → Option TypeInfo) (t : TypeId) : Option (List AVal) :=
  match I t with
  | some i => match i.zero with
    | some z => cvals z.cells.toList
    | none => none
  | none => none
def ifOkF (_P : Program) (U : TypeId → Option TypeDesc) (I : TypeId → Option TypeInfo) : Bool := match U ifT, I ifT with
  | some (.int _), some i => i.comparable
  | _, _ => false
def isBuilderF (_P : Program) (_U : TypeId → Option TypeDesc) (I : TypeId → Option TypeInfo) (t : TypeId) : Bool := match I t with
  | some { desc := .named n _, .. } => n == "strings.Builder"
  | _ => false
def csizeF (_P : Program) (_U : TypeId → Option TypeDesc) (I : TypeId → Option TypeInfo) (t : TypeId) : Option Nat := (I t).map (·.size)
def flatsF (P : Program) (U : TypeId → Option TypeDesc) (I : TypeId → Option TypeInfo) (g : TypeId → Option (List CK)) : List Field → Nat → Option (List CK)
  | [], _ => some []
  | f :: l, o => match g f.type, csizeF P U I f.type with
    | some c, some s => if f.name ≠ "_" ∧ f.offset = o ∧ s = c.length then (match flatsF P U I g l (o + s) with
      | some r => some (c ++ r)
      | none => none) else none
    | _, _ => none
def flatF (P : Program) (U : TypeId → Option TypeDesc) (I : TypeId → Option TypeInfo) : Nat → TypeId → Option (List CK)
  | 0, _ => none
  | d + 1, t => match U t with
    | some .bool => some [.b]
    | some (.int _) => some [.i]
    | some .string => some [.s]
    | some (.struct fs) => if P.stoodInHeld t then none else flatsF P U I (flatF P U I d) fs.toList 0
    | some (.array n e) => match flatF P U I d e, csizeF P U I e with
      | some l, some s => if s = l.length then some (repC n l) else none
      | _, _ => none
    | _ => none
def isU8F (_P : Program) (U : TypeId → Option TypeDesc) (_I : TypeId → Option TypeInfo) (e : TypeId) : Bool :=
  match U e with
  | some (.int .u8) => true
  | _ => false
def czeroVF (_P : Program) (_U : TypeId → Option TypeDesc) (I : TypeId → Option TypeInfo) (t : TypeId) : Option AVal :=
  match I t with
  | some i => match i.zero with
    | some (.agg cs) => (cvals cs.toList).map .agg
    | some z => cval1 z
    | none => none
  | none => none
def cmapF (P : Program) (U : TypeId → Option TypeDesc) (I : TypeId → Option TypeInfo) (t : TypeId) : Option (Bool × List CK × TypeId) :=
  match U t with
  | some (.map k e) => match flatF P U I 20 k with
    | some cs => some (isAggBF P U I k, cs, e)
    | none => none
  | _ => none
def cop_makeMap (_P : Program) (U : TypeId → Option TypeDesc) (_I : TypeId → Option TypeInfo) (t : TypeId) (r : Option Operand) : Option KOp := do
    let some (.map _ _) := U t | none
    pure (.e (.mmake (← copt r)))
def cop_lookup (P : Program) (U : TypeId → Option TypeDesc) (I : TypeId → Option TypeInfo) (t : TypeId) (x k : Operand) (ok : Bool) : Option KOp := do
    let (g, cs, e) ← cmapF P U I t
    pure (.q (.mlook g cs (← czeroVF P U I e) ok (← copd x) (← copd k)))
def cop_mapUpdate (P : Program) (U : TypeId → Option TypeDesc) (I : TypeId → Option TypeInfo) (t : TypeId) (x k v : Operand) : Option KOp := do
    let (g, cs, _) ← cmapF P U I t
    pure (.e (.mset g cs (← copd x) (← copd k) (← copd v)))
def cop_mapEntry (P : Program) (U : TypeId → Option TypeDesc) (I : TypeId → Option TypeInfo) (t : TypeId) (x k : Operand) : Option KOp := do
    let (g, cs, e) ← cmapF P U I t
    pure (.e (.ment g cs (← czeroVF P U I e) (← copd x) (← copd k)))
def cop_entryStore (_P : Program) (_U : TypeId → Option TypeDesc) (_I : TypeId → Option TypeInfo) (x s v : Operand) : Option KOp := do pure (.e (.mstamp (← copd x) (← copd s) (← copd v)))
def cop_move (_P : Program) (_U : TypeId → Option TypeDesc) (_I : TypeId → Option TypeInfo) (x : Operand) : Option KOp := do pure (.q (.mov (← copd x)))
def cop_pick (_P : Program) (_U : TypeId → Option TypeDesc) (_I : TypeId → Option TypeInfo) (c a b : Operand) : Option KOp := do pure (.q (.pick (← copd c) (← copd a) (← copd b)))
def cop_alloc (P : Program) (U : TypeId → Option TypeDesc) (I : TypeId → Option TypeInfo) (t : TypeId) : Option KOp := do
    if isBuilderF P U I t then pure (.a (.allocT (tagOf t) (← czeroF P U I t))) else pure (.a (.alloc (← czeroF P U I t)))
def cop_box (_P : Program) (_U : TypeId → Option TypeDesc) (_I : TypeId → Option TypeInfo) (x : Operand) : Option KOp := do pure (.a (.box (← copd x)))
def cop_build (P : Program) (U : TypeId → Option TypeDesc) (I : TypeId → Option TypeInfo) (t : TypeId) (ps : Array (Nat × Operand)) : Option KOp := do
    let z ← czeroF P U I t
    match U t with
    | some (.struct fs) =>
      if fs.all fun f => (csizeF P U I f.type).isSome then
        pure (.q (.build z (← cparts (fun i => (fs[i]?).bind fun f => (csizeF P U I f.type).map fun n => (f.offset, n)) ps.toList)))
      else none
    | some (.array _ e) => do
      let s ← csizeF P U I e
      pure (.q (.build z (← cparts (fun i => some (i * s, s)) ps.toList)))
    | _ => none
def cop_buildSlice (P : Program) (U : TypeId → Option TypeDesc) (I : TypeId → Option TypeInfo) (t : TypeId) (len : Nat) (ps : Array (Nat × Operand)) : Option KOp := do
    let some (.slice e) := U t | none
    let s ← csizeF P U I e
    let z ← czeroF P U I e
    if decide (s = z.length) && decide (0 < s) && decide (s ≤ 1048576) && decide (len * s ≤ 16777216) then
      pure (.a (.bslice s z len (← cparts (fun i => some (i * s, s)) ps.toList)))
    else none
def cop_load (P : Program) (U : TypeId → Option TypeDesc) (I : TypeId → Option TypeInfo) (t : TypeId) (x : Operand) : Option KOp := do
    if isAggBF P U I t then pure (.q (.loadN (← csizeF P U I t) (← copd x))) else (if (U t).isSome then do pure (.q (.load1 (← copd x))) else none)
def cop_store (P : Program) (U : TypeId → Option TypeDesc) (I : TypeId → Option TypeInfo) (t : TypeId) (x v : Operand) : Option KOp := do pure (.e (.store (← csizeF P U I t) (← copd x) (← copd v)))
def cop_nilCheck (_P : Program) (_U : TypeId → Option TypeDesc) (_I : TypeId → Option TypeInfo) (x : Operand) : Option KOp := do pure (.q (.nilck (← copd x)))
def cop_binOp (P : Program) (U : TypeId → Option TypeDesc) (I : TypeId → Option TypeInfo) (op : BinOp) (t : TypeId) (x y : Operand) : Option KOp := do
    match isAggBF P U I t, op with
    | true, .eql => if !P.eqGuardType P.depth t then do pure (.q (.eqAgg (← flatF P U I 20 t) false (← copd x) (← copd y))) else none
    | true, .neq => if !P.eqGuardType P.depth t then do pure (.q (.eqAgg (← flatF P U I 20 t) true (← copd x) (← copd y))) else none
    | true, _ => none
    | false, op => match U t with
      | some .bool => do pure (.q (.bin op .bool (← copd x) (← copd y)))
      | some (.int _) | some .string => do pure (.q (.bin op .num (← copd x) (← copd y)))
      | some (.pointer e) => if (csizeF P U I e).isSome then do pure (.q (.bin op .ptr (← copd x) (← copd y))) else none
      | some (.slice _) => do pure (.q (.bin op .sl (← copd x) (← copd y)))
      | some (.interface _) => if ifOkF P U I then do pure (.q (.bin op (if isC x || isC y then .ifc else .ifd) (← copd x) (← copd y))) else none
      | _ => none
def cop_makeInterface (_P : Program) (U : TypeId → Option TypeDesc) (_I : TypeId → Option TypeInfo) (t : TypeId) (x : Operand) : Option KOp := match U t with
    | some (.interface _) => none
    | some _ => do pure (.q (.mkI t (← copd x)))
    | none => none
def cop_unOp (_P : Program) (_U : TypeId → Option TypeDesc) (_I : TypeId → Option TypeInfo) (op : UnOp) (x : Operand) : Option KOp := do pure (.q (.un op (← copd x)))
def cop_convert (P : Program) (U : TypeId → Option TypeDesc) (I : TypeId → Option TypeInfo) (s d : TypeId) (x : Operand) : Option KOp :=
    match U s, U d with
    | some _, some (.int k) => do pure (.q (.toInt k (← copd x)))
    | some .string, some .string => do pure (.q (.sameStr (← copd x)))
    | some (.slice e), some .string => if isU8F P U I e then do pure (.q (.bytesStr (← copd x))) else none
    | some .string, some (.slice e) => if isU8F P U I e then do pure (.a (.strBytes (← copd x))) else none
    | some (.pointer u), some .unsafePointer => do
      let n ← csizeF P U I u
      if n = 0 then none else pure (.q (.toU (← copd x)))
    | some .unsafePointer, some (.pointer u) => do
      let n ← csizeF P U I u
      if n = 0 then none else if liesOk P u then pure (.q (.ofU (tagOf u) n (← copd x))) else none
    | _, _ => none
def cop_makeSlice (P : Program) (U : TypeId → Option TypeDesc) (I : TypeId → Option TypeInfo) (t : TypeId) (l c : Operand) : Option KOp := do
    let some (.slice e) := U t | none
    let i ← I e
    let z ← czeroF P U I e
    if decide (i.size = z.length) && decide (0 < i.size) && decide (i.size ≤ 1048576) && decide (0 < i.bytes) then pure (.a (.mkslice i.size i.bytes z (← copd l) (← copd c))) else none
def cop_slice (P : Program) (U : TypeId → Option TypeDesc) (I : TypeId → Option TypeInfo) (t : TypeId) (x : Operand) (lo hi mx : Option Operand) : Option KOp :=
    match U t with
    | some .string => match mx with
      | none => do pure (.q (.slStr (← copd x) (← copt lo) (← copt hi)))
      | some _ => none
    | some (.slice e) => do
      let s ← csizeF P U I e
      if mx.isSome && hi.isNone then none else
      pure (.q (.slSl s (← copd x) (← copt lo) (← copt hi) (← copt mx)))
    | some (.array n e) => do
      let s ← csizeF P U I e
      if mx.isSome && hi.isNone then none else
      pure (.q (.slArr n s (← copd x) (← copt lo) (← copt hi) (← copt mx)))
    | some (.pointer arr) => match U arr with
      | some (.array n e) => do
        let s ← csizeF P U I e
        if mx.isSome && hi.isNone then none else
        pure (.q (.slArr n s (← copd x) (← copt lo) (← copt hi) (← copt mx)))
      | _ => none
    | _ => none
def cop_fieldAddr (P : Program) (U : TypeId → Option TypeDesc) (I : TypeId → Option TypeInfo) (t : TypeId) (x : Operand) (f : Nat) : Option KOp := do
    let some (.struct fs) := U t | none
    let fd ← fs[f]?
    let n ← csizeF P U I fd.type
    if n = 0 then none else pure (.q (.fieldAddr fd.offset (← copd x)))
def cop_field (P : Program) (U : TypeId → Option TypeDesc) (I : TypeId → Option TypeInfo) (t : TypeId) (x : Operand) (f : Nat) : Option KOp := do
    let some (.struct fs) := U t | none
    let fd ← fs[f]?
    let n ← csizeF P U I fd.type
    if (U fd.type).isSome then pure (.q (.field fd.offset n (isAggBF P U I fd.type) (← copd x))) else none
def cop_indexAddr (P : Program) (U : TypeId → Option TypeDesc) (I : TypeId → Option TypeInfo) (t : TypeId) (x i : Operand) : Option KOp := do
    match U t with
    | some (.array n e) => pure (.q (.ixArr n (← csizeF P U I e) (← copd x) (← copd i)))
    | some (.slice e) => pure (.q (.ixSl (← csizeF P U I e) (← copd x) (← copd i)))
    | _ => none
def cop_index (P : Program) (U : TypeId → Option TypeDesc) (I : TypeId → Option TypeInfo) (t : TypeId) (x i : Operand) : Option KOp := do
    match U t with
    | some (.array n e) => if (U e).isSome then pure (.q (.idxAgg n (← csizeF P U I e) (isAggBF P U I e) (← copd x) (← copd i))) else none
    | some .string => pure (.q (.idxStr (← copd x) (← copd i)))
    | _ => none
def cop_extract (_P : Program) (_U : TypeId → Option TypeDesc) (_I : TypeId → Option TypeInfo) (x : Operand) (i : Nat) : Option KOp := do pure (.q (.extract i (← copd x)))
def cop_makeFunc (_P : Program) (_U : TypeId → Option TypeDesc) (_I : TypeId → Option TypeInfo) (f : FuncId) (first caps : Array Operand) : Option KOp := if first.isEmpty then do pure (.q (.mkFunc f (← copds caps.toList))) else none
def copCVf (P : Program) (_U : TypeId → Option TypeDesc) (_I : TypeId → Option TypeInfo) (f : Nat) (c : Call) : Option KOp := match extOf P f with
      | some k => match k, c.args.toList with
        | 0, [x] => do pure (.q (.mov (← copd x)))
        | 1, [x, y] => do pure (.q (.cntS (← copd x) (← copd y)))
        | 2, [x, y] => do pure (.q (.ixbS (← copd x) (← copd y)))
        | _, _ => none
      | none => do pure (.e (.call f (← copds c.args.toList)))
def copCBsd (_P : Program) (_U : TypeId → Option TypeDesc) (_I : TypeId → Option TypeInfo) (c : Call) : Option KOp := match c.args.toList with
      | [x] => do pure (.q (.slData (← copd x)))
      | _ => none
def copCBus (P : Program) (U : TypeId → Option TypeDesc) (I : TypeId → Option TypeInfo) (c : Call) : Option KOp := match c.argTypes.toList, c.args.toList with
      | [t, _], [x, n] => match U t with
        | some (.pointer e) => if isU8F P U I e && (liesOk P e && csizeF P U I e == some 1) then do pure (.e (.uStr (tagOf e) (← copd x) (← copd n))) else none
        | _ => none
      | _, _ => none
def copCVt (_P : Program) (_U : TypeId → Option TypeDesc) (_I : TypeId → Option TypeInfo) (t : Tmp) (c : Call) : Option KOp := do pure (.e (.callV (.tmp (← Slot.of t)) (← copds c.args.toList)))
def copCBlen (_P : Program) (U : TypeId → Option TypeDesc) (_I : TypeId → Option TypeInfo) (c : Call) : Option KOp := match c.argTypes.toList, c.args.toList with
    | [t], [x] => match U t with
      | some .string => do pure (.q (.lenStr (← copd x)))
      | some (.slice _) => do pure (.q (.lenSl (← copd x)))
      | some (.map _ _) => do pure (.q (.mlen (← copd x)))
      | some (.array n _) => some (.q (.lenK n))
      | some (.pointer a) => match U a with
        | some (.array n _) => some (.q (.lenK n))
        | _ => none
      | _ => none
    | _, _ => none
def copCBcap (_P : Program) (U : TypeId → Option TypeDesc) (_I : TypeId → Option TypeInfo) (c : Call) : Option KOp := match c.argTypes.toList, c.args.toList with
    | [t], [x] => match U t with
      | some (.slice _) => do pure (.q (.capSl (← copd x)))
      | _ => none
    | _, _ => none
def copCBmax (_P : Program) (_U : TypeId → Option TypeDesc) (_I : TypeId → Option TypeInfo) (c : Call) : Option KOp := match c.args.toList with
    | x :: xs => do pure (.q (.maxI (← copd x) (← copds xs)))
    | [] => none
def copCBmin (_P : Program) (_U : TypeId → Option TypeDesc) (_I : TypeId → Option TypeInfo) (c : Call) : Option KOp := match c.args.toList with
    | x :: xs => do pure (.q (.minI (← copd x) (← copds xs)))
    | [] => none
def copCBappend (P : Program) (U : TypeId → Option TypeDesc) (I : TypeId → Option TypeInfo) (c : Call) : Option KOp := match c.argTypes.toList, c.args.toList with
    | [t, u], [s, x] => do
      let some (.slice e) := U t | none
      let i ← I e
      let z ← czeroF P U I e
      match U u with
      | some (.slice _) =>
        if decide (0 < i.size) && decide (0 < i.bytes) && decide (i.bytes ≤ 1048576) && decide (z.length = i.size) && decide (i.size ≤ 1048576) then pure (.e (.append i.size i.bytes (← copd s) (← copd x))) else none
      | some .string =>
        if decide (0 < i.size) && decide (0 < i.bytes) && decide (i.bytes ≤ 1048576) && decide (z.length = i.size) && decide (i.size ≤ 1048576) then pure (.e (.appendT (tagOf e) i.size i.bytes (← copd s) (← copd x))) else none
      | _ => none
    | _, _ => none
def copCBdelete (P : Program) (U : TypeId → Option TypeDesc) (I : TypeId → Option TypeInfo) (c : Call) : Option KOp := match c.argTypes.toList, c.args.toList with
    | [t, _], [x, k] => do
      let (g, cs, _) ← cmapF P U I t
      pure (.e (.mdel g cs (← copd x) (← copd k)))
    | _, _ => none
def copCBclear (P : Program) (U : TypeId → Option TypeDesc) (I : TypeId → Option TypeInfo) (c : Call) : Option KOp := match c.argTypes.toList, c.args.toList with
    | [t], [x] => do
      let some (.slice e) := U t | none
      let z ← czeroF P U I e
      pure (.e (.clr z.length z (← copd x)))
    | _, _ => none
def copCBcopy (P : Program) (U : TypeId → Option TypeDesc) (I : TypeId → Option TypeInfo) (c : Call) : Option KOp := match c.argTypes.toList, c.args.toList with
    | [t, _], [d, s] => do
      let some (.slice e) := U t | none
      pure (.e (.copy (← csizeF P U I e) (← copd d) (← copd s)))
    | _, _ => none
def copCall (P : Program) (U : TypeId → Option TypeDesc) (I : TypeId → Option TypeInfo) (c : Call) : Option KOp := match c.callee with
  | .value (.func f) => copCVf P U I f c
  | .value (.tmp t) => copCVt P U I t c
  | .builtin .unsafeSliceData => copCBsd P U I c
  | .builtin .unsafeString => copCBus P U I c
  | .builtin .len => copCBlen P U I c
  | .builtin .cap => copCBcap P U I c
  | .builtin .max => copCBmax P U I c
  | .builtin .min => copCBmin P U I c
  | .builtin .append => copCBappend P U I c
  | .builtin .delete => copCBdelete P U I c
  | .builtin .clear => copCBclear P U I c
  | .builtin .copy => copCBcopy P U I c
  | _ => none
def cop_range (_P : Program) (U : TypeId → Option TypeDesc) (_I : TypeId → Option TypeInfo) (t : TypeId) (x : Operand) : Option KOp := do
    let some (.map _ _) := U t | none
    pure (.e (.mrange (← copd x)))
def cop_next (_P : Program) (_U : TypeId → Option TypeDesc) (_I : TypeId → Option TypeInfo) (x : Operand) : Option KOp := do pure (.e (.mnext (← copd x)))
def cop_entry (_P : Program) (_U : TypeId → Option TypeDesc) (_I : TypeId → Option TypeInfo) (x : Operand) : Option KOp := do pure (.q (.mentry (← copd x)))
def copF (P : Program) (U : TypeId → Option TypeDesc) (I : TypeId → Option TypeInfo) (op : Op) : Option KOp :=
  match op with
  | .makeMap t r => cop_makeMap P U I t r
  | .lookup t x k ok => cop_lookup P U I t x k ok
  | .mapUpdate t x k v => cop_mapUpdate P U I t x k v
  | .mapEntry t x k => cop_mapEntry P U I t x k
  | .entryStore _ x s v => cop_entryStore P U I x s v
  | .range t x => cop_range P U I t x
  | .next x false => cop_next P U I x
  | .entry x => cop_entry P U I x
  | .move x | .assign x => cop_move P U I x
  | .pick c a b => cop_pick P U I c a b
  | .alloc t => cop_alloc P U I t
  | .box _ x => cop_box P U I x
  | .build t ps => cop_build P U I t ps
  | .buildSlice t len ps => cop_buildSlice P U I t len ps
  | .load t x => cop_load P U I t x
  | .store t x v => cop_store P U I t x v
  | .nilCheck x => cop_nilCheck P U I x
  | .binOp op t x y _ => cop_binOp P U I op t x y
  | .makeInterface t x => cop_makeInterface P U I t x
  | .unOp op _ x => cop_unOp P U I op x
  | .convert s d x => cop_convert P U I s d x
  | .makeSlice t l c => cop_makeSlice P U I t l c
  | .slice t x lo hi mx => cop_slice P U I t x lo hi mx
  | .fieldAddr t x f => cop_fieldAddr P U I t x f
  | .field t x f => cop_field P U I t x f
  | .indexAddr t x i => cop_indexAddr P U I t x i
  | .index t x i => cop_index P U I t x i
  | .extract x i => cop_extract P U I x i
  | .makeFunc (.func f) first caps => cop_makeFunc P U I f first caps
  | .call c => copCall P U I c
  | _ => none
def cpopF (P : Program) (U : TypeId → Option TypeDesc) (I : TypeId → Option TypeInfo) (nt : Nat) (ops : Array Oper) (o : Oper) : Option POp :=
  match copF P U I o.op, cdst nt o.dst, cguard ops o.guard with
  | some k, some d, some g => some ⟨d, g, k⟩
  | _, _, _ => none
def cpopsF (P : Program) (U : TypeId → Option TypeDesc) (I : TypeId → Option TypeInfo) (nt : Nat) (ops : Array Oper) : List Oper → Option (List POp)
  | [] => some []
  | o :: l => match cpopF P U I nt ops o, cpopsF P U I nt ops l with
    | some o, some l => some (o :: l)
    | _, _ => none
noncomputable def mrowsOfF (P : Program) (U : TypeId → Option TypeDesc) (I : TypeId → Option TypeInfo) (nt : Nat) (ops : Array Oper) (l : List Oper) (i : Nat) (acc : List MRow) : Option (List MRow) := match l with
  | [] => some acc
  | o :: l => match cpopF P U I nt ops o with
    | some p => mrow i p (preOf o) acc fun r => mrowsOfF P U I nt ops l (Nat.succ r.ix) (r :: acc)
    | none => none
noncomputable def planOfF (P : Program) (U : TypeId → Option TypeDesc) (I : TypeId → Option TypeInfo) (nt : Nat) (ops : Array Oper) : Option (List DOp) :=
  match mrowsOfF P U I nt ops ops.toList 0 [] with
  | some rows => match planM ops.size 0 [] (revM rows []) [] with
    | l => match chkM ops.size l with
      | true => some (l.map (dopM l))
      | false => none
  | none => none
noncomputable def ccF (P : Program) (U : TypeId → Option TypeDesc) (I : TypeId → Option TypeInfo) (nt : Nat) : Code → Option PC
  | .skip => some .skip
  | .label _ => some .skip
  | .region _ ops false => match cpopsF P U I nt ops ops.toList with
    | some l => some (.ops l)
    | none => some badC
  | .region _ ops true => match planOfF P U I nt ops with
    | some l => some (.draw ops.size l)
    | none => some badC
  | .seq a b => match ccF P U I nt a, ccF P U I nt b with
    | some a, some b => some (.seq a b)
    | _, _ => none
  | .cond c a b => match copd c, ccF P U I nt a, ccF P U I nt b with
    | some c, some a, some b => some (.cond c a b)
    | _, _, _ => none
  | .block id c => (ccF P U I nt c).map (.block id)
  | .loop c => (ccF P U I nt c).map .loop
  | .scope c => ccF P U I nt c
  | .exit id => some (.exit id)
  | .ret => some .ret
  | _ => some badC
def cresF (P : Program) (U : TypeId → Option TypeDesc) (I : TypeId → Option TypeInfo) : List ResultVar → Option (List PRes)
  | [] => some []
  | .tmp t :: l => do pure (.tmp (← Slot.of t) :: (← cresF P U I l))
  | .cell a t :: l => do
    let r ← cresF P U I l
    if isAggBF P U I t then pure (.cellN (← csizeF P U I t) (← Slot.of a) :: r) else if (U t).isSome then pure (.cell1 (← Slot.of a) :: r) else none
noncomputable def cfnF (P : Program) (U : TypeId → Option TypeDesc) (I : TypeId → Option TypeInfo) (fn : Func) : Option PFn := do
  let body ← fn.body
  if fn.name == "runtime.NumGoroutine" then none else
  pure (.code (← slotsFrom fn.ntmps 0) (← ccF P U I fn.ntmps body) (← cresF P U I fn.results.toList))

noncomputable def layTypes (l : List TypeInfo) (i : Nat) (t : Tr TypeInfo) (k : Tr TypeInfo → Bool) : Bool := match l with
  | [] => k t
  | x :: l => match Pos.ofNat i with
    | some p => forcePos p fun p => match x with
      | ⟨a1, a2, a3, a4, a5, a6, a7, a8, a9, b1⟩ => Tr.setK p (some ⟨a1, a2, a3, a4, a5, a6, a7, a8, a9, b1⟩) t fun t => forceNat (Nat.succ i) fun i => layTypes l i t k
    | none => false
noncomputable def infoT (P : Program) (t : Tr TypeInfo) (i : Nat) : Option TypeInfo := match andThen (Pos.ofNat i) fun p => Tr.get p t with
  | some x => some x
  | none => P.info? i
def und (I : TypeId → Option TypeInfo) (t : TypeId) : Option TypeDesc := match I t with
  | some { desc := .named _ u, .. } => (I u).map (·.desc)
  | some i => some i.desc
  | none => none
noncomputable def layOne (f : Nat) (fn : Option PFn) (t : Tr PFn) (k : Tr PFn → Bool) : Bool := match fn with
  | some fn => match Pos.ofNat f with
    | some p => forcePos p fun p => forceFn fn fun fn => Tr.setK p (some fn) t k
    | none => false
  | none => k t
noncomputable def layFns (P : Program) (I : TypeId → Option TypeInfo) (hk : List (Nat × PFn)) (need : Nat) (l : List Func) (f : Nat) (t : Tr PFn) (k : Tr PFn → Bool) : Bool := match l with
  | [] => k t
  | fn :: l => match hasBit need f with
    | false => forceNat (Nat.succ f) fun f => layFns P I hk need l f t k
    | true => match hookOf hk f with
      | some p => layOne f (some p) t fun t => forceNat (Nat.succ f) fun f => layFns P I hk need l f t k
      | none => layOne f (cfnF P (und I) I fn) t fun t => forceNat (Nat.succ f) fun f => layFns P I hk need l f t k
noncomputable def layTab (P : Program) (hk : List (Nat × PFn)) (need : Nat) (k : Tr PFn → Bool) : Bool :=
  layTypes P.types.toList 0 Tr.empty fun types => layFns P (infoT P types) hk need P.funcs.toList 0 Tr.empty k
noncomputable def tabT (t : Tr PFn) (f : Nat) : Option PFn := andThen (Pos.ofNat f) fun p => Tr.get p t
end Go.Am
