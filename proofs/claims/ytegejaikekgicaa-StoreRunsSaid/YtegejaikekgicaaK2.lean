/-
  From the model's code to the evaluator's. Conditions: none.
-/
import Derived.Test.YtegejaikekgicaaK1
import GoSem.Dispatch
namespace Go.Am

def cval1 : Value → Option AVal
  | .bool b => some (.bool b)
  | .int k n => some (.int k n)
  | .string s => some (.str (s.data.toList.map (·.toNat)))
  | .pointer none => some .nptr
  | .slice none 0 0 => some .nsl
  | .map none => some .nmap
  | .nilFunc => some .nfunc
  | .nilIface => some .niface
  | _ => none
def cvals : List Value → Option (List AVal)
  | [] => some []
  | v :: l => match cval1 v, cvals l with
    | some v, some l => some (v :: l)
    | _, _ => none
def cval : Value → Option AVal
  | .agg cs => match cvals cs.toList with
    | some l => some (.agg l)
    | none => none
  | .tuple vs => match cvals vs.toList with
    | some l => some (.tup l)
    | none => none
  | v => cval1 v
def copd : Operand → Option Opd
  | .tmp t => (Slot.of t).map .tmp
  | .const v => (cval v).map .val
  | .func f => some (.val (.func f []))
  | .global _ => none
def copds : List Operand → Option (List Opd)
  | [] => some []
  | x :: l => match copd x, copds l with
    | some x, some l => some (x :: l)
    | _, _ => none
def copt : Option Operand → Option (Option Opd)
  | none => some none
  | some x => (copd x).map some

def isAggB (P : Program) (t : TypeId) : Bool :=
  match P.underlying t with
  | some (.struct _) => true
  | some (.array _ _) => true
  | _ => false
def czero (P : Program) (t : TypeId) : Option (List AVal) :=
  match P.info? t with
  | some i => match i.zero with
    | some z => cvals z.cells.toList
    | none => none
  | none => none
def csize (P : Program) (t : TypeId) : Option Nat := (P.info? t).map (·.size)
def cparts (place : Nat → Option (Nat × Nat)) : List (Nat × Operand) → Option (List (Nat × Nat × Opd))
  | [] => some []
  | (i, x) :: l => match place i, copd x, cparts place l with
    | some (o, n), some x, some l => some ((o, n, x) :: l)
    | _, _, _ => none
def repC : Nat → List CK → List CK
  | 0, _ => []
  | n + 1, l => l ++ repC n l
/-- The cells of a type all of whose cells are compared one by one. -/
def flats (P : Program) (g : TypeId → Option (List CK)) : List Field → Nat → Option (List CK)
  | [], _ => some []
  | f :: l, o => match g f.type, csize P f.type with
    | some c, some s => if f.name ≠ "_" ∧ f.offset = o ∧ s = c.length then (match flats P g l (o + s) with
      | some r => some (c ++ r)
      | none => none) else none
    | _, _ => none
def flat (P : Program) : Nat → TypeId → Option (List CK)
  | 0, _ => none
  | d + 1, t => match P.underlying t with
    | some .bool => some [.b]
    | some (.int _) => some [.i]
    | some .string => some [.s]
    | some (.struct fs) => if P.stoodInHeld t then none else flats P (flat P d) fs.toList 0
    | some (.array n e) => match flat P d e, csize P e with
      | some l, some s => if s = l.length then some (repC n l) else none
      | _, _ => none
    | _ => none

def isU8 (P : Program) (e : TypeId) : Bool :=
  match P.underlying e with
  | some (.int .u8) => true
  | _ => false
def cop (P : Program) (op : Op) : Option KOp :=
  match op with
  | .move x | .assign x => do pure (.q (.mov (← copd x)))
  | .pick c a b => do pure (.q (.pick (← copd c) (← copd a) (← copd b)))
  | .alloc t => do pure (.a (.alloc (← czero P t)))
  | .box _ x => do pure (.a (.box (← copd x)))
  | .build t ps => do
    let z ← czero P t
    match P.underlying t with
    | some (.struct fs) =>
      if fs.all fun f => (csize P f.type).isSome then
        pure (.q (.build z (← cparts (fun i => (fs[i]?).bind fun f => (csize P f.type).map fun n => (f.offset, n)) ps.toList)))
      else none
    | some (.array _ e) => do
      let s ← csize P e
      pure (.q (.build z (← cparts (fun i => some (i * s, s)) ps.toList)))
    | _ => none
  | .buildSlice t len ps => do
    let some (.slice e) := P.underlying t | none
    let s ← csize P e
    let z ← czero P e
    if decide (s = z.length) && decide (0 < s) && decide (len * s ≤ 16777216) then
      pure (.a (.bslice s z len (← cparts (fun i => some (i * s, s)) ps.toList)))
    else none
  | .load t x => do
    if isAggB P t then pure (.q (.loadN (← csize P t) (← copd x))) else (if (P.underlying t).isSome then do pure (.q (.load1 (← copd x))) else none)
  | .store t x v => do pure (.e (.store (← csize P t) (← copd x) (← copd v)))
  | .nilCheck x => do pure (.q (.nilck (← copd x)))
  | .binOp op t x y _ => do
    match isAggB P t, op with
    | true, .eql => if !P.eqGuardType P.depth t then do pure (.q (.eqAgg (← flat P 20 t) false (← copd x) (← copd y))) else none
    | true, .neq => if !P.eqGuardType P.depth t then do pure (.q (.eqAgg (← flat P 20 t) true (← copd x) (← copd y))) else none
    | true, _ => none
    | false, op => match P.underlying t with
      | some .bool => do pure (.q (.bin op .bool (← copd x) (← copd y)))
      | some (.int _) | some .string => do pure (.q (.bin op .num (← copd x) (← copd y)))
      | some (.pointer _) => do pure (.q (.bin op .ptr (← copd x) (← copd y)))
      | some (.slice _) => do pure (.q (.bin op .sl (← copd x) (← copd y)))
      | _ => none
  | .unOp op _ x => do pure (.q (.un op (← copd x)))
  | .convert s d x =>
    match P.underlying s, P.underlying d with
    | some _, some (.int k) => do pure (.q (.toInt k (← copd x)))
    | some .string, some .string => do pure (.q (.sameStr (← copd x)))
    | some (.slice e), some .string => if isU8 P e then do pure (.q (.bytesStr (← copd x))) else none
    | some .string, some (.slice e) => if isU8 P e then do pure (.a (.strBytes (← copd x))) else none
    | _, _ => none
  | .makeSlice t l c => do
    let some (.slice e) := P.underlying t | none
    let i ← P.info? e
    let z ← czero P e
    if decide (i.size = z.length) && decide (0 < i.size) && decide (0 < i.bytes) then pure (.a (.mkslice i.size i.bytes z (← copd l) (← copd c))) else none
  | .slice t x lo hi mx =>
    match P.underlying t with
    | some .string => match mx with
      | none => do pure (.q (.slStr (← copd x) (← copt lo) (← copt hi)))
      | some _ => none
    | some (.slice e) => do
      let s ← csize P e
      if mx.isSome && hi.isNone then none else
      pure (.q (.slSl s (← copd x) (← copt lo) (← copt hi) (← copt mx)))
    | some (.array n e) => do
      let s ← csize P e
      if mx.isSome && hi.isNone then none else
      pure (.q (.slArr n s (← copd x) (← copt lo) (← copt hi) (← copt mx)))
    | some (.pointer arr) => match P.underlying arr with
      | some (.array n e) => do
        let s ← csize P e
        if mx.isSome && hi.isNone then none else
        pure (.q (.slArr n s (← copd x) (← copt lo) (← copt hi) (← copt mx)))
      | _ => none
    | _ => none
  | .fieldAddr t x f => do
    let some (.struct fs) := P.underlying t | none
    let fd ← fs[f]?
    let n ← csize P fd.type
    if n = 0 then none else pure (.q (.fieldAddr fd.offset (← copd x)))
  | .field t x f => do
    let some (.struct fs) := P.underlying t | none
    let fd ← fs[f]?
    let n ← csize P fd.type
    if (P.underlying fd.type).isSome then pure (.q (.field fd.offset n (isAggB P fd.type) (← copd x))) else none
  | .indexAddr t x i => do
    match P.underlying t with
    | some (.array n e) => pure (.q (.ixArr n (← csize P e) (← copd x) (← copd i)))
    | some (.slice e) => pure (.q (.ixSl (← csize P e) (← copd x) (← copd i)))
    | _ => none
  | .index t x i => do
    match P.underlying t with
    | some (.array n e) => if (P.underlying e).isSome then pure (.q (.idxAgg n (← csize P e) (isAggB P e) (← copd x) (← copd i))) else none
    | some .string => pure (.q (.idxStr (← copd x) (← copd i)))
    | _ => none
  | .extract x i => do pure (.q (.extract i (← copd x)))
  | .makeFunc (.func f) first caps => if first.isEmpty then do pure (.q (.mkFunc f (← copds caps.toList))) else none
  | .call c =>
    match c.callee with
    | .value (.func f) => do pure (.e (.call f (← copds c.args.toList)))
    | .value (.tmp t) => do pure (.e (.callV (.tmp (← Slot.of t)) (← copds c.args.toList)))
    | .builtin .len => match c.argTypes.toList, c.args.toList with
      | [t], [x] => match P.underlying t with
        | some .string => do pure (.q (.lenStr (← copd x)))
        | some (.slice _) => do pure (.q (.lenSl (← copd x)))
        | some (.array n _) => some (.q (.lenK n))
        | some (.pointer a) => match P.underlying a with
          | some (.array n _) => some (.q (.lenK n))
          | _ => none
        | _ => none
      | _, _ => none
    | .builtin .cap => match c.argTypes.toList, c.args.toList with
      | [t], [x] => match P.underlying t with
        | some (.slice _) => do pure (.q (.capSl (← copd x)))
        | _ => none
      | _, _ => none
    | .builtin .max => match c.args.toList with
      | x :: xs => do pure (.q (.maxI (← copd x) (← copds xs)))
      | [] => none
    | .builtin .min => match c.args.toList with
      | x :: xs => do pure (.q (.minI (← copd x) (← copds xs)))
      | [] => none
    | .builtin .append => match c.argTypes.toList, c.args.toList with
      | [t, u], [s, x] => do
        let some (.slice e) := P.underlying t | none
        let i ← P.info? e
        let z ← czero P e
        match P.underlying u with
        | some (.slice _) | some .string =>
          if decide (0 < i.size) && decide (0 < i.bytes) && decide (i.bytes ≤ 1048576) && decide (z.length = i.size) then pure (.e (.append i.size i.bytes (← copd s) (← copd x))) else none
        | _ => none
      | _, _ => none
    | .builtin .copy => match c.argTypes.toList, c.args.toList with
      | [t, _], [d, s] => do
        let some (.slice e) := P.underlying t | none
        pure (.e (.copy (← csize P e) (← copd d) (← copd s)))
      | _, _ => none
    | _ => none
  | _ => none
def cdst (nt : Nat) : Option Nat → Option (Option Slot)
  | none => some none
  | some d => if d < nt then (Slot.of d).map some else none
def cguard (ops : Array Oper) : Option (Nat × Bool) → Option (Option (Slot × Bool))
  | none => some none
  | some (j, want) => match (ops[j]?).bind (·.dst) with
    | some t => (Slot.of t).map fun s => some (s, want)
    | none => none
def cpop (P : Program) (nt : Nat) (ops : Array Oper) (o : Oper) : Option POp :=
  match cop P o.op, cdst nt o.dst, cguard ops o.guard with
  | some k, some d, some g => some ⟨d, g, k⟩
  | _, _, _ => none
def cpops (P : Program) (nt : Nat) (ops : Array Oper) : List Oper → Option (List POp)
  | [] => some []
  | o :: l => match cpop P nt ops o, cpops P nt ops l with
    | some o, some l => some (o :: l)
    | _, _ => none

def preOf (o : Oper) : List Nat := (o.after.toList.filter (Region.binds .any)).map (·.on)
/-- All that goes ahead. -/
def ancs (ops : List Oper) : Nat → Nat → List Nat
  | 0, _ => []
  | f + 1, i => match ops[i]? with
    | some o => (preOf o).flatMap fun j => j :: ancs ops f j
    | none => []
def POp.isQ (o : POp) : Bool := match o.op with | .q _ => true | _ => false
def POp.isE (o : POp) : Bool := match o.op with | .e _ => true | _ => false
def QOp.reads : QOp → Bool
  | .load1 _ | .loadN _ _ | .bytesStr _ => true
  | _ => false
def POp.reads (o : POp) : Bool := match o.op with | .q q => q.reads | _ => false
def POp.calm (o : POp) : Bool := match o.op with | .q q => !q.reads | .a _ => true | .e _ => false
def Opd.slots : Opd → List Slot
  | .tmp p => [p]
  | .val _ => []
def QOp.opds : QOp → List Opd
  | .mov x | .load1 x | .loadN _ x | .nilck x | .un _ x | .toInt _ x | .sameStr x | .bytesStr x | .fieldAddr _ x | .field _ _ _ x | .extract _ x | .lenStr x | .lenSl x | .capSl x => [x]
  | .pick a b c => [a, b, c]
  | .bin _ _ x y | .eqAgg _ _ x y | .ixArr _ _ x y | .ixSl _ x y | .idxAgg _ _ _ x y | .idxStr x y => [x, y]
  | .slStr x lo hi => x :: (lo.toList ++ hi.toList)
  | .slSl _ x lo hi mx | .slArr _ _ x lo hi mx => x :: (lo.toList ++ (hi.toList ++ mx.toList))
  | .build _ ps => ps.map fun q => q.2.2
  | .lenK _ => []
  | .maxI x xs | .minI x xs => x :: xs
  | .mkFunc _ caps => caps
def AOp.opds : AOp → List Opd
  | .alloc _ => []
  | .box x | .strBytes x => [x]
  | .bslice _ _ _ ps => ps.map fun q => q.2.2
  | .mkslice _ _ _ x y => [x, y]
def EOp.opds : EOp → List Opd
  | .store _ x y | .append _ _ x y | .copy _ x y => [x, y]
  | .call _ l => l
  | .callV x l => x :: l
def KOp.opds : KOp → List Opd
  | .q x => x.opds
  | .a x => x.opds
  | .e x => x.opds
/-- What it looks at. -/
def POp.looks (o : POp) : List Slot := o.op.opds.flatMap Opd.slots ++ (match o.guard with | some (p, _) => [p] | none => [])
def slotEq (s t : Slot) : Bool := Nat.beq s.nat t.nat
def slotIn (s : Slot) (l : List Slot) : Bool := l.any fun t => slotEq s t
/-- What x lays ready, y neither looks at nor lays ready. -/
def noClash (x y : POp) : Bool := match x.dst with
  | none => true
  | some s => !slotIn s y.looks && (match y.dst with | some t => !slotEq s t | none => true)
def selfApart (x : POp) : Bool := match x.dst with
  | none => true
  | some s => !slotIn s x.looks
structure Row where
  ix : Nat
  o : Oper
  p : POp
  pre : List Nat
  anc : List Nat
def rowsOf (P : Program) (nt : Nat) (ops : Array Oper) : List Oper → Nat → List (List Nat) → Option (List Row)
  | [], _, _ => some []
  | o :: l, i, as =>
    let pre := preOf o
    let anc := (pre.flatMap fun j => j :: (as[j]?).getD []).eraseDups
    match cpop P nt ops o, rowsOf P nt ops l (i + 1) (as ++ [anc]) with
    | some p, some r => if pre.all (· < i) then some (⟨i, o, p, pre, anc⟩ :: r) else none
    | _, _ => none
def planFrom : Nat → List Row → List Row → List (Nat × List Nat)
  | 0, _, _ => []
  | f + 1, done, left =>
    let ready := left.filter fun r => r.pre.all fun j => done.any fun d => d.ix == j
    match ready.find? (·.p.isQ) with
    | some r => (r.ix, []) :: planFrom f (r :: done) (left.filter (·.ix != r.ix))
    | none => match ready.find? (·.p.isE) with
      | some r => (r.ix, (done.filter fun h => h.p.reads && !r.anc.contains h.ix).map (·.ix)) :: planFrom f (r :: done) (left.filter (·.ix != r.ix))
      | none => match ready with
        | r :: _ => (r.ix, []) :: planFrom f (r :: done) (left.filter (·.ix != r.ix))
        | [] => []
/-- An operation in its place in the plan. -/
structure DRow where
  ix : Nat
  p : POp
  cks : List Nat
  pre : List Nat
  anc : List Nat
def drowsOf (rows : List Row) : List (Nat × List Nat) → Option (List DRow)
  | [] => some []
  | (i, cks) :: l => match rows[i]?, drowsOf rows l with
    | some r, some l => some (⟨i, r.p, cks, r.pre, r.anc⟩ :: l)
    | _, _ => none
def checksOf (l : List DRow) (r : DRow) : List POp := (l.filter fun z => r.cks.contains z.ix).map (·.p)
def implies (a b : Bool) : Bool := match a with
  | true => b
  | false => true
/-- x stands ahead of y in the plan. -/
def pairOk (l : List DRow) (x y : DRow) : Bool :=
  !Nat.beq x.ix y.ix && implies x.p.reads (noClash y.p x.p) &&
  (y.anc.contains x.ix || (noClash x.p y.p && noClash y.p x.p && (x.p.isQ || y.p.calm) && implies (x.p.reads && y.p.isE) (y.cks.contains x.ix) && implies x.p.isE ((checksOf l x).all (noClash y.p))))
def pairsOk (all : List DRow) : List DRow → Bool
  | [] => true
  | x :: l => l.all (pairOk all x) && pairsOk all l
def topo : List Nat → List DRow → Bool
  | _, [] => true
  | done, r :: l => r.pre.all (fun j => done.contains j) && topo (r.ix :: done) l
def planChk (n : Nat) (l : List DRow) : Bool :=
  Nat.beq l.length n && (List.range n).all (fun i => l.any fun r => Nat.beq r.ix i) && topo [] l && pairsOk l l &&
  l.all (fun r => implies r.p.reads (selfApart r.p)) &&
  l.all (fun r => r.anc.all fun k => r.pre.contains k || l.any fun z => r.pre.contains z.ix && z.anc.contains k)
def dopOf (l : List DRow) (r : DRow) : DOp := ⟨r.ix, r.p, checksOf l r⟩
def planOf (P : Program) (nt : Nat) (ops : Array Oper) : Option (List DOp) :=
  match rowsOf P nt ops ops.toList 0 [] with
  | some rows => match drowsOf rows (planFrom ops.size [] rows) with
    | some l => if planChk ops.size l then some (l.map (dopOf l)) else none
    | none => none
  | none => none
def cc (P : Program) (nt : Nat) : Code → Option PC
  | .skip => some .skip
  | .label _ => some .skip
  | .region _ ops false => (cpops P nt ops ops.toList).map .ops
  | .region _ ops true => (planOf P nt ops).map (.draw ops.size)
  | .seq a b => match cc P nt a, cc P nt b with
    | some a, some b => some (.seq a b)
    | _, _ => none
  | .cond c a b => match copd c, cc P nt a, cc P nt b with
    | some c, some a, some b => some (.cond c a b)
    | _, _, _ => none
  | .block id c => (cc P nt c).map (.block id)
  | .loop c => (cc P nt c).map .loop
  | .scope c => cc P nt c
  | .exit id => some (.exit id)
  | .ret => some .ret
  | _ => none
def cres (P : Program) : List ResultVar → Option (List PRes)
  | [] => some []
  | .tmp t :: l => do pure (.tmp (← Slot.of t) :: (← cres P l))
  | .cell a t :: l => do
    let r ← cres P l
    if isAggB P t then pure (.cellN (← csize P t) (← Slot.of a) :: r) else if (P.underlying t).isSome then pure (.cell1 (← Slot.of a) :: r) else none
def slotsFrom : Nat → Nat → Option (List Slot)
  | 0, _ => some []
  | n + 1, i => match Slot.of i, slotsFrom n (i + 1) with
    | some s, some l => some (s :: l)
    | _, _ => none
def cfn (P : Program) (fn : Func) : Option PFn := do
  let body ← fn.body
  if fn.name == "runtime.NumGoroutine" then none else
  pure ⟨← slotsFrom fn.ntmps 0, ← cc P fn.ntmps body, ← cres P fn.results.toList⟩
section
variable {R : Type}
noncomputable def forceOpd (x : Opd) (k : Opd → R) : R := match x with
  | .tmp p => forceSlot p fun p => k (.tmp p)
  | .val v => force v fun v => k (.val v)
theorem forceOpd_eq (x : Opd) (k : Opd → R) : forceOpd x k = k x := by cases x <;> simp [forceOpd, forceSlot_eq, force_eq]
noncomputable def forceOpds (l : List Opd) (k : List Opd → R) : R := match l with
  | [] => k []
  | x :: l => forceOpd x fun x => forceOpds l fun l => k (x :: l)
theorem forceOpds_eq (l : List Opd) (k : List Opd → R) : forceOpds l k = k l := by
  induction l generalizing k <;> simp [forceOpds, forceOpd_eq, *]
noncomputable def forceOo (x : Option Opd) (k : Option Opd → R) : R := match x with
  | none => k none
  | some x => forceOpd x fun x => k (some x)
theorem forceOo_eq (x : Option Opd) (k : Option Opd → R) : forceOo x k = k x := by cases x <;> simp [forceOo, forceOpd_eq]
noncomputable def forceParts (l : List (Nat × Nat × Opd)) (k : List (Nat × Nat × Opd) → R) : R := match l with
  | [] => k []
  | (a, b, x) :: l => forceNat a fun a => forceNat b fun b => forceOpd x fun x => forceParts l fun l => k ((a, b, x) :: l)
theorem forceParts_eq (l : List (Nat × Nat × Opd)) (k : List (Nat × Nat × Opd) → R) : forceParts l k = k l := by
  induction l generalizing k with
  | nil => rfl
  | cons x l ih => obtain ⟨a, b, x⟩ := x; simp [forceParts, forceOpd_eq, forceNat_eq, ih]
def forceTK (t : TK) (k : TK → R) : R := match t with
  | .num => k .num | .bool => k .bool | .ptr => k .ptr | .sl => k .sl
theorem forceTK_eq (t : TK) (k : TK → R) : forceTK t k = k t := by cases t <;> rfl
noncomputable def forceCKs (l : List CK) (k : List CK → R) : R := match l with
  | [] => k []
  | c :: l => match c with
    | .b => forceCKs l fun l => k (.b :: l)
    | .i => forceCKs l fun l => k (.i :: l)
    | .s => forceCKs l fun l => k (.s :: l)
theorem forceCKs_eq (l : List CK) (k : List CK → R) : forceCKs l k = k l := by
  induction l generalizing k with
  | nil => rfl
  | cons c l ih => cases c <;> simp [forceCKs, ih]
noncomputable def forceQ (q : QOp) (k : QOp → R) : R := match q with
  | .mov x => forceOpd x fun x => k (.mov x)
  | .pick a b c => forceOpd a fun a => forceOpd b fun b => forceOpd c fun c => k (.pick a b c)
  | .load1 x => forceOpd x fun x => k (.load1 x)
  | .loadN n x => forceNat n fun n => forceOpd x fun x => k (.loadN n x)
  | .nilck x => forceOpd x fun x => k (.nilck x)
  | .bin op tk x y => forceTK tk fun tk => forceOpd x fun x => forceOpd y fun y => k (.bin op tk x y)
  | .eqAgg cs neg x y => forceCKs cs fun cs => forceBool neg fun neg => forceOpd x fun x => forceOpd y fun y => k (.eqAgg cs neg x y)
  | .un op x => forceOpd x fun x => k (.un op x)
  | .toInt q x => forceKind q fun q => forceOpd x fun x => k (.toInt q x)
  | .sameStr x => forceOpd x fun x => k (.sameStr x)
  | .bytesStr x => forceOpd x fun x => k (.bytesStr x)
  | .slStr x lo hi => forceOpd x fun x => forceOo lo fun lo => forceOo hi fun hi => k (.slStr x lo hi)
  | .slSl e x lo hi mx => forceNat e fun e => forceOpd x fun x => forceOo lo fun lo => forceOo hi fun hi => forceOo mx fun mx => k (.slSl e x lo hi mx)
  | .slArr n e x lo hi mx => forceNat n fun n => forceNat e fun e => forceOpd x fun x => forceOo lo fun lo => forceOo hi fun hi => forceOo mx fun mx => k (.slArr n e x lo hi mx)
  | .fieldAddr o x => forceNat o fun o => forceOpd x fun x => k (.fieldAddr o x)
  | .field o n b x => forceNat o fun o => forceNat n fun n => forceBool b fun b => forceOpd x fun x => k (.field o n b x)
  | .ixArr n e x i => forceNat n fun n => forceNat e fun e => forceOpd x fun x => forceOpd i fun i => k (.ixArr n e x i)
  | .ixSl e x i => forceNat e fun e => forceOpd x fun x => forceOpd i fun i => k (.ixSl e x i)
  | .idxAgg n e b x i => forceNat n fun n => forceNat e fun e => forceBool b fun b => forceOpd x fun x => forceOpd i fun i => k (.idxAgg n e b x i)
  | .idxStr x i => forceOpd x fun x => forceOpd i fun i => k (.idxStr x i)
  | .extract i x => forceNat i fun i => forceOpd x fun x => k (.extract i x)
  | .build z ps => forces z fun z => forceParts ps fun ps => k (.build z ps)
  | .lenStr x => forceOpd x fun x => k (.lenStr x)
  | .lenSl x => forceOpd x fun x => k (.lenSl x)
  | .lenK n => forceNat n fun n => k (.lenK n)
  | .capSl x => forceOpd x fun x => k (.capSl x)
  | .maxI x xs => forceOpd x fun x => forceOpds xs fun xs => k (.maxI x xs)
  | .minI x xs => forceOpd x fun x => forceOpds xs fun xs => k (.minI x xs)
  | .mkFunc f caps => forceNat f fun f => forceOpds caps fun caps => k (.mkFunc f caps)
theorem forceQ_eq (q : QOp) (k : QOp → R) : forceQ q k = k q := by
  cases q <;> simp [forceQ, forceCKs_eq, forceTK_eq, forceOpd_eq, forceOpds_eq, forceOo_eq, forceNat_eq, forceBool_eq, forceKind_eq, forces_eq, forceParts_eq]
noncomputable def forceA (a : AOp) (k : AOp → R) : R := match a with
  | .alloc z => forces z fun z => k (.alloc z)
  | .box x => forceOpd x fun x => k (.box x)
  | .bslice e z n ps => forceNat e fun e => forces z fun z => forceNat n fun n => forceParts ps fun ps => k (.bslice e z n ps)
  | .mkslice e b z l c => forceNat e fun e => forceNat b fun b => forces z fun z => forceOpd l fun l => forceOpd c fun c => k (.mkslice e b z l c)
  | .strBytes x => forceOpd x fun x => k (.strBytes x)
theorem forceA_eq (a : AOp) (k : AOp → R) : forceA a k = k a := by
  cases a <;> simp [forceA, forceOpd_eq, forceNat_eq, forces_eq, forceParts_eq]
noncomputable def forceE (e : EOp) (k : EOp → R) : R := match e with
  | .store n x v => forceNat n fun n => forceOpd x fun x => forceOpd v fun v => k (.store n x v)
  | .append e b s x => forceNat e fun e => forceNat b fun b => forceOpd s fun s => forceOpd x fun x => k (.append e b s x)
  | .copy e d s => forceNat e fun e => forceOpd d fun d => forceOpd s fun s => k (.copy e d s)
  | .call f args => forceNat f fun f => forceOpds args fun args => k (.call f args)
  | .callV f args => forceOpd f fun f => forceOpds args fun args => k (.callV f args)
theorem forceE_eq (e : EOp) (k : EOp → R) : forceE e k = k e := by
  cases e <;> simp [forceE, forceOpd_eq, forceOpds_eq, forceNat_eq]
noncomputable def forceKOp (o : KOp) (k : KOp → R) : R := match o with
  | .q q => forceQ q fun q => k (.q q)
  | .a a => forceA a fun a => k (.a a)
  | .e e => forceE e fun e => k (.e e)
theorem forceKOp_eq (o : KOp) (k : KOp → R) : forceKOp o k = k o := by cases o <;> simp [forceKOp, forceQ_eq, forceA_eq, forceE_eq]
noncomputable def forceDst (d : Option Slot) (k : Option Slot → R) : R := match d with
  | none => k none
  | some p => forceSlot p fun p => k (some p)
theorem forceDst_eq (d : Option Slot) (k : Option Slot → R) : forceDst d k = k d := by cases d <;> simp [forceDst, forceSlot_eq]
noncomputable def forceGuard (d : Option (Slot × Bool)) (k : Option (Slot × Bool) → R) : R := match d with
  | none => k none
  | some (p, b) => forceSlot p fun p => forceBool b fun b => k (some (p, b))
theorem forceGuard_eq (d : Option (Slot × Bool)) (k : Option (Slot × Bool) → R) : forceGuard d k = k d := by
  cases d with
  | none => rfl
  | some x => obtain ⟨p, b⟩ := x; simp [forceGuard, forceSlot_eq, forceBool_eq]
noncomputable def forcePOp (o : POp) (k : POp → R) : R := match o with
  | ⟨d, g, x⟩ => forceDst d fun d => forceGuard g fun g => forceKOp x fun x => k ⟨d, g, x⟩
theorem forcePOp_eq (o : POp) (k : POp → R) : forcePOp o k = k o := by simp [forcePOp, forceDst_eq, forceGuard_eq, forceKOp_eq]
noncomputable def forcePOps (l : List POp) (k : List POp → R) : R := match l with
  | [] => k []
  | o :: l => forcePOp o fun o => forcePOps l fun l => k (o :: l)
theorem forcePOps_eq (l : List POp) (k : List POp → R) : forcePOps l k = k l := by
  induction l generalizing k <;> simp [forcePOps, forcePOp_eq, *]
noncomputable def forceDOps (l : List DOp) (k : List DOp → R) : R := match l with
  | [] => k []
  | ⟨i, o, c⟩ :: l => forceNat i fun i => forcePOp o fun o => forcePOps c fun c => forceDOps l fun l => k (⟨i, o, c⟩ :: l)
theorem forceDOps_eq (l : List DOp) (k : List DOp → R) : forceDOps l k = k l := by
  induction l generalizing k <;> simp [forceDOps, forcePOp_eq, forcePOps_eq, forceNat_eq, *]
noncomputable def forcePC (c : PC) (k : PC → R) : R := match c with
  | .skip => k .skip
  | .ops l => forcePOps l fun l => k (.ops l)
  | .draw n l => forceNat n fun n => forceDOps l fun l => k (.draw n l)
  | .seq a b => forcePC a fun a => forcePC b fun b => k (.seq a b)
  | .cond c a b => forceOpd c fun c => forcePC a fun a => forcePC b fun b => k (.cond c a b)
  | .block i c => forceNat i fun i => forcePC c fun c => k (.block i c)
  | .loop c => forcePC c fun c => k (.loop c)
  | .exit i => forceNat i fun i => k (.exit i)
  | .ret => k .ret
theorem forcePC_eq (c : PC) (k : PC → R) : forcePC c k = k c := by
  induction c generalizing k <;> simp [forcePC, forcePOps_eq, forceDOps_eq, forceOpd_eq, forceNat_eq, *]
noncomputable def forceRes (l : List PRes) (k : List PRes → R) : R := match l with
  | [] => k []
  | .tmp p :: l => forceSlot p fun p => forceRes l fun l => k (.tmp p :: l)
  | .cell1 p :: l => forceSlot p fun p => forceRes l fun l => k (.cell1 p :: l)
  | .cellN n p :: l => forceNat n fun n => forceSlot p fun p => forceRes l fun l => k (.cellN n p :: l)
theorem forceRes_eq (l : List PRes) (k : List PRes → R) : forceRes l k = k l := by
  induction l generalizing k with
  | nil => rfl
  | cons x l ih => cases x <;> simp [forceRes, forceSlot_eq, forceNat_eq, ih]
noncomputable def forceSlots (l : List Slot) (k : List Slot → R) : R := match l with
  | [] => k []
  | s :: l => forceSlot s fun s => forceSlots l fun l => k (s :: l)
theorem forceSlots_eq (l : List Slot) (k : List Slot → R) : forceSlots l k = k l := by
  induction l generalizing k <;> simp [forceSlots, forceSlot_eq, *]
noncomputable def forceFn (f : PFn) (k : PFn → R) : R := match f with
  | ⟨n, b, r⟩ => forceSlots n fun n => forcePC b fun b => forceRes r fun r => k ⟨n, b, r⟩
theorem forceFn_eq (f : PFn) (k : PFn → R) : forceFn f k = k f := by simp [forceFn, forceSlots_eq, forcePC_eq, forceRes_eq]
end
def tabOf (P : Program) (f : Nat) : Option PFn := (P.funcs[f]?).bind (cfn P)
/-- The functions laid out ahead, each once. -/
noncomputable def layTab {R : Type} (P : Program) (ids : List Nat) (t : Tr PFn) (k : Tr PFn → R) : R := match ids with
  | [] => k t
  | f :: ids => match tabOf P f with
    | some fn => match Pos.ofNat f with
      | some p => forcePos p fun p => forceFn fn fun fn => Tr.setK p (some fn) t fun t => layTab P ids t k
      | none => layTab P ids t k
    | none => layTab P ids t k
noncomputable def tabT (t : Tr PFn) (f : Nat) : Option PFn := andThen (Pos.ofNat f) fun p => Tr.get p t
end Go.Am
