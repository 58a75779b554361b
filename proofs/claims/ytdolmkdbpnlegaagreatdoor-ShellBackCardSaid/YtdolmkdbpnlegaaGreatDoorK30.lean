/-
  Statements about all inputs: what a call comes to, said as a condition on what is wanted behind it. Conditions: none.
-/
import Derived.Test.YtdolmkdbpnlegaaGreatDoorK25
namespace Go.Am

abbrev En := Nat → AVal
noncomputable def En.set (E : En) (d : Nat) (v : AVal) : En := fun n => @Bool.rec (fun _ => AVal) (E n) v (Nat.beq n d)
noncomputable abbrev En.put (E : En) (d : Option Slot) (v : AVal) : En := match d with
  | some s => E.set s.nat v
  | none => E
noncomputable abbrev Opd.vl (E : En) (x : Opd) : AVal := match x with
  | .tmp p => E p.nat
  | .val v => v
noncomputable abbrev vls (E : En) (xs : List Opd) : List AVal := match xs with
  | [] => []
  | x :: xs => x.vl E :: vls E xs
noncomputable abbrev vlo (E : En) (x : Option Opd) : Option AVal := match x with
  | none => none
  | some x => some (x.vl E)
noncomputable abbrev vlp (E : En) (ps : List (Nat × Nat × Opd)) : List (Nat × Nat × AVal) := match ps with
  | [] => []
  | (o, n, x) :: ps => (o, n, x.vl E) :: vlp E ps
noncomputable def vBuild (zero : List AVal) (parts : List (Nat × Nat × AVal)) : Option AVal := andThen (fillA zero parts) fun cs => some (.agg cs)
noncomputable def vFunc (f : Nat) (caps : List AVal) : Option AVal := andThen (scals caps) fun l => some (.func f l)
noncomputable def vCntS (x c : AVal) : Option AVal := strByte x c fun s n => some (.int .i64 (.ofNat (countN n s)))
noncomputable def vIxbS (x c : AVal) : Option AVal := strByte x c fun s n => match firstN n 0 s with
  | some i => some (.int .i64 (.ofNat i))
  | none => some (.int .i64 (.negSucc 0))
noncomputable def vToU (x : AVal) (σ : S) : Option AVal := qToU (.val x) Ts.empty σ
noncomputable def vOfU (tg n : Nat) (x : AVal) (σ : S) : Option AVal := qOfU tg n (.val x) Ts.empty σ
noncomputable def vSlData (x : AVal) : Option AVal := qSlData (.val x) Ts.empty ⟨Tr.empty, Pos.first, Tr.empty, Tr.empty⟩
noncomputable abbrev evQ (q : QOp) (E : En) (σ : S) : Option AVal := match q with
  | .mov x => some (x.vl E)
  | .pick c a b => vPick (c.vl E) (a.vl E) (b.vl E)
  | .load1 x => vLoad1 (x.vl E) σ
  | .loadN n x => vLoadN n (x.vl E) σ
  | .nilck x => vNilck (x.vl E)
  | .bin op tk x y => binA op tk (x.vl E) (y.vl E)
  | .eqAgg ks neg x y => vEqAgg ks neg (x.vl E) (y.vl E)
  | .un op x => unA op (x.vl E)
  | .toInt k x => vToInt k (x.vl E)
  | .sameStr x => vSameStr (x.vl E)
  | .bytesStr x => vBytesStr (x.vl E) σ
  | .slStr x lo hi => vSlStr (x.vl E) (vlo E lo) (vlo E hi)
  | .slSl esz x lo hi mx => vSlSl esz (x.vl E) (vlo E lo) (vlo E hi) (vlo E mx)
  | .slArr n esz x lo hi mx => vSlArr n esz (x.vl E) (vlo E lo) (vlo E hi) (vlo E mx)
  | .fieldAddr off x => vFieldAddr off (x.vl E)
  | .field off n isAgg x => vPart off n isAgg (x.vl E)
  | .ixArr n esz x i => vIxArr n esz (x.vl E) (i.vl E)
  | .ixSl esz x i => vIxSl esz (x.vl E) (i.vl E)
  | .idxAgg n esz isAgg x i => vIdxAgg n esz isAgg (x.vl E) (i.vl E)
  | .idxStr x i => vIdxStr (x.vl E) (i.vl E)
  | .extract i x => vExtract i (x.vl E)
  | .build zero parts => vBuild zero (vlp E parts)
  | .lenStr x => vLenStr (x.vl E)
  | .lenSl x => vLenSl (x.vl E)
  | .lenK n => some (.int .i64 (.ofNat n))
  | .capSl x => vCapSl (x.vl E)
  | .maxI x xs => maxA (x.vl E) (vls E xs)
  | .minI x xs => minA (x.vl E) (vls E xs)
  | .mkFunc f caps => vFunc f (vls E caps)
  | .mlook agg cs zero ok x k => vLook agg cs zero ok (x.vl E) (k.vl E) σ
  | .mlen x => vLenM (x.vl E) σ
  | .mentry x => vEntry (x.vl E) σ
  | .mkI t x => vMkI t (x.vl E)
  | .cntS x c => vCntS (x.vl E) (c.vl E)
  | .ixbS x c => vIxbS (x.vl E) (c.vl E)
  | .toU x => vToU (x.vl E) σ
  | .ofU tg n x => vOfU tg n (x.vl E) σ
  | .slData x => vSlData (x.vl E)
noncomputable def aAllocTV (tg : Nat) (zero : List AVal) : Option (Blk × (Pos → AVal)) := some (⟨tg, .ex, zero⟩, fun p => .ptr p 0)
noncomputable def aAllocV (zero : List AVal) : Option (Blk × (Pos → AVal)) := some (⟨0, .ex, zero⟩, fun p => .ptr p 0)
noncomputable def aBoxV (v : AVal) : Option (Blk × (Pos → AVal)) := andThen (cellsOf v) fun cs => some (⟨0, .ex, cs⟩, fun p => .ptr p 0)
noncomputable def aSliceV (esz : Nat) (zero : List AVal) (len : Nat) (parts : List (Nat × Nat × AVal)) : Option (Blk × (Pos → AVal)) :=
  andThen (fillA (repN len zero) parts) fun cs => some (⟨esz, .ex, cs⟩, fun p => .sl p 0 len len)
noncomputable def aMakeV (esz bytes : Nat) (zero : List AVal) (len cap : AVal) : Option (Blk × (Pos → AVal)) :=
  andThen (mkLen bytes len cap) fun (l, c) => some (⟨esz, .ex, repN c zero⟩, fun p => .sl p 0 l c)
noncomputable def aBytesV (v : AVal) : Option (Blk × (Pos → AVal)) := match v with
  | .str s => some (⟨1, .fam Pos.first 0, bytesV s⟩, fun p => .slu p 0 (lenS s) 1)
  | _ => none
noncomputable abbrev evA (a : AOp) (E : En) : Option (Blk × (Pos → AVal)) := match a with
  | .alloc zero => aAllocV zero
  | .box x => aBoxV (x.vl E)
  | .bslice esz zero len parts => aSliceV esz zero len (vlp E parts)
  | .mkslice esz bytes zero len cap => aMakeV esz bytes zero (len.vl E) (cap.vl E)
  | .strBytes x => aBytesV (x.vl E)
  | .allocT tg zero => aAllocTV tg zero
noncomputable def storeW (n : Nat) (x v : AVal) (σ : S) : Option (AVal × S) := andThen (cellsOf v) fun cs => storeV n cs x σ
noncomputable def mmakeW (r : Option AVal) (σ : S) : Option (AVal × S) := test (isMapR r) (newMap σ)

def Som {α : Type} (o : Option α) (K : α → Prop) : Prop := match o with
  | some a => K a
  | none => False
def Eff (o : Option (AVal × S)) (K : AVal → S → Prop) : Prop := match o with
  | some (v, σ) => K v σ
  | none => False
noncomputable def S.new (σ : S) (blk : Blk) : S := σ.layAt σ.next (blk.named σ.next) σ.next.succ
def Ala (o : Option (Blk × (Pos → AVal))) (σ : S) (K : AVal → S → Prop) : Prop := match o with
  | some (blk, mk) => K (mk σ.next) (σ.new blk)
  | none => False
def Alb (o : Option (Blk × (Pos → AVal))) (p : Pos) (σ : S) (K : AVal → S → Prop) : Prop := match o with
  | some (blk, mk) => K (mk p) (σ.lay p (blk.named p))
  | none => False
def WIf (c : AVal) (A B : Prop) : Prop := match c with
  | .bool b => (match b with | true => A | false => B)
  | _ => False
def Gd (b : Bool) (A B : Prop) : Prop := match b with
  | true => A
  | false => B
noncomputable def SameO (o : Option AVal) (v : AVal) : Bool := match o with
  | some w => same w v
  | none => false
def Sure (b : Bool) (A : Prop) : Prop := b = true ∧ A
abbrev CW := Nat → List AVal → S → (AVal → S → Prop) → Prop
def CallV (C : CW) (f : AVal) (args : List AVal) (σ : S) (K : AVal → S → Prop) : Prop := match f with
  | .func g caps => C g (args ++ caps) σ K
  | _ => False
noncomputable def wE (C : CW) (e : EOp) (E : En) (σ : S) (K : AVal → S → Prop) : Prop := match e with
  | .store n x v => Eff (storeW n (x.vl E) (v.vl E) σ) K
  | .append esz bytes s x => Eff (appendA esz esz bytes (s.vl E) (x.vl E) σ) K
  | .appendT tg esz bytes s x => Eff (appendA tg esz bytes (s.vl E) (x.vl E) σ) K
  | .uStr tg x n => Eff (uStrA tg (x.vl E) (n.vl E) σ) K
  | .copy esz d s => Eff (copyA esz (d.vl E) (s.vl E) σ) K
  | .call f args => C f (vls E args) σ K
  | .callV f args => CallV C (f.vl E) (vls E args) σ K
  | .mmake r => Eff (mmakeW (vlo E r) σ) K
  | .mset agg cs x k v => Eff (setM agg cs (x.vl E) (k.vl E) (v.vl E) σ) K
  | .mdel agg cs x k => Eff (delM agg cs (x.vl E) (k.vl E) σ) K
  | .ment agg cs zero x k => Eff (entM agg cs zero (x.vl E) (k.vl E) σ) K
  | .mstamp x s v => Eff (stampM (x.vl E) (s.vl E) (v.vl E) σ) K
  | .clr _ zero x => Eff (clrA zero (x.vl E) σ) K
  | .mrange x => Eff (rangeM (x.vl E) σ) K
  | .mnext x => Eff (nextM (x.vl E) σ) K
noncomputable abbrev gB (g : Option (Slot × Bool)) (E : En) : Option Bool := match g with
  | none => none
  | some (p, want) => some (isB (E p.nat) want)
def gT (g : Option Bool) : Bool := match g with
  | none => true
  | some b => b
def gq1 (b : Bool) (o : Option AVal) : Option AVal := match b with
  | true => o
  | false => some .undef
abbrev gq (g : Option Bool) (o : Option AVal) : Option AVal := match g with
  | none => o
  | some b => gq1 b o
def gE1 (b : Bool) (F : (AVal → S → Prop) → Prop) (σ : S) (K : AVal → S → Prop) : Prop := match b with
  | true => F K
  | false => K .undef σ
def gE (g : Option Bool) (F : (AVal → S → Prop) → Prop) (σ : S) (K : AVal → S → Prop) : Prop := match g with
  | none => F K
  | some b => gE1 b F σ K
noncomputable def SomQ (g : Option Bool) (q : QOp) (E : En) (σ : S) (K : AVal → Prop) : Prop := match g with
  | some b => Som (gq1 b (evQ q E σ)) K
  | none => match q with
    | .mov x => K (x.vl E)
    | .lenK n => K (.int .i64 (.ofNat n))
    | q => Som (evQ q E σ) K
theorem SomQ_eq (g : Option Bool) (q : QOp) (E : En) (σ : S) (K : AVal → Prop) : SomQ g q E σ K = Som (gq g (evQ q E σ)) K := by
  cases g <;> cases q <;> rfl
noncomputable def wOp (C : CW) (o : POp) (E : En) (σ : S) (K : En → S → Prop) : Prop := match o with
  | ⟨d, g, k⟩ => match k with
    | .q q => SomQ (gB g E) q E σ fun v => K (E.put d v) σ
    | .a a => gE (gB g E) (fun K => Ala (evA a E) σ K) σ fun v σ => K (E.put d v) σ
    | .e e => gE (gB g E) (fun K => wE C e E σ K) σ fun v σ => K (E.put d v) σ
noncomputable def wOps (C : CW) : List POp → En → S → (En → S → Prop) → Prop
  | [], E, σ, K => K E σ
  | o :: l, E, σ, K => wOp C o E σ fun E σ => wOps C l E σ K
noncomputable def Pos.plusT : Nat → Pos → Pos
  | 0, p => p
  | n + 1, p => Pos.plusT n p.succ
noncomputable def S.bumpT (n : Nat) (σ : S) : S := ⟨σ.heap, Pos.plusT n σ.next, σ.fams, σ.maps⟩
noncomputable abbrev rkQ (k : KOp) (d : Option Slot) (E : En) (σ : S) : Bool := match k with
  | .q q => match d with
    | some p => SameO (evQ q E σ) (E p.nat)
    | none => false
  | _ => false
noncomputable abbrev rk (o : POp) (E : En) (σ : S) : Bool := match o with
  | ⟨d, g, k⟩ => match g with
    | none => rkQ k d E σ
    | some (p, want) => notB (isB (E p.nat) want) || rkQ k d E σ
noncomputable def wCks : List POp → En → S → Prop → Prop
  | [], _, _, A => A
  | o :: l, E, σ, A => Sure (rk o E σ) (wCks l E σ A)
noncomputable def wD (C : CW) (base : Pos) (o : DOp) (E : En) (σ : S) (K : En → S → Prop) : Prop := match o with
  | ⟨ix, o, checks⟩ => match o with
    | ⟨d, g, k⟩ => match k with
      | .q q => SomQ (gB g E) q E σ fun v => K (E.put d v) σ
      | .a a => gE (gB g E) (fun K => Alb (evA a E) (Pos.plusT ix base) σ K) σ fun v σ => K (E.put d v) σ
      | .e e => gE (gB g E) (fun K => wE C e E σ fun v σ => wCks checks (E.put d v) σ (K v σ)) σ fun v σ => K (E.put d v) σ
noncomputable def wDs (C : CW) (base : Pos) : List DOp → En → S → (En → S → Prop) → Prop
  | [], E, σ, K => K E σ
  | o :: l, E, σ, K => wD C base o E σ fun E σ => wDs C base l E σ K
abbrev KW := Ex → En → S → Prop
noncomputable def wIter (body : En → S → KW → Prop) : Nat → En → S → KW → Prop
  | 0, _, _, _ => False
  | n + 1, E, σ, K => body E σ fun e E σ => match e with
    | .normal => wIter body n E σ K
    | .exit i => K (.exit i) E σ
    | .ret => K .ret E σ
abbrev seqK (B : En → S → KW → Prop) (K : KW) : KW := fun e E σ => match e with
  | .normal => B E σ K
  | .exit i => K (.exit i) E σ
  | .ret => K .ret E σ
abbrev blockK (id : Nat) (K : KW) : KW := fun e E σ => match e with
  | .normal => K .normal E σ
  | .exit i => (match Nat.beq i id with | true => K .normal E σ | false => K (.exit i) E σ)
  | .ret => K .ret E σ
noncomputable def wC (C : CW) (c : PC) : En → S → KW → Prop := match c with
  | .skip => fun E σ K => K .normal E σ
  | .ops l => fun E σ K => wOps C l E σ (K .normal)
  | .draw n l => fun E σ K => wDs C σ.next l E (σ.bumpT n) (K .normal)
  | .seq a b => fun E σ K => wC C a E σ (seqK (wC C b) K)
  | .cond c a b => fun E σ K => WIf (c.vl E) (wC C a E σ K) (wC C b E σ K)
  | .block id c => fun E σ K => wC C c E σ (blockK id K)
  | .loop c => fun E σ K => ∃ n, wIter (wC C c) n E σ K
  | .exit id => fun E σ K => K (.exit id) E σ
  | .ret => fun E σ K => K .ret E σ
noncomputable abbrev loopK (C : CW) (c : PC) (K : KW) : KW := fun e E σ => match e with
  | .normal => wC C (.loop c) E σ K
  | .exit i => K (.exit i) E σ
  | .ret => K .ret E σ
noncomputable abbrev resV (E : En) (σ : S) (r : PRes) : Option AVal := match r with
  | .tmp p => some (E p.nat)
  | .cell1 p => vLoad1 (E p.nat) σ
  | .cellN n p => vLoadN n (E p.nat) σ
noncomputable abbrev resVs (E : En) (σ : S) (l : List PRes) : List (Option AVal) := match l with
  | [] => []
  | r :: l => resV E σ r :: resVs E σ l
noncomputable def allV (l : List (Option AVal)) : Option (List AVal) := match l with
  | [] => some []
  | o :: l => andThen o fun v => test (isV1 v) (andThen (allV l) fun vs => some (v :: vs))
noncomputable def Ret (l : List (Option AVal)) (σ : S) (Q : AVal → S → Prop) : Prop := Som (allV l) fun vs => match vs with
  | [] => Q (.tup []) σ
  | [v] => Q v σ
  | v :: w :: r => Q (.tup (v :: w :: r)) σ
noncomputable def enterE (args : List AVal) (slots : List Slot) (E : En) : Option En := match args with
  | [] => some E
  | v :: l => match slots with
    | [] => none
    | s :: i => enterE l i (E.set s.nat v)
def E0 : En := fun _ => .undef
noncomputable abbrev retK (res : List PRes) (Q : AVal → S → Prop) : KW := fun e E σ => match e with
  | .normal => Ret (resVs E σ res) σ Q
  | .ret => Ret (resVs E σ res) σ Q
  | .exit _ => False
noncomputable def wFn (C : CW) (fn : PFn) (args : List AVal) (σ : S) (Q : AVal → S → Prop) : Prop := match fn with
  | .code slots body res => match enterE args slots E0 with
    | some E => wC C body E σ (retK res Q)
    | none => False
  | .keys off => Eff (runKeys off args σ) Q
  | .host k => Eff (runHost k args σ) Q

def sn (n : Nat) : Slot := .mk (D.of (n / 16)) (D.of (n % 16))
abbrev ot (n : Nat) : Opd := .tmp (sn n)
abbrev oq (d : Nat) (o : QOp) : POp := ⟨some (sn d), none, .q o⟩
abbrev oa (d : Nat) (o : AOp) : POp := ⟨some (sn d), none, .a o⟩
abbrev oe (d : Nat) (o : EOp) : POp := ⟨some (sn d), none, .e o⟩
abbrev oqg (d g : Nat) (b : Bool) (o : QOp) : POp := ⟨some (sn d), some (sn g, b), .q o⟩
abbrev oag (d g : Nat) (b : Bool) (o : AOp) : POp := ⟨some (sn d), some (sn g, b), .a o⟩
abbrev oeg (d g : Nat) (b : Bool) (o : EOp) : POp := ⟨some (sn d), some (sn g, b), .e o⟩
def slotsN (n : Nat) : List Slot := match slotsFrom n 0 with
  | some l => l
  | none => []
theorem wFn_code {C : CW} {slots : List Slot} {body : PC} {res : List PRes} {args : List AVal} {E : En} {σ : S} {Q : AVal → S → Prop} (he : enterE args slots E0 = some E) (h : wC C body E σ (retK res Q)) :
    wFn C (.code slots body res) args σ Q := by
  unfold wFn
  simp only [he]; exact h
def WF (tab : Nat → Option PFn) : CW := fun f args σ Q => ∃ v σ', Q v σ' ∧ ∃ n, ∀ m, n ≤ m → evalF tab m f args σ = some (v, σ')
theorem WF.mono {tab : Nat → Option PFn} {f : Nat} {args : List AVal} {σ : S} {Q R : AVal → S → Prop} (h : WF tab f args σ Q) (hQ : ∀ v σ', Q v σ' → R v σ') : WF tab f args σ R := by
  obtain ⟨v, σ', h1, h2⟩ := h
  exact ⟨v, σ', hQ _ _ h1, h2⟩
def TE (T : Tm) (E : En) : Prop := ∀ s : Slot, T.at s = E s.nat
theorem TE.put {T : Tm} {E : En} (h : TE T E) (d : Option Slot) (v : AVal) : TE (T.put d v) (E.put d v) := by
  cases d with
  | none => exact h
  | some p =>
    intro s
    show Tm.at (Ts.set p (some v) T) s = @Bool.rec (fun _ => AVal) (E s.nat) v (Nat.beq s.nat p.nat)
    rw [Tm.at_eq, Ts.get_set]
    by_cases e : s = p
    · subst e; rw [if_pos rfl, Nat.beq_refl]; rfl
    · rw [if_neg e]
      have : Nat.beq s.nat p.nat = false := by
        rw [← Bool.not_eq_true]; exact fun hb => e (Slot.nat_inj (Nat.eq_of_beq_eq_true hb))
      rw [this]
      show orUndef (Ts.get s T) = E s.nat
      rw [← Tm.at_eq]; exact h s
theorem TE.start : TE Ts.empty E0 := by
  intro s
  rw [Tm.at_eq, Ts.get_empty]; rfl
section
variable {T : Tm} {E : En} (h : TE T E)
include h
theorem TE.opd (x : Opd) : x.ev T = x.vl E := by
  cases x with
  | tmp p => exact h p
  | val v => rfl
theorem TE.evs (xs : List Opd) : evs T xs = vls E xs := by
  induction xs with
  | nil => rfl
  | cons x xs ih => unfold Am.evs vls; rw [headK_eq, h.opd, ih]
theorem TE.evo (x : Option Opd) : evo T x = vlo E x := by
  cases x with
  | none => rfl
  | some x => show some (x.ev T) = some (x.vl E); rw [h.opd]
theorem TE.evParts (ps : List (Nat × Nat × Opd)) : evParts T ps = vlp E ps := by
  induction ps with
  | nil => rfl
  | cons x ps ih => obtain ⟨o, n, x⟩ := x; unfold Am.evParts vlp; rw [h.opd, ih]
theorem TE.q (q : QOp) (σ : S) : evalQ q T σ = evQ q E σ := by
  cases q with
  | mov x => show headK (x.ev T) some = some (x.vl E); rw [headK_eq, h.opd]
  | pick c a b =>
    show (andThen (vPick (c.ev T) (a.ev T) (b.ev T)) fun v => headK v some) = vPick (c.vl E) (a.vl E) (b.vl E)
    rw [h.opd, h.opd, h.opd]
    cases vPick (c.vl E) (a.vl E) (b.vl E) with
    | none => rfl
    | some v => exact headK_eq v some
  | load1 x => show vLoad1 (x.ev T) σ = vLoad1 (x.vl E) σ; rw [h.opd]
  | loadN n x => show vLoadN n (x.ev T) σ = vLoadN n (x.vl E) σ; rw [h.opd]
  | nilck x => show vNilck (x.ev T) = vNilck (x.vl E); rw [h.opd]
  | bin op tk x y => show binA op tk (x.ev T) (y.ev T) = binA op tk (x.vl E) (y.vl E); rw [h.opd, h.opd]
  | eqAgg ks neg x y => show vEqAgg ks neg (x.ev T) (y.ev T) = vEqAgg ks neg (x.vl E) (y.vl E); rw [h.opd, h.opd]
  | un op x => show unA op (x.ev T) = unA op (x.vl E); rw [h.opd]
  | toInt k x => show vToInt k (x.ev T) = vToInt k (x.vl E); rw [h.opd]
  | sameStr x => show vSameStr (x.ev T) = vSameStr (x.vl E); rw [h.opd]
  | bytesStr x => show vBytesStr (x.ev T) σ = vBytesStr (x.vl E) σ; rw [h.opd]
  | slStr x lo hi => show vSlStr (x.ev T) (Am.evo T lo) (Am.evo T hi) = vSlStr (x.vl E) (vlo E lo) (vlo E hi); rw [h.opd, h.evo, h.evo]
  | slSl esz x lo hi mx => show vSlSl esz (x.ev T) (Am.evo T lo) (Am.evo T hi) (Am.evo T mx) = vSlSl esz (x.vl E) (vlo E lo) (vlo E hi) (vlo E mx); rw [h.opd, h.evo, h.evo, h.evo]
  | slArr n esz x lo hi mx => show vSlArr n esz (x.ev T) (Am.evo T lo) (Am.evo T hi) (Am.evo T mx) = vSlArr n esz (x.vl E) (vlo E lo) (vlo E hi) (vlo E mx); rw [h.opd, h.evo, h.evo, h.evo]
  | fieldAddr off x => show vFieldAddr off (x.ev T) = vFieldAddr off (x.vl E); rw [h.opd]
  | field off n isAgg x => show vPart off n isAgg (x.ev T) = vPart off n isAgg (x.vl E); rw [h.opd]
  | ixArr n esz x i => show vIxArr n esz (x.ev T) (i.ev T) = vIxArr n esz (x.vl E) (i.vl E); rw [h.opd, h.opd]
  | ixSl esz x i => show vIxSl esz (x.ev T) (i.ev T) = vIxSl esz (x.vl E) (i.vl E); rw [h.opd, h.opd]
  | idxAgg n esz isAgg x i => show vIdxAgg n esz isAgg (x.ev T) (i.ev T) = vIdxAgg n esz isAgg (x.vl E) (i.vl E); rw [h.opd, h.opd]
  | idxStr x i => show vIdxStr (x.ev T) (i.ev T) = vIdxStr (x.vl E) (i.vl E); rw [h.opd, h.opd]
  | extract i x => show vExtract i (x.ev T) = vExtract i (x.vl E); rw [h.opd]
  | build zero parts =>
    show (andThen (fillA zero (Am.evParts T parts)) fun cs => forces cs fun cs => some (.agg cs)) = vBuild zero (vlp E parts)
    rw [h.evParts]; unfold vBuild; simp only [forces_eq]
  | lenStr x => show vLenStr (x.ev T) = vLenStr (x.vl E); rw [h.opd]
  | lenSl x => show vLenSl (x.ev T) = vLenSl (x.vl E); rw [h.opd]
  | lenK n => rfl
  | capSl x => show vCapSl (x.ev T) = vCapSl (x.vl E); rw [h.opd]
  | maxI x xs => show maxA (x.ev T) (Am.evs T xs) = maxA (x.vl E) (vls E xs); rw [h.opd, h.evs]
  | minI x xs => show minA (x.ev T) (Am.evs T xs) = minA (x.vl E) (vls E xs); rw [h.opd, h.evs]
  | mkFunc f caps => show (andThen (scals (Am.evs T caps)) fun l => some (.func f l)) = vFunc f (vls E caps); rw [h.evs]; first | done | rfl
  | mlook agg cs zero ok x k => show vLook agg cs zero ok (x.ev T) (k.ev T) σ = vLook agg cs zero ok (x.vl E) (k.vl E) σ; rw [h.opd, h.opd]
  | mlen x => show vLenM (x.ev T) σ = vLenM (x.vl E) σ; rw [h.opd]
  | mentry x => show vEntry (x.ev T) σ = vEntry (x.vl E) σ; rw [h.opd]
  | mkI t x => show headK (x.ev T) (vMkI t) = vMkI t (x.vl E); rw [headK_eq, h.opd]
  | cntS x c =>
    show strByte (x.ev T) (c.ev T) (fun s n => forceNat (countN n s) fun n => some (.int .i64 (.ofNat n))) = vCntS (x.vl E) (c.vl E)
    rw [h.opd, h.opd]; unfold vCntS; simp only [forceNat_eq]
  | ixbS x c =>
    show strByte (x.ev T) (c.ev T) (fun s n => match firstN n 0 s with | some i => forceNat i fun i => some (.int .i64 (.ofNat i)) | none => some (.int .i64 (.negSucc 0))) = vIxbS (x.vl E) (c.vl E)
    rw [h.opd, h.opd]; unfold vIxbS; simp only [forceNat_eq]
  | toU x => show qToU x T σ = qToU (.val (x.vl E)) Ts.empty σ; unfold qToU; rw [h.opd]; rfl
  | ofU tg n x => show qOfU tg n x T σ = qOfU tg n (.val (x.vl E)) Ts.empty σ; unfold qOfU; rw [h.opd]; rfl
  | slData x => show qSlData x T σ = qSlData (.val (x.vl E)) Ts.empty _; unfold qSlData; rw [h.opd]; rfl
theorem TE.a (a : AOp) : evalA a T = evA a E := by
  cases a with
  | alloc zero => rfl
  | allocT tg zero => rfl
  | box x => show aBox x T = aBoxV (x.vl E); unfold aBox aBoxV; rw [h.opd]
  | bslice esz zero len parts => show aBslice esz zero len parts T = aSliceV esz zero len (vlp E parts); unfold aBslice aSliceV; rw [h.evParts]
  | mkslice esz bytes zero len cap => show aMkslice esz bytes zero len cap T = aMakeV esz bytes zero (len.vl E) (cap.vl E); unfold aMkslice aMakeV; rw [h.opd, h.opd]
  | strBytes x =>
    show aStrBytes x T = aBytesV (x.vl E)
    unfold aStrBytes aBytesV; rw [h.opd]
    cases x.vl E <;> first | rfl | simp only [forceNat_eq]
theorem TE.wanted (g : Option (Slot × Bool)) : wanted g T = gT (gB g E) := by
  cases g with
  | none => rfl
  | some x => obtain ⟨p, want⟩ := x; rw [wanted_some, h p]; rfl
theorem TE.res (r : PRes) (σ : S) : resOf T σ r = resV E σ r := by
  cases r with
  | tmp p => show some (T.at p) = some (E p.nat); rw [h p]
  | cell1 p => show vLoad1 (T.at p) σ = vLoad1 (E p.nat) σ; rw [h p]
  | cellN n p => show vLoadN n (T.at p) σ = vLoadN n (E p.nat) σ; rw [h p]
theorem TE.resAll (σ : S) (l : List PRes) : resAll T σ l = allV (resVs E σ l) := by
  induction l with
  | nil => rfl
  | cons r l ih =>
    unfold Am.resAll resVs allV
    rw [h.res, ih]
    cases resV E σ r with
    | none => rfl
    | some v => simp only [andThen_some, headK_eq]
end
theorem Som_iff {α : Type} {o : Option α} {K : α → Prop} : Som o K ↔ ∃ a, o = some a ∧ K a := by
  cases o with
  | none => exact ⟨fun h => h.elim, fun ⟨_, h, _⟩ => (by cases h)⟩
  | some a => exact ⟨fun h => ⟨a, rfl, h⟩, fun ⟨_, h, k⟩ => (by cases h; exact k)⟩
theorem Eff_iff {o : Option (AVal × S)} {K : AVal → S → Prop} : Eff o K ↔ ∃ v σ, o = some (v, σ) ∧ K v σ := by
  cases o with
  | none => exact ⟨fun h => h.elim, fun ⟨_, _, h, _⟩ => (by cases h)⟩
  | some a => obtain ⟨v, σ⟩ := a; exact ⟨fun h => ⟨v, σ, rfl, h⟩, fun ⟨_, _, h, k⟩ => (by cases h; exact k)⟩
theorem plusT_eq (n : Nat) (p : Pos) : Pos.plus n p = some (Pos.plusT n p) := by
  induction n generalizing p with
  | zero => rfl
  | succ n ih => unfold Pos.plus Pos.plusT; exact ih _
theorem bumpN_T (n : Nat) (σ : S) : σ.bumpN n = some (σ.bumpT n) := by
  induction n generalizing σ with
  | zero => cases σ; rfl
  | succ n ih =>
    show andThen σ.bump (S.bumpN n) = _
    obtain ⟨h, nx, fm, ms⟩ := σ
    have : S.bump ⟨h, nx, fm, ms⟩ = some ⟨h, nx.succ, fm, ms⟩ := Pos.nextK_succ nx fun n => some (⟨h, n, fm, ms⟩ : S)
    rw [this, andThen_some]
    exact ih _
theorem addK_T {R : Type} (n : Nat) (p : Pos) (k : Pos → Option R) : Pos.addK n p k = k (Pos.plusT n p) := by
  induction n generalizing p with
  | zero => rfl
  | succ n ih => show Pos.nextK p _ = _; rw [Pos.nextK_succ, ih]; rfl
theorem alloc_new (σ : S) (blk : Blk) : σ.alloc blk = some (σ.next, σ.new blk) := by
  rw [alloc_unf, lay_eq]
  exact Pos.nextK_succ _ _
abbrev Evn {R : Type} (F : Nat → Option R) (r : R) : Prop := ∃ n, ∀ m, n ≤ m → F m = some r
theorem Evn.of {R : Type} {F : Nat → Option R} {r : R} (h : ∀ m, F m = some r) : Evn F r := ⟨0, fun m _ => h m⟩
theorem Evn.then {R U : Type} {F : Nat → Option R} {G : Nat → R → Option U} {r : R} {u : U} (h : Evn F r) (k : Evn (fun m => G m r) u) : Evn (fun m => andThen (F m) (G m)) u := by
  obtain ⟨n1, h⟩ := h
  obtain ⟨n2, k⟩ := k
  exact ⟨n1 + n2, fun m hm => by show andThen (F m) (G m) = _; rw [h m (by omega), andThen_some]; exact k m (by omega)⟩
section
variable {tab : Nat → Option PFn}
theorem wE_sound {e : EOp} {E : En} {T : Tm} (hT : TE T E) {σ : S} {K : AVal → S → Prop} (h : wE (WF tab) e E σ K) : ∃ v σ', K v σ' ∧ Evn (fun m => evalE e (evalF tab m) T σ) (v, σ') := by
  have key : ∀ {o : Option (AVal × S)}, (∀ m, evalE e (evalF tab m) T σ = o) → Eff o K → ∃ v σ', K v σ' ∧ Evn (fun m => evalE e (evalF tab m) T σ) (v, σ') := by
    intro o ho hE
    obtain ⟨v, σ', h1, h2⟩ := Eff_iff.1 hE
    exact ⟨v, σ', h2, .of fun m => by rw [ho, h1]⟩
  cases e with
  | store n x v =>
    refine key (fun m => ?_) h
    show headK (v.ev T) (fun v => andThen (cellsOf v) fun cs => storeV n cs (x.ev T) σ) = _
    rw [headK_eq, hT.opd, hT.opd]; rfl
  | append esz bytes s x => exact key (fun m => by show appendA esz esz bytes (s.ev T) (x.ev T) σ = _; rw [hT.opd, hT.opd]) h
  | appendT tg esz bytes s x => exact key (fun m => by show appendA tg esz bytes (s.ev T) (x.ev T) σ = _; rw [hT.opd, hT.opd]) h
  | uStr tg x n => exact key (fun m => by show uStrA tg (x.ev T) (n.ev T) σ = _; rw [hT.opd, hT.opd]) h
  | copy esz d s => exact key (fun m => by show copyA esz (d.ev T) (s.ev T) σ = _; rw [hT.opd, hT.opd]) h
  | call f args =>
    obtain ⟨v, σ', h1, h2⟩ := h
    exact ⟨v, σ', h1, by rw [← hT.evs] at h2; exact h2⟩
  | callV f args =>
    have h : CallV (WF tab) (f.vl E) (vls E args) σ K := h
    unfold CallV at h
    split at h
    · rename_i g caps hf
      obtain ⟨v, σ', h1, h2⟩ := h
      refine ⟨v, σ', h1, ?_⟩
      rw [← hT.evs] at h2
      obtain ⟨n, h2⟩ := h2
      refine ⟨n, fun m hm => ?_⟩
      show callVal (evalF tab m) (f.ev T) (Am.evs T args) σ = _
      rw [hT.opd, hf]; exact h2 m hm
    · exact h.elim
  | mmake r => exact key (fun m => by show test (isMapR (Am.evo T r)) (newMap σ) = _; rw [hT.evo]; rfl) h
  | mset agg cs x k v => exact key (fun m => by show setM agg cs (x.ev T) (k.ev T) (v.ev T) σ = _; rw [hT.opd, hT.opd, hT.opd]) h
  | mdel agg cs x k => exact key (fun m => by show delM agg cs (x.ev T) (k.ev T) σ = _; rw [hT.opd, hT.opd]) h
  | ment agg cs zero x k => exact key (fun m => by show entM agg cs zero (x.ev T) (k.ev T) σ = _; rw [hT.opd, hT.opd]) h
  | mstamp x s v => exact key (fun m => by show stampM (x.ev T) (s.ev T) (v.ev T) σ = _; rw [hT.opd, hT.opd, hT.opd]) h
  | clr esz zero x => exact key (fun m => by show clrA zero (x.ev T) σ = _; rw [hT.opd]) h
  | mrange x => exact key (fun m => by show rangeM (x.ev T) σ = _; rw [hT.opd]) h
  | mnext x => exact key (fun m => by show nextM (x.ev T) σ = _; rw [hT.opd]) h
theorem gE_cases {g : Option Bool} {F : (AVal → S → Prop) → Prop} {σ : S} {K : AVal → S → Prop} (h : gE g F σ K) : (gT g = true ∧ F K) ∨ (gT g = false ∧ K .undef σ) := by
  cases g with
  | none => exact .inl ⟨rfl, h⟩
  | some b => cases b with
    | true => exact .inl ⟨rfl, h⟩
    | false => exact .inr ⟨rfl, h⟩
theorem gq_cases {g : Option Bool} {o : Option AVal} : (gT g = true → gq g o = o) ∧ (gT g = false → gq g o = some .undef) := by
  cases g with
  | none => exact ⟨fun _ => rfl, fun h => (by cases h)⟩
  | some b => cases b with
    | true => exact ⟨fun _ => rfl, fun h => (by cases h)⟩
    | false => exact ⟨fun h => (by cases h), fun _ => rfl⟩
def Goes (F : Nat → Option (Tm × S)) (K : En → S → Prop) : Prop := ∃ T' E' σ', TE T' E' ∧ K E' σ' ∧ Evn F (T', σ')
theorem putK_T {R : Type} (T : Tm) (d : Option Slot) (v : AVal) (k : Tm → R) : T.putK d v k = k (T.put d v) := Tm.putK_eq T d v k
theorem evalOp_unf (call : Caller) (d : Option Slot) (g : Option (Slot × Bool)) (k : KOp) (T : Tm) (σ : S) :
    evalOp call ⟨d, g, k⟩ T σ = match wanted g T with | true => opK k d call T σ | false => some (T.put d .undef, σ) := by
  show @Bool.rec (fun _ => Option (Tm × S)) (T.putK d .undef fun T => some (T, σ)) (opK k d call T σ) (wanted g T) = _
  rw [putK_T]
  cases wanted g T <;> rfl
theorem wOp_sound {o : POp} {E : En} {T : Tm} (hT : TE T E) {σ : S} {K : En → S → Prop} (h : wOp (WF tab) o E σ K) : Goes (fun m => evalOp (evalF tab m) o T σ) K := by
  obtain ⟨d, g, k⟩ := o
  have no : wanted g T = false → K (E.put d .undef) σ → Goes (fun m => evalOp (evalF tab m) ⟨d, g, k⟩ T σ) K := fun hb h => by
    refine ⟨_, _, σ, hT.put d .undef, h, .of fun m => ?_⟩
    rw [evalOp_unf, hb]
  have yes : wanted g T = true → Goes (fun m => opK k d (evalF tab m) T σ) K → Goes (fun m => evalOp (evalF tab m) ⟨d, g, k⟩ T σ) K := fun hb h => by
    simp only [evalOp_unf, hb]; exact h
  have ge : ∀ {F : (AVal → S → Prop) → Prop} {K' : AVal → S → Prop}, gE (gB g E) F σ K' → (wanted g T = true ∧ F K') ∨ (wanted g T = false ∧ K' .undef σ) := by
    intro F K' h
    rw [hT.wanted]
    exact gE_cases h
  cases k with
  | q q =>
    have h : SomQ (gB g E) q E σ fun v => K (E.put d v) σ := h
    rw [SomQ_eq] at h
    have hq : ∀ {o}, (wanted g T = true → gq (gB g E) o = o) ∧ (wanted g T = false → gq (gB g E) o = some .undef) := by
      intro o
      rw [hT.wanted]
      exact gq_cases
    cases hw : wanted g T with
    | false => rw [hq.2 hw] at h; exact no hw h
    | true =>
      rw [hq.1 hw] at h
      refine yes hw ?_
      obtain ⟨v, hv, hk⟩ := Som_iff.1 h
      refine ⟨_, _, σ, hT.put d v, hk, .of fun m => ?_⟩
      show andThen (evalQ q T σ) (fun v => T.putK d v fun T => some (T, σ)) = _
      rw [hT.q, hv, andThen_some]; exact putK_T _ _ _ _
  | a a =>
    rcases ge h with ⟨hw, h1⟩ | ⟨hw, h1⟩
    · refine yes hw ?_
      have h1 : Ala (evA a E) σ fun v σ => K (E.put d v) σ := h1
      unfold Ala at h1
      split at h1
      · rename_i blk mk ha
        refine ⟨_, _, _, hT.put d (mk σ.next), h1, .of fun m => ?_⟩
        show andThen (evalA a T) (fun (blk, mk) => andThen (σ.alloc blk) fun (p, σ) => T.putK d (mk p) fun T => some (T, σ)) = _
        rw [hT.a, ha, andThen_some]
        show andThen (σ.alloc blk) _ = _
        rw [alloc_new, andThen_some]
        exact putK_T _ _ _ _
      · exact h1.elim
    · exact no hw h1
  | e e =>
    rcases ge h with ⟨hw, h1⟩ | ⟨hw, h1⟩
    · refine yes hw ?_
      obtain ⟨v, σ', hk, n, hv⟩ := wE_sound hT h1
      refine ⟨_, _, σ', hT.put d v, hk, n, fun m hm => ?_⟩
      show andThen (evalE e (evalF tab m) T σ) (fun (v, σ) => T.putK d v fun T => some (T, σ)) = _
      have := hv m hm
      simp only at this
      rw [this, andThen_some]; exact putK_T _ _ _ _
    · exact no hw h1
theorem wOps_sound : ∀ {l : List POp} {E : En} {T : Tm}, TE T E → ∀ {σ : S} {K : En → S → Prop}, wOps (WF tab) l E σ K → Goes (fun m => evalOps (evalF tab m) l T σ) K
  | [], E, T, hT, σ, K, h => ⟨T, E, σ, hT, h, .of fun m => evalOps_nil _ _ _⟩
  | o :: l, E, T, hT, σ, K, h => by
    obtain ⟨T1, E1, σ1, hT1, h1, e1⟩ := wOp_sound hT (h : wOp (WF tab) o E σ fun E σ => wOps (WF tab) l E σ K)
    obtain ⟨T2, E2, σ2, hT2, h2, e2⟩ := wOps_sound hT1 h1
    refine ⟨T2, E2, σ2, hT2, h2, ?_⟩
    simp only [evalOps_cons]
    exact Evn.then e1 e2
theorem rk_eq {T : Tm} {E : En} (hT : TE T E) (o : POp) (σ : S) : recheck T σ o = rk o E σ := by
  obtain ⟨d, g, k⟩ := o
  have hq : recheckQ T σ k d = rkQ k d E σ := by
    cases k with
    | q q => cases d with
      | some p =>
        show (match evalQ q T σ with | some v => same v (T.at p) | none => false) = SameO (evQ q E σ) (E p.nat)
        rw [hT.q, hT p]; rfl
      | none => rfl
    | a a => rfl
    | e e => rfl
  show (match wanted g T with | true => recheckQ T σ k d | false => true) = _
  rw [hT.wanted, hq]
  cases g with
  | none => rfl
  | some x =>
    obtain ⟨p, want⟩ := x
    show (match isB (E p.nat) want with | true => rkQ k d E σ | false => true) = (notB (isB (E p.nat) want) || rkQ k d E σ)
    cases isB (E p.nat) want <;> rfl
theorem wCks_of {T : Tm} {E : En} (hT : TE T E) {σ : S} {A : Prop} : ∀ {l : List POp}, wCks l E σ A → rechecks T σ l = true ∧ A
  | [], h => ⟨rfl, h⟩
  | o :: l, h => by
    have h : rk o E σ = true ∧ wCks l E σ A := h
    obtain ⟨h1, h2⟩ := wCks_of hT h.2
    refine ⟨?_, h2⟩
    unfold rechecks
    rw [rk_eq hT, h.1]; exact h1
theorem evalD_unf (call : Caller) (base : Pos) (ix : Nat) (d : Option Slot) (g : Option (Slot × Bool)) (k : KOp) (cks : List POp) (T : Tm) (σ : S) :
    evalD call base ⟨ix, ⟨d, g, k⟩, cks⟩ T σ = match wanted g T with | true => dK k base ix cks d call T σ | false => some (T.put d .undef, σ) := by
  show (match wanted g T with | true => dK k base ix cks d call T σ | false => T.putK d .undef fun T => some (T, σ)) = _
  rw [putK_T]
theorem wD_sound {base : Pos} {o : DOp} {E : En} {T : Tm} (hT : TE T E) {σ : S} {K : En → S → Prop} (h : wD (WF tab) base o E σ K) : Goes (fun m => evalD (evalF tab m) base o T σ) K := by
  obtain ⟨ix, ⟨d, g, k⟩, cks⟩ := o
  have no : wanted g T = false → K (E.put d .undef) σ → Goes (fun m => evalD (evalF tab m) base ⟨ix, ⟨d, g, k⟩, cks⟩ T σ) K := fun hb h => by
    refine ⟨_, _, σ, hT.put d .undef, h, .of fun m => ?_⟩
    rw [evalD_unf, hb]
  have yes : wanted g T = true → Goes (fun m => dK k base ix cks d (evalF tab m) T σ) K → Goes (fun m => evalD (evalF tab m) base ⟨ix, ⟨d, g, k⟩, cks⟩ T σ) K := fun hb h => by
    simp only [evalD_unf, hb]; exact h
  have ge : ∀ {F : (AVal → S → Prop) → Prop} {K' : AVal → S → Prop}, gE (gB g E) F σ K' → (wanted g T = true ∧ F K') ∨ (wanted g T = false ∧ K' .undef σ) := by
    intro F K' h
    rw [hT.wanted]
    exact gE_cases h
  cases k with
  | q q =>
    have h : SomQ (gB g E) q E σ fun v => K (E.put d v) σ := h
    rw [SomQ_eq] at h
    have hq : ∀ {o}, (wanted g T = true → gq (gB g E) o = o) ∧ (wanted g T = false → gq (gB g E) o = some .undef) := by
      intro o
      rw [hT.wanted]
      exact gq_cases
    cases hw : wanted g T with
    | false => rw [hq.2 hw] at h; exact no hw h
    | true =>
      rw [hq.1 hw] at h
      refine yes hw ?_
      obtain ⟨v, hv, hk⟩ := Som_iff.1 h
      refine ⟨_, _, σ, hT.put d v, hk, .of fun m => ?_⟩
      show andThen (evalQ q T σ) (fun v => T.putK d v fun T => some (T, σ)) = _
      rw [hT.q, hv, andThen_some]; exact putK_T _ _ _ _
  | a a =>
    have h : gE (gB g E) (fun K => Alb (evA a E) (Pos.plusT ix base) σ K) σ (fun v σ => K (E.put d v) σ) := h
    rcases ge h with ⟨hw, h1⟩ | ⟨hw, h1⟩
    · refine yes hw ?_
      have h1 : Alb (evA a E) (Pos.plusT ix base) σ fun v σ => K (E.put d v) σ := h1
      unfold Alb at h1
      split at h1
      · rename_i blk mk ha
        refine ⟨_, _, _, hT.put d (mk (Pos.plusT ix base)), h1, .of fun m => ?_⟩
        show andThen (evalA a T) (fun (blk, mk) => Pos.addK ix base fun p => match σ.lay p (blk.named p) with | ⟨h, n, fams, ms⟩ => T.putK d (mk p) fun T => some (T, (⟨h, n, fams, ms⟩ : S))) = _
        rw [hT.a, ha, andThen_some]
        show Pos.addK ix base _ = _
        rw [addK_T]
        exact putK_T _ _ _ _
      · exact h1.elim
    · exact no hw h1
  | e e =>
    have h : gE (gB g E) (fun K => wE (WF tab) e E σ fun v σ => wCks cks (E.put d v) σ (K v σ)) σ (fun v σ => K (E.put d v) σ) := h
    rcases ge h with ⟨hw, h1⟩ | ⟨hw, h1⟩
    · refine yes hw ?_
      obtain ⟨v, σ', hk, n, hv⟩ := wE_sound hT h1
      obtain ⟨c1, c2⟩ := wCks_of (hT.put d v) hk
      refine ⟨_, _, σ', hT.put d v, c2, n, fun m hm => ?_⟩
      show andThen (evalE e (evalF tab m) T σ) (fun (v, σ) => T.putK d v fun T => test (rechecks T σ cks) (some (T, σ))) = _
      have := hv m hm
      simp only at this
      rw [this, andThen_some]
      show T.putK d v _ = _
      rw [putK_T, c1]; rfl
    · exact no hw h1
theorem wDs_sound {base : Pos} : ∀ {l : List DOp} {E : En} {T : Tm}, TE T E → ∀ {σ : S} {K : En → S → Prop}, wDs (WF tab) base l E σ K → Goes (fun m => evalDs (evalF tab m) base l T σ) K
  | [], E, T, hT, σ, K, h => ⟨T, E, σ, hT, h, .of fun m => rfl⟩
  | o :: l, E, T, hT, σ, K, h => by
    obtain ⟨T1, E1, σ1, hT1, h1, e1⟩ := wD_sound hT (h : wD (WF tab) base o E σ fun E σ => wDs (WF tab) base l E σ K)
    obtain ⟨T2, E2, σ2, hT2, h2, e2⟩ := wDs_sound hT1 h1
    refine ⟨T2, E2, σ2, hT2, h2, ?_⟩
    show Evn (fun m => andThen (evalD (evalF tab m) base o T σ) fun x => match x with | (T, σ) => evalDs (evalF tab m) base l T σ) _
    exact Evn.then (G := fun m x => match x with | (T, σ) => evalDs (evalF tab m) base l T σ) e1 e2
def GoesC (F : Nat → Out) (K : KW) : Prop := ∃ e T' E' σ', TE T' E' ∧ K e E' σ' ∧ Evn F (e, T', σ')
noncomputable def nrm (x : Tm × S) : Out := match x with | (T, σ) => some (.normal, T, σ)
noncomputable def sqk (F : Tm → S → Out) (x : Ex × Tm × S) : Out := match x with
  | (e, T, σ) => match e with
    | .normal => F T σ
    | e => some (e, T, σ)
noncomputable def blk (id : Nat) (x : Ex × Tm × S) : Out := match x with
  | (e, T, σ) => match e with
    | .exit i => (match Nat.beq i id with
      | true => some (.normal, T, σ)
      | false => some (.exit i, T, σ))
    | e => some (e, T, σ)
theorem evalC_ops (call : Caller) (m : Nat) (l : List POp) (T : Tm) (σ : S) : evalC call m (.ops l) T σ = andThen (evalOps call l T σ) nrm := rfl
theorem evalC_draw (call : Caller) (m n : Nat) (l : List DOp) (T : Tm) (σ : S) : evalC call m (.draw n l) T σ = andThen (evalDs call σ.next l T (σ.bumpT n)) nrm := by
  show andThen (σ.bumpN n) (fun σ' => andThen (evalDs call σ.next l T σ') nrm) = _
  rw [bumpN_T, andThen_some]
theorem evalC_seq (call : Caller) (m : Nat) (a b : PC) (T : Tm) (σ : S) : evalC call m (.seq a b) T σ = andThen (evalC call m a T σ) (sqk (evalC call m b)) := rfl
theorem evalC_block (call : Caller) (m id : Nat) (c : PC) (T : Tm) (σ : S) : evalC call m (.block id c) T σ = andThen (evalC call m c T σ) (blk id) := rfl
theorem wC_sound : ∀ (c : PC) {E : En} {T : Tm}, TE T E → ∀ {σ : S} {K : KW}, wC (WF tab) c E σ K → GoesC (fun m => evalC (evalF tab m) m c T σ) K := by
  intro c
  induction c with
  | skip => intro E T hT σ K h; exact ⟨.normal, T, E, σ, hT, h, .of fun m => rfl⟩
  | exit id => intro E T hT σ K h; exact ⟨.exit id, T, E, σ, hT, h, .of fun m => rfl⟩
  | ret => intro E T hT σ K h; exact ⟨.ret, T, E, σ, hT, h, .of fun m => rfl⟩
  | ops l =>
    intro E T hT σ K h
    obtain ⟨T1, E1, σ1, hT1, h1, e1⟩ := wOps_sound hT h
    refine ⟨.normal, T1, E1, σ1, hT1, h1, ?_⟩
    simp only [evalC_ops]
    exact Evn.then (G := fun _ => nrm) e1 (.of fun m => rfl)
  | draw n l =>
    intro E T hT σ K h
    obtain ⟨T1, E1, σ1, hT1, h1, e1⟩ := wDs_sound hT (h : wDs (WF tab) σ.next l E (σ.bumpT n) (K .normal))
    refine ⟨.normal, T1, E1, σ1, hT1, h1, ?_⟩
    simp only [evalC_draw]
    exact Evn.then (G := fun _ => nrm) e1 (.of fun m => rfl)
  | seq a b iha ihb =>
    intro E T hT σ K h
    obtain ⟨e, T1, E1, σ1, hT1, h1, e1⟩ := iha hT (h : wC (WF tab) a E σ (seqK (wC (WF tab) b) K))
    simp only [evalC_seq]
    cases e with
    | normal =>
      obtain ⟨e', T2, E2, σ2, hT2, h2, e2⟩ := ihb hT1 h1
      exact ⟨e', T2, E2, σ2, hT2, h2, Evn.then (G := fun m => sqk (evalC (evalF tab m) m b)) e1 e2⟩
    | exit i => exact ⟨_, T1, E1, σ1, hT1, h1, Evn.then (G := fun m => sqk (evalC (evalF tab m) m b)) e1 (.of fun m => rfl)⟩
    | ret => exact ⟨_, T1, E1, σ1, hT1, h1, Evn.then (G := fun m => sqk (evalC (evalF tab m) m b)) e1 (.of fun m => rfl)⟩
  | cond x a b iha ihb =>
    intro E T hT σ K h
    have h : WIf (x.vl E) (wC (WF tab) a E σ K) (wC (WF tab) b E σ K) := h
    have hu : ∀ m, evalC (evalF tab m) m (.cond x a b) T σ = match x.vl E with | .bool t => (match t with | true => evalC (evalF tab m) m a T σ | false => evalC (evalF tab m) m b T σ) | _ => none := by
      intro m
      rw [← hT.opd]; rfl
    simp only [hu]
    cases hx : x.vl E with
    | bool t =>
      rw [hx] at h
      cases t with
      | true => exact iha hT h
      | false => exact ihb hT h
    | _ => rw [hx] at h; exact h.elim
  | block id c ih =>
    intro E T hT σ K h
    obtain ⟨e, T1, E1, σ1, hT1, h1, e1⟩ := ih hT (h : wC (WF tab) c E σ (blockK id K))
    simp only [evalC_block]
    cases e with
    | normal => exact ⟨.normal, T1, E1, σ1, hT1, h1, Evn.then (G := fun _ => blk id) e1 (.of fun m => rfl)⟩
    | ret => exact ⟨.ret, T1, E1, σ1, hT1, h1, Evn.then (G := fun _ => blk id) e1 (.of fun m => rfl)⟩
    | exit i =>
      have h1 : (match Nat.beq i id with | true => K .normal E1 σ1 | false => K (.exit i) E1 σ1) := h1
      cases hi : Nat.beq i id with
      | true =>
        simp only [hi] at h1
        exact ⟨.normal, T1, E1, σ1, hT1, h1, Evn.then (G := fun _ => blk id) e1 (.of fun m => by simp only [blk, hi])⟩
      | false =>
        simp only [hi] at h1
        exact ⟨.exit i, T1, E1, σ1, hT1, h1, Evn.then (G := fun _ => blk id) e1 (.of fun m => by simp only [blk, hi])⟩
  | loop c ih =>
    intro E T hT σ K h
    obtain ⟨n, h⟩ := (h : ∃ n, wIter (wC (WF tab) c) n E σ K)
    suffices hs : ∃ e T' E' σ', TE T' E' ∧ K e E' σ' ∧ ∃ k, ∀ m, k ≤ m → ∀ j, k ≤ j → iter (evalC (evalF tab m) m c) j T σ = some (e, T', σ') by
      obtain ⟨e, T', E', σ', h1, h2, k, h3⟩ := hs
      exact ⟨e, T', E', σ', h1, h2, k, fun m hm => h3 m hm m hm⟩
    induction n generalizing E T σ with
    | zero => exact h.elim
    | succ n ihn =>
      obtain ⟨e, T1, E1, σ1, hT1, h1, k1, e1⟩ := ih hT h
      simp only at e1
      cases e with
      | normal =>
        obtain ⟨e', T2, E2, σ2, hT2, h2, k2, e2⟩ := ihn hT1 h1
        refine ⟨e', T2, E2, σ2, hT2, h2, k1 + k2 + 1, fun m hm j hj => ?_⟩
        obtain ⟨j, rfl⟩ : ∃ i, j = i + 1 := ⟨j - 1, by omega⟩
        rw [iter_succ]
        unfold thenC
        rw [e1 m (by omega), andThen_some]
        exact e2 m (by omega) j (by omega)
      | exit i =>
        refine ⟨_, T1, E1, σ1, hT1, h1, k1 + 1, fun m hm j hj => ?_⟩
        obtain ⟨j, rfl⟩ : ∃ i, j = i + 1 := ⟨j - 1, by omega⟩
        rw [iter_succ]
        unfold thenC
        rw [e1 m (by omega), andThen_some]
      | ret =>
        refine ⟨_, T1, E1, σ1, hT1, h1, k1 + 1, fun m hm j hj => ?_⟩
        obtain ⟨j, rfl⟩ : ∃ i, j = i + 1 := ⟨j - 1, by omega⟩
        rw [iter_succ]
        unfold thenC
        rw [e1 m (by omega), andThen_some]
theorem Ret_of {l : List (Option AVal)} {σ : S} {Q : AVal → S → Prop} (h : Ret l σ Q) : ∃ vs v, allV l = some vs ∧ outVs σ vs = some (v, σ) ∧ Q v σ := by
  obtain ⟨vs, h1, h2⟩ := Som_iff.1 h
  cases vs with
  | nil => exact ⟨_, _, h1, rfl, h2⟩
  | cons v vs => cases vs with
    | nil => exact ⟨_, _, h1, rfl, h2⟩
    | cons w vs => exact ⟨_, _, h1, rfl, h2⟩
theorem enter_T {args : List AVal} : ∀ {slots : List Slot} {E E' : En} {T : Tm}, TE T E → enterE args slots E = some E' → ∃ T', TE T' E' ∧ ∀ k : Tm → Option (AVal × S), enterK args slots T k = k T' := by
  induction args with
  | nil => intro slots E E' T hT h; cases h; exact ⟨T, hT, fun k => rfl⟩
  | cons v args ih =>
    intro slots E E' T hT h
    cases slots with
    | nil => cases h
    | cons s slots =>
      obtain ⟨T', h1, h2⟩ := ih (hT.put (some s) v) h
      refine ⟨T', h1, fun k => ?_⟩
      show Ts.setK s (some v) T (fun T => enterK args slots T k) = _
      rw [Ts.setK_eq]; exact h2 k
def One2 {α β : Type} (W : (α → β → Prop) → Prop) : Prop := ∀ K, W K → ∃ a b, K a b ∧ ∀ K', K' a b → W K'
theorem Eff_one (o : Option (AVal × S)) : One2 (Eff o) := fun K h => by
  obtain ⟨v, σ, h1, h2⟩ := Eff_iff.1 h
  exact ⟨v, σ, h2, fun K' h' => Eff_iff.2 ⟨v, σ, h1, h'⟩⟩
theorem WF_one (f : Nat) (args : List AVal) (σ : S) : One2 (WF tab f args σ) := fun K ⟨v, σ', h1, h2⟩ => ⟨v, σ', h1, fun K' h' => ⟨v, σ', h', h2⟩⟩
theorem Ala_one (o : Option (Blk × (Pos → AVal))) (σ : S) : One2 (Ala o σ) := fun K h => by
  cases o with
  | none => exact h.elim
  | some x => exact ⟨_, _, h, fun K' h' => h'⟩
theorem Alb_one (o : Option (Blk × (Pos → AVal))) (p : Pos) (σ : S) : One2 (Alb o p σ) := fun K h => by
  cases o with
  | none => exact h.elim
  | some x => exact ⟨_, _, h, fun K' h' => h'⟩
theorem wE_one (e : EOp) (E : En) (σ : S) : One2 (wE (WF tab) e E σ) := by
  cases e with
  | call f args => exact WF_one _ _ _
  | callV f args =>
    intro K h
    have h : CallV (WF tab) (f.vl E) (vls E args) σ K := h
    show ∃ a b, K a b ∧ ∀ K', K' a b → CallV (WF tab) (f.vl E) (vls E args) σ K'
    cases hf : f.vl E with
    | func g caps => rw [hf] at h; exact WF_one _ _ _ K h
    | _ => rw [hf] at h; exact h.elim
  | _ => exact Eff_one _
theorem gE_one {g : Option Bool} {F : (AVal → S → Prop) → Prop} {σ : S} (hF : One2 F) : One2 (gE g F σ) := by
  intro K h
  cases g with
  | none => exact hF K h
  | some b => cases b with
    | true => exact hF K h
    | false => exact ⟨_, _, h, fun K' h' => h'⟩
theorem wOp_one (o : POp) (E : En) (σ : S) : One2 (wOp (WF tab) o E σ) := by
  intro K h
  obtain ⟨d, g, k⟩ := o
  cases k with
  | q q =>
    have h : SomQ (gB g E) q E σ fun v => K (E.put d v) σ := h
    rw [SomQ_eq] at h
    obtain ⟨v, h1, h2⟩ := Som_iff.1 h
    refine ⟨_, _, h2, fun K' h' => ?_⟩
    show SomQ (gB g E) q E σ fun v => K' (E.put d v) σ
    rw [SomQ_eq]
    exact Som_iff.2 ⟨v, h1, h'⟩
  | a a =>
    obtain ⟨v, σ', h1, h2⟩ := gE_one (Ala_one (evA a E) σ) _ (h : gE (gB g E) (fun K => Ala (evA a E) σ K) σ fun v σ => K (E.put d v) σ)
    exact ⟨_, _, h1, fun K' h' => h2 (fun v σ => K' (E.put d v) σ) h'⟩
  | e e =>
    obtain ⟨v, σ', h1, h2⟩ := gE_one (wE_one e E σ) _ (h : gE (gB g E) (fun K => wE (WF tab) e E σ K) σ fun v σ => K (E.put d v) σ)
    exact ⟨_, _, h1, fun K' h' => h2 (fun v σ => K' (E.put d v) σ) h'⟩
theorem wOps_one : ∀ (l : List POp) (E : En) (σ : S), One2 (wOps (WF tab) l E σ)
  | [], E, σ, K, h => ⟨E, σ, h, fun K' h' => h'⟩
  | o :: l, E, σ, K, h => by
    obtain ⟨E1, σ1, h1, h2⟩ := wOp_one o E σ _ (h : wOp (WF tab) o E σ fun E σ => wOps (WF tab) l E σ K)
    obtain ⟨E2, σ2, h3, h4⟩ := wOps_one l E1 σ1 K h1
    exact ⟨E2, σ2, h3, fun K' h' => h2 (fun E σ => wOps (WF tab) l E σ K') (h4 K' h')⟩
theorem wCks_iff {E : En} {σ : S} {A : Prop} : ∀ {l : List POp}, wCks l E σ A ↔ (wCks l E σ True ∧ A)
  | [] => ⟨fun h => ⟨trivial, h⟩, fun h => h.2⟩
  | o :: l => by
    show (rk o E σ = true ∧ wCks l E σ A) ↔ ((rk o E σ = true ∧ wCks l E σ True) ∧ A)
    rw [wCks_iff (A := A)]
    exact ⟨fun ⟨a, b, c⟩ => ⟨⟨a, b⟩, c⟩, fun ⟨⟨a, b⟩, c⟩ => ⟨a, b, c⟩⟩
theorem wD_one (base : Pos) (o : DOp) (E : En) (σ : S) : One2 (wD (WF tab) base o E σ) := by
  intro K h
  obtain ⟨ix, ⟨d, g, k⟩, cks⟩ := o
  cases k with
  | q q =>
    have h : SomQ (gB g E) q E σ fun v => K (E.put d v) σ := h
    rw [SomQ_eq] at h
    obtain ⟨v, h1, h2⟩ := Som_iff.1 h
    refine ⟨_, _, h2, fun K' h' => ?_⟩
    show SomQ (gB g E) q E σ fun v => K' (E.put d v) σ
    rw [SomQ_eq]
    exact Som_iff.2 ⟨v, h1, h'⟩
  | a a =>
    obtain ⟨v, σ', h1, h2⟩ := gE_one (Alb_one (evA a E) (Pos.plusT ix base) σ) _ (h : gE (gB g E) (fun K => Alb (evA a E) (Pos.plusT ix base) σ K) σ fun v σ => K (E.put d v) σ)
    exact ⟨_, _, h1, fun K' h' => h2 (fun v σ => K' (E.put d v) σ) h'⟩
  | e e =>
    have hF : One2 (fun K => wE (WF tab) e E σ fun v σ => wCks cks (E.put d v) σ (K v σ)) := fun K h => by
      obtain ⟨v, σ', h1, h2⟩ := wE_one e E σ _ h
      obtain ⟨h3, h4⟩ := wCks_iff.1 h1
      exact ⟨v, σ', h4, fun K' h' => h2 (fun v σ => wCks cks (E.put d v) σ (K' v σ)) (wCks_iff.2 ⟨h3, h'⟩)⟩
    obtain ⟨v, σ', h1, h2⟩ := gE_one hF _ (h : gE (gB g E) (fun K => wE (WF tab) e E σ fun v σ => wCks cks (E.put d v) σ (K v σ)) σ fun v σ => K (E.put d v) σ)
    exact ⟨_, _, h1, fun K' h' => h2 (fun v σ => K' (E.put d v) σ) h'⟩
theorem wDs_one (base : Pos) : ∀ (l : List DOp) (E : En) (σ : S), One2 (wDs (WF tab) base l E σ)
  | [], E, σ, K, h => ⟨E, σ, h, fun K' h' => h'⟩
  | o :: l, E, σ, K, h => by
    obtain ⟨E1, σ1, h1, h2⟩ := wD_one base o E σ _ (h : wD (WF tab) base o E σ fun E σ => wDs (WF tab) base l E σ K)
    obtain ⟨E2, σ2, h3, h4⟩ := wDs_one base l E1 σ1 K h1
    exact ⟨E2, σ2, h3, fun K' h' => h2 (fun E σ => wDs (WF tab) base l E σ K') (h4 K' h')⟩
theorem wC_one : ∀ (c : PC) (E : En) (σ : S) (K : KW), wC (WF tab) c E σ K → ∃ e E' σ', K e E' σ' ∧ ∀ K' : KW, K' e E' σ' → wC (WF tab) c E σ K' := by
  intro c
  induction c with
  | skip => intro E σ K h; exact ⟨_, _, _, h, fun K' h' => h'⟩
  | exit id => intro E σ K h; exact ⟨_, _, _, h, fun K' h' => h'⟩
  | ret => intro E σ K h; exact ⟨_, _, _, h, fun K' h' => h'⟩
  | ops l =>
    intro E σ K h
    obtain ⟨E1, σ1, h1, h2⟩ := wOps_one l E σ _ h
    exact ⟨_, _, _, h1, fun K' h' => h2 (K' .normal) h'⟩
  | draw n l =>
    intro E σ K h
    obtain ⟨E1, σ1, h1, h2⟩ := wDs_one σ.next l E (σ.bumpT n) _ h
    exact ⟨_, _, _, h1, fun K' h' => h2 (K' .normal) h'⟩
  | seq a b iha ihb =>
    intro E σ K h
    obtain ⟨e, E1, σ1, h1, h2⟩ := iha E σ _ h
    cases e with
    | normal =>
      obtain ⟨e', E2, σ2, h3, h4⟩ := ihb E1 σ1 K h1
      exact ⟨e', E2, σ2, h3, fun K' h' => h2 (seqK (wC (WF tab) b) K') (h4 K' h')⟩
    | exit i => exact ⟨_, _, _, h1, fun K' h' => h2 (seqK (wC (WF tab) b) K') h'⟩
    | ret => exact ⟨_, _, _, h1, fun K' h' => h2 (seqK (wC (WF tab) b) K') h'⟩
  | cond x a b iha ihb =>
    intro E σ K h
    have h : WIf (x.vl E) (wC (WF tab) a E σ K) (wC (WF tab) b E σ K) := h
    show ∃ e E' σ', K e E' σ' ∧ ∀ K' : KW, K' e E' σ' → WIf (x.vl E) (wC (WF tab) a E σ K') (wC (WF tab) b E σ K')
    cases hx : x.vl E with
    | bool t =>
      rw [hx] at h
      cases t with
      | true => exact iha E σ K h
      | false => exact ihb E σ K h
    | _ => rw [hx] at h; exact h.elim
  | block id c ih =>
    intro E σ K h
    obtain ⟨e, E1, σ1, h1, h2⟩ := ih E σ _ h
    cases e with
    | normal => exact ⟨_, _, _, h1, fun K' h' => h2 (blockK id K') h'⟩
    | ret => exact ⟨_, _, _, h1, fun K' h' => h2 (blockK id K') h'⟩
    | exit i =>
      have h1 : (match Nat.beq i id with | true => K .normal E1 σ1 | false => K (.exit i) E1 σ1) := h1
      cases hi : Nat.beq i id with
      | true =>
        simp only [hi] at h1
        exact ⟨_, _, _, h1, fun K' h' => h2 (blockK id K') (by simp only [blockK, hi]; exact h')⟩
      | false =>
        simp only [hi] at h1
        exact ⟨_, _, _, h1, fun K' h' => h2 (blockK id K') (by simp only [blockK, hi]; exact h')⟩
  | loop c ih =>
    intro E σ K h
    obtain ⟨n, h⟩ := (h : ∃ n, wIter (wC (WF tab) c) n E σ K)
    suffices hs : ∃ e E' σ', K e E' σ' ∧ ∀ K' : KW, K' e E' σ' → wIter (wC (WF tab) c) n E σ K' by
      obtain ⟨e, E', σ', h1, h2⟩ := hs
      exact ⟨e, E', σ', h1, fun K' h' => ⟨n, h2 K' h'⟩⟩
    induction n generalizing E σ with
    | zero => exact h.elim
    | succ n ihn =>
      obtain ⟨e, E1, σ1, h1, h2⟩ := ih E σ _ h
      cases e with
      | normal =>
        obtain ⟨e', E2, σ2, h3, h4⟩ := ihn E1 σ1 h1
        exact ⟨e', E2, σ2, h3, fun K' h' => h2 _ (h4 K' h')⟩
      | exit i => exact ⟨_, _, _, h1, fun K' h' => h2 _ h'⟩
      | ret => exact ⟨_, _, _, h1, fun K' h' => h2 _ h'⟩
theorem wLoop_step {c : PC} {E : En} {σ : S} {K : KW} (h : wC (WF tab) c E σ (loopK (WF tab) c K)) : wC (WF tab) (.loop c) E σ K := by
  obtain ⟨e, E1, σ1, h1, h2⟩ := wC_one c E σ _ h
  cases e with
  | normal =>
    obtain ⟨n, h1⟩ := (h1 : ∃ n, wIter (wC (WF tab) c) n E1 σ1 K)
    exact ⟨n + 1, h2 _ h1⟩
  | exit i => exact ⟨1, h2 _ h1⟩
  | ret => exact ⟨1, h2 _ h1⟩
theorem wFn_sound {f : Nat} {fn : PFn} (hf : tab f = some fn) {args : List AVal} {σ : S} {Q : AVal → S → Prop} (h : wFn (WF tab) fn args σ Q) : WF tab f args σ Q := by
  suffices hs : ∃ v σ', Q v σ' ∧ Evn (fun m => runF (evalF tab m) m fn args σ) (v, σ') by
    obtain ⟨v, σ', h1, n, h2⟩ := hs
    refine ⟨v, σ', h1, n + 1, fun m hm => ?_⟩
    obtain ⟨m, rfl⟩ : ∃ i, m = i + 1 := ⟨m - 1, by omega⟩
    rw [evalF_succ, hf]
    exact h2 m (by omega)
  cases fn with
  | keys off =>
    obtain ⟨v, σ', h1, h2⟩ := Eff_iff.1 h
    exact ⟨v, σ', h2, .of fun m => h1⟩
  | host k =>
    obtain ⟨v, σ', h1, h2⟩ := Eff_iff.1 h
    exact ⟨v, σ', h2, .of fun m => h1⟩
  | code slots body res =>
    simp only [wFn] at h
    split at h
    · rename_i E hE
      obtain ⟨T, hT, hk⟩ := enter_T TE.start hE
      obtain ⟨e, T1, E1, σ1, hT1, h1, e1⟩ := wC_sound body hT h
      have fin : ∀ {Q' : AVal → S → Prop}, Ret (resVs E1 σ1 res) σ1 Q' → e ≠ .exit 0 → (∀ i, e ≠ .exit i) → ∃ v σ', Q' v σ' ∧ Evn (fun m => runF (evalF tab m) m (.code slots body res) args σ) (v, σ') := by
        intro Q' hr _ he
        obtain ⟨vs, v, r1, r2, r3⟩ := Ret_of hr
        refine ⟨v, σ1, r3, ?_⟩
        have hl : leave res T1 σ1 = some (v, σ1) := by unfold leave; rw [hT1.resAll, r1]; exact r2
        show Evn (fun m => enterK args slots Ts.empty fun T => andThen (evalC (evalF tab m) m body T σ) fun x => match x with
          | (e, T, σ) => match e with
            | .normal => leave res T σ
            | .ret => leave res T σ
            | .exit _ => none) _
        simp only [hk]
        refine Evn.then (G := fun _ x => match x with
          | (e, T, σ) => match e with
            | .normal => leave res T σ
            | .ret => leave res T σ
            | .exit _ => none) e1 (.of fun m => ?_)
        cases e with
        | normal => exact hl
        | ret => exact hl
        | exit i => exact absurd rfl (he i)
      cases e with
      | normal => exact fin h1 (by simp) (by simp)
      | ret => exact fin h1 (by simp) (by simp)
      | exit i => exact h1.elim
    · exact h.elim
end
end Go.Am
