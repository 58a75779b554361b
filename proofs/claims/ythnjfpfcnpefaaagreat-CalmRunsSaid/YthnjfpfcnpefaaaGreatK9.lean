/-
  Structs and arrays compared; and all operations that change nothing, in one word. Conditions: none.
-/
import Derived.Test.YthnjfpfcnpefaaaGreatK8
namespace Go.Am
section
variable {P : Program} {w0 w : World} {m : Mp} {σ : S} {T : Tm} {a : Act} {v : AVal} {dst : Option Tmp} {type : TypeId} {pos : String} {after : Array Edge} {guard : Option (Nat × Bool)}
theorem lenC_eq (l : List CK) : lenC l = l.length := by induction l <;> simp [lenC, *]
theorem eqCells_append {cs ds : List CK} {xs ys : List AVal} {r : Bool} (h : eqCells (cs ++ ds) xs ys = some r) :
    ∃ q, eqCells cs (xs.take cs.length) (ys.take cs.length) = some q ∧ (q = false → r = false) ∧ (q = true → eqCells ds (xs.drop cs.length) (ys.drop cs.length) = some r) := by
  induction cs generalizing xs ys with
  | nil => exact ⟨true, rfl, (fun h => by cases h), (fun _ => by simpa using h)⟩
  | cons c cs ih =>
    cases xs with
    | nil => simp [eqCells] at h
    | cons x xs => cases ys with
      | nil => simp [eqCells] at h
      | cons y ys =>
        simp only [List.cons_append, eqCells] at h
        obtain ⟨b, hb, h⟩ := andThen_eq.1 h
        cases b with
        | true =>
          obtain ⟨q, h1, h2, h3⟩ := ih h
          exact ⟨q, by simp only [List.length_cons, List.take_succ_cons, eqCells, hb, andThen_some]; exact h1, h2, by simpa using h3⟩
        | false =>
          cases h
          exact ⟨false, by simp only [List.length_cons, List.take_succ_cons, eqCells, hb, andThen_some], (fun _ => rfl), (fun h => by cases h)⟩
theorem bytes_beq {s t : ByteArray} : (s == t) = true ↔ s = t := by
  cases s with | mk x => cases t with | mk y =>
    constructor
    · intro h; have h' : (x == y) = true := h; rw [beq_iff_eq] at h'; rw [h']
    · intro h; cases h; show (x == x) = true; exact beq_self_eq_true x
/-- What is compared at a type. -/
def EqIn (P : Program) (w : World) (m : Mp) (D : Nat) (t : TypeId) (cs : List CK) : Prop :=
  ∀ (xs ys : List AVal) (x y : Value) (r : Bool), SRs m xs x.cells.toList → SRs m ys y.cells.toList → xs.length = cs.length → ys.length = cs.length →
    (isAggB P t = true → ∃ xa ya, x = .agg xa ∧ y = .agg ya) → (isAggB P t = false → x.oneCell' = true ∧ y.oneCell' = true) → eqCells cs xs ys = some r → (Op.equalIn D t x y).run P w = .ok r w
theorem one_of {x : Value} (h : x.oneCell' = true) : x.cells = #[x] := by cases x <;> first | rfl | (simp [Value.oneCell'] at h)
theorem eqIn_scalar {D : Nat} {t : TypeId} {c : CK} (hc : match c with | .b => P.underlying t = some .bool | .i => ∃ k, P.underlying t = some (.int k) | .s => P.underlying t = some .string) :
    EqIn P w m (D + 1) t [c] := by
  intro xs ys x y r hx hy _ _ _ hn h
  have hag : isAggB P t = false := by
    unfold isAggB; cases c <;> simp only at hc
    · rw [hc]
    · obtain ⟨k, hc⟩ := hc; rw [hc]
    · rw [hc]
  obtain ⟨o1, o2⟩ := hn hag
  rw [one_of o1] at hx; rw [one_of o2] at hy
  cases hx with | cons u _ _ _ hu hu' => cases hu'; cases hy with | cons z _ _ _ hz hz' =>
    cases hz'
    simp only [eqCells] at h
    obtain ⟨b, hb, h⟩ := andThen_eq.1 h
    have hbr : b = r := by cases b <;> (cases h; rfl)
    subst hbr
    unfold eq1 at hb
    unfold Op.equalIn
    cases c with
    | b =>
      simp only at hb hc
      split at hb
      · split at hb
        · cases hb; cases hu; cases hz
          simp only [Sem.run_bind, run_underlying hc, Result.andThen_ok, beqB_eq]; rfl
        · cases hb
      · cases hb
    | i =>
      simp only at hb hc
      obtain ⟨k', hc⟩ := hc
      split at hb
      · split at hb
        · obtain ⟨hk, hb⟩ := test_eq.1 hb
          cases hb
          have hk := keq_iff.1 hk; subst hk
          cases hu; cases hz
          simp only [Sem.run_bind, run_underlying hc, Result.andThen_ok, if_true, ieq_eq]; rfl
        · cases hb
      · cases hb
    | s =>
      simp only at hb hc
      split at hb
      · split at hb
        · cases hb; cases hu with | str _ s hs => cases hz with | str _ s' hs' =>
            subst hs; subst hs'
            simp only [Sem.run_bind, run_underlying hc, Result.andThen_ok]
            show Result.ok (s == s') w = _
            congr 1
            rw [Bool.eq_iff_iff, seq_iff]
            rw [bytes_beq]
            exact ⟨fun h => by rw [h], fun h => str_inj h⟩
        · cases hb
      · cases hb
/-- One part of two. -/
theorem part_eq {D off n : Nat} {t : TypeId} {cs : List CK} {xs ys : List AVal} {xa ya : Array Value} {r : Bool} (hu : (P.underlying t).isSome = true) (hn : csize P t = some n) (hcs : n = cs.length)
    (h1 : isAggB P t = false → n = 1) (hE : EqIn P w m D t cs) (hx : SRs m xs xa.toList) (hy : SRs m ys ya.toList) (lx : off + n ≤ xs.length) (ly : off + n ≤ ys.length)
    (h : eqCells cs ((xs.drop off).take n) ((ys.drop off).take n) = some r) :
    (do Op.equalIn D t (← part t xa off) (← part t ya off) : Sem Bool).run P w = .ok r w := by
  have l1 := hx.length; have l2 := hy.length
  simp at l1 l2
  unfold part
  cases ha : isAggB P t with
  | true =>
    have hx' := (hx.drop off).take n
    have hy' := (hy.drop off).take n
    have e1 : (Value.agg (xa.extract off (off + n))).cells.toList = (xa.toList.drop off).take n := by
      show (xa.extract off (off + n)).toList = _
      rw [Array.toList_extract, List.extract_eq_take_drop, Nat.add_sub_cancel_left]
    have e2 : (Value.agg (ya.extract off (off + n))).cells.toList = (ya.toList.drop off).take n := by
      show (ya.extract off (off + n)).toList = _
      rw [Array.toList_extract, List.extract_eq_take_drop, Nat.add_sub_cancel_left]
    have := hE _ _ (.agg (xa.extract off (off + n))) (.agg (ya.extract off (off + n))) r (by rw [e1]; exact hx') (by rw [e2]; exact hy') (by simp; omega) (by simp; omega)
      (fun _ => ⟨_, _, rfl, rfl⟩) (fun h => by rw [ha] at h; cases h) h
    simp [isAggB_run t hu, ha, sizeOf_run hn, this]
  | false =>
    have hn1 := h1 ha
    subst hn1
    have ix : off < xs.length := by omega
    have iy : off < ys.length := by omega
    obtain ⟨x, hx1, hx2⟩ := hx.get (show xs[off]? = some xs[off] by simp [ix])
    obtain ⟨y, hy1, hy2⟩ := hy.get (show ys[off]? = some ys[off] by simp [iy])
    have ex : xa[off]? = some x := by rw [← Array.getElem?_toList]; exact hx1
    have ey : ya[off]? = some y := by rw [← Array.getElem?_toList]; exact hy1
    have tx : (xs.drop off).take 1 = [xs[off]] := by rw [List.drop_eq_getElem_cons ix]; rfl
    have ty : (ys.drop off).take 1 = [ys[off]] := by rw [List.drop_eq_getElem_cons iy]; rfl
    rw [tx, ty] at h
    have := hE [xs[off]] [ys[off]] x y r (by rw [one_of hx2.oneCell]; exact .cons _ _ _ _ hx2 .nil) (by rw [one_of hy2.oneCell]; exact .cons _ _ _ _ hy2 .nil) (by simp; omega) (by simp; omega)
      (fun h => by rw [ha] at h; cases h) (fun _ => ⟨hx2.oneCell, hy2.oneCell⟩) h
    simp [isAggB_run t hu, ha, ex, ey, this]
/-- One step of the loop over parts. -/
def eqStep (D : Nat) (t : TypeId) (xa ya : Array Value) (off : Nat) : Sem (ForInStep (Option Bool × Unit)) := do
  let u ← part t xa off
  let z ← part t ya off
  let b ← Op.equalIn D t u z
  if (!b) = true then pure (.done (some false, ())) else pure (.yield (none, ()))
theorem eqStep_run {D off : Nat} {t : TypeId} {xa ya : Array Value} {r : Bool} (h : (do Op.equalIn D t (← part t xa off) (← part t ya off) : Sem Bool).run P w = .ok r w) :
    (eqStep D t xa ya off).run P w = .ok (if r then .yield (none, ()) else .done (some false, ())) w := by
  unfold eqStep
  simp only [Sem.run_bind] at h ⊢
  cases h1 : (part t xa off).run P w with
  | halt e w' => rw [h1] at h; cases h
  | ok u w1 =>
    rw [h1] at h
    simp only [Result.andThen_ok] at h ⊢
    cases h2 : (part t ya off).run P w1 with
    | halt e w' => rw [h2] at h; cases h
    | ok z w2 =>
      rw [h2] at h
      simp only [Result.andThen_ok] at h ⊢
      rw [h]
      cases r <;> rfl
def outOf (r : Bool) : Option Bool × Unit := if r then (none, ()) else (some false, ())
theorem fieldsLoop {D : Nat} {xs ys : List AVal} {xa ya : Array Value} (hx : SRs m xs xa.toList) (hy : SRs m ys ya.toList) :
    ∀ (l : List Field) (d o : Nat) (cs : List CK) (r : Bool), flats P (flat P d) l o = some cs → (∀ f ∈ l, ∀ c, flat P d f.type = some c → EqIn P w m D f.type c) →
      o + cs.length = xs.length → o + cs.length = ys.length → eqCells cs (xs.drop o) (ys.drop o) = some r →
      (forIn l (none, ()) (fun (f : Field) (_ : Option Bool × Unit) => if f.name ≠ "_" then eqStep D f.type xa ya f.offset else pure (.yield (none, ()))) : Sem (Option Bool × Unit)).run P w = .ok (outOf r) w
  | [], d, o, cs, r, hf, _, lx, ly, h => by
    simp only [flats] at hf; cases hf
    simp only [eqCells] at h; cases h
    rfl
  | f :: l, d, o, cs, r, hf, hE, lx, ly, h => by
    unfold flats at hf
    split at hf
    · rename_i c s hc hs
      split at hf
      · rename_i hcond
        obtain ⟨hname, hoff, hlen⟩ := hcond
        split at hf
        · rename_i r' hr'
          cases hf
          obtain ⟨q, h1, h2, h3⟩ := eqCells_append h
          simp only [List.length_append] at lx ly
          have hu : (P.underlying f.type).isSome = true := by
            cases d with
            | zero => simp [flat] at hc
            | succ d => unfold flat at hc; cases hh : P.underlying f.type with
              | none => rw [hh] at hc; cases hc
              | some _ => rfl
          have hone : isAggB P f.type = false → s = 1 := by
            intro ha
            cases d with
            | zero => simp [flat] at hc
            | succ d =>
              unfold isAggB at ha; unfold flat at hc
              cases hh : P.underlying f.type with
              | none => rw [hh] at hu; cases hu
              | some dd => rw [hh] at hc ha; cases dd <;> simp only at hc ha <;> first | (cases ha; done) | (cases hc; simpa using hlen) | (cases hc; done)
          have st := eqStep_run (part_eq (P := P) (w := w) (off := f.offset) hu hs hlen hone (hE f List.mem_cons_self c hc) hx hy (by omega) (by omega) (by rw [hoff, hlen]; exact h1))
          simp only [List.forIn_cons, if_pos hname, Sem.run_bind, st, Result.andThen_ok]
          cases q with
          | true =>
            simp only [if_true]
            refine fieldsLoop hx hy l d (o + s) r' r hr' (fun g hg => hE g (List.mem_cons_of_mem _ hg)) (by omega) (by omega) ?_
            have := h3 rfl
            rw [List.drop_drop, List.drop_drop] at this
            rw [hlen]; exact this
          | false => have := h2 rfl; subst this; rfl
        · cases hf
      · cases hf
    · cases hf
theorem repC_succ (n : Nat) (l : List CK) : repC (n + 1) l = l ++ repC n l := rfl
theorem repC_length (n : Nat) (l : List CK) : (repC n l).length = n * l.length := by
  induction n with
  | zero => simp [repC]
  | succ n ih => rw [repC_succ, List.length_append, ih, Nat.succ_mul]; omega
theorem arrayLoop {D s : Nat} {e : TypeId} {c : List CK} {xs ys : List AVal} {xa ya : Array Value} (hu : (P.underlying e).isSome = true) (hs : csize P e = some s) (hlen : s = c.length)
    (hone : isAggB P e = false → s = 1) (hE : EqIn P w m D e c) (hx : SRs m xs xa.toList) (hy : SRs m ys ya.toList) :
    ∀ (n k : Nat) (r : Bool), k * s + n * s ≤ xs.length → k * s + n * s ≤ ys.length → eqCells (repC n c) (xs.drop (k * s)) (ys.drop (k * s)) = some r →
      (forIn (List.range' k n) (none, ()) (fun (i : Nat) (_ : Option Bool × Unit) => eqStep D e xa ya (i * s)) : Sem (Option Bool × Unit)).run P w = .ok (outOf r) w
  | 0, k, r, lx, ly, h => by
    simp only [repC, eqCells] at h; cases h
    rfl
  | n + 1, k, r, lx, ly, h => by
    rw [repC_succ] at h
    obtain ⟨q, h1, h2, h3⟩ := eqCells_append h
    have e1 : (n + 1) * s = s + n * s := by rw [Nat.succ_mul]; omega
    have st := eqStep_run (part_eq (P := P) (w := w) (off := k * s) hu hs hlen hone hE hx hy (by omega) (by omega) (by rw [hlen] at h1 ⊢; exact h1))
    simp only [List.range'_succ, List.forIn_cons, Sem.run_bind, st, Result.andThen_ok]
    cases q with
    | true =>
      simp only [if_true]
      have e2 : (k + 1) * s = k * s + s := Nat.succ_mul k s
      refine arrayLoop hu hs hlen hone hE hx hy n (k + 1) r (by omega) (by omega) ?_
      have := h3 rfl
      rw [List.drop_drop, List.drop_drop] at this
      rw [e2, hlen]; rw [hlen] at this; exact this
    | false => have := h2 rfl; subst this; rfl
theorem flat_ok : ∀ (d D : Nat) (t : TypeId) (cs : List CK), flat P d t = some cs → d ≤ D → EqIn P w m D t cs
  | 0, D, t, cs, h, _ => by simp [flat] at h
  | d + 1, 0, t, cs, h, hD => by omega
  | d + 1, D + 1, t, cs, h, hD => by
    unfold flat at h
    split at h
    · rename_i hu; cases h; exact eqIn_scalar hu
    · rename_i k hu; cases h; exact eqIn_scalar ⟨k, hu⟩
    · rename_i hu; cases h; exact eqIn_scalar hu
    · rename_i fs hu
      split at h
      · cases h
      · rename_i hst
        intro xs ys x y r hx hy lx ly hag _ he
        obtain ⟨xa, ya, rfl, rfl⟩ := hag (by unfold isAggB; rw [hu])
        have ih : ∀ f ∈ fs.toList, ∀ c, flat P d f.type = some c → EqIn P w m D f.type c := fun f _ c hc => flat_ok d D f.type c hc (by omega)
        have := fieldsLoop (P := P) (w := w) (D := D) (xa := xa) (ya := ya) hx hy fs.toList d 0 cs r h ih (by omega) (by omega) (by simpa using he)
        unfold Op.equalIn
        simp only [Sem.run_bind, run_underlying hu, Result.andThen_ok, run_program, hst, if_false, Bool.false_eq_true]
        rw [← Array.forIn_toList]
        show ((Sem.run P (forIn fs.toList (none, ()) (fun (f : Field) (_ : Option Bool × Unit) => if f.name ≠ "_" then eqStep D f.type xa ya f.offset else pure (.yield (none, ())))) w).andThen _) = _
        rw [this]
        cases r <;> rfl
    · rename_i n e hu
      split at h
      · rename_i l s hl hs
        split at h
        · rename_i hsl
          cases h
          intro xs ys x y r hx hy lx ly hag _ he
          obtain ⟨xa, ya, rfl, rfl⟩ := hag (by unfold isAggB; rw [hu])
          have hu' : (P.underlying e).isSome = true := by
            cases d with
            | zero => simp [flat] at hl
            | succ d => unfold flat at hl; cases hh : P.underlying e with
              | none => rw [hh] at hl; cases hl
              | some _ => rfl
          have hone : isAggB P e = false → s = 1 := by
            intro ha
            cases d with
            | zero => simp [flat] at hl
            | succ d =>
              unfold isAggB at ha; unfold flat at hl
              cases hh : P.underlying e with
              | none => rw [hh] at hu'; cases hu'
              | some dd => rw [hh] at hl ha; cases dd <;> simp only at hl ha <;> first | (cases ha; done) | (cases hl; simpa using hsl) | (cases hl; done)
          rw [repC_length] at lx ly
          have := arrayLoop (P := P) (w := w) (xa := xa) (ya := ya) hu' hs hsl hone (flat_ok d D e l hl (by omega)) hx hy n 0 r (by rw [hsl]; omega) (by rw [hsl]; omega) (by simpa using he)
          unfold Op.equalIn
          simp only [Sem.run_bind, run_underlying hu, Result.andThen_ok, sizeOf_run hs]
          rw [Std.Legacy.Range.forIn_eq_forIn_range']
          have e0 : List.range' [:n].start [:n].size [:n].step = List.range' 0 n := by simp [Std.Legacy.Range.size]
          rw [e0]
          show ((Sem.run P (forIn (List.range' 0 n) (none, ()) (fun (i : Nat) (_ : Option Bool × Unit) => eqStep D e xa ya (i * s))) w).andThen _) = _
          rw [this]
          cases r <;> rfl
        · cases h
      · cases h
    · cases h
theorem sim_eqAgg {op : BinOp} {neg : Bool} {t yt : TypeId} {cs : List CK} {x y : Operand} {x' y' : Opd} (hop : op = if neg then .neq else .eql) (ha : isAggB P t = true) (hg : P.eqGuardType P.depth t = false)
    (hf : flat P 20 t = some cs) (hT : TR m T a.tmps) (hx : copd x = some x') (hy : copd y = some y') (hv : qEqAgg cs neg x' y' T σ = some v) :
    QRuns P a.eval ⟨dst, .binOp op t x y yt, type, pos, after, guard⟩ w m v := by
  have hx' := copd_ok hT hx
  have hy' := copd_ok hT hy
  unfold qEqAgg vEqAgg at hv
  split at hv
  · rename_i xs hn1
    split at hv
    · rename_i ys hn2
      rw [hn1] at hx'; rw [hn2] at hy'
      obtain ⟨xa, e1, s1⟩ := hx'.agg
      obtain ⟨ya, e2, s2⟩ := hy'.agg
      obtain ⟨l1, hv⟩ := test_eq.1 hv
      obtain ⟨l2, hv⟩ := test_eq.1 hv
      have l1 := Nat.eq_of_beq_eq_true l1
      have l2 := Nat.eq_of_beq_eq_true l2
      rw [lenN_eq, lenC_eq] at l1 l2
      obtain ⟨r, hr, hv⟩ := andThen_eq.1 hv
      have run : (Op.equal t (.agg xa) (.agg ya)).run P w = .ok r w :=
        flat_ok 20 10000 t cs hf (by omega) xs ys (.agg xa) (.agg ya) r s1 s2 l1 l2 (fun _ => ⟨_, _, rfl, rfl⟩) (fun h => by rw [ha] at h; cases h) hr
      have gd : ∀ op, (eqGuard op t x y (.agg xa) (.agg ya)).run P w = .ok () w := by
        intro op
        unfold eqGuard
        cases op <;> simp [hg]
      cases neg with
      | true =>
        simp only at hv
        rw [outB_eq, notB_eq] at hv; cases hv
        subst hop
        refine ⟨.bool (!r), ?_, (SR.bool _).vr⟩
        have hb : (binOp .neq t (.agg xa) (.agg ya)) = (do pure (.bool (!(← Op.equal t (.agg xa) (.agg ya))))) := rfl
        simp only [execOp, e1, e2, if_true, Sem.run_bind, gd, Result.andThen_ok, hb, run, Sem.run_pure]
      | false =>
        simp only at hv
        rw [outB_eq] at hv; cases hv
        subst hop
        refine ⟨.bool r, ?_, (SR.bool _).vr⟩
        have hb : (binOp .eql t (.agg xa) (.agg ya)) = (do pure (.bool (← Op.equal t (.agg xa) (.agg ya)))) := rfl
        simp only [execOp, e1, e2, Bool.false_eq_true, if_false, Sem.run_bind, gd, Result.andThen_ok, hb, run, Sem.run_pure]
    · cases hv
  · cases hv
/-! Keys of maps. -/
/-- What keys of a type are checked for. -/
def CheckIn (P : Program) (w : World) (m : Mp) (D : Nat) (t : TypeId) (cs : List CK) : Prop :=
  ∀ (e : Bool) (xs : List AVal) (x : Value), SRs m xs x.cells.toList → xs.length = cs.length → (isAggB P t = true → ∃ xa, x = .agg xa) → (Instr.checkKey e D t x).run P w = .ok () w
theorem part_run {off n : Nat} {t : TypeId} {xs : List AVal} {xa : Array Value} (hu : (P.underlying t).isSome = true) (hn : csize P t = some n) (h1 : isAggB P t = false → n = 1) (hx : SRs m xs xa.toList) (lx : off + n ≤ xs.length) :
    ∃ y, (part t xa off).run P w = .ok y w ∧ SRs m ((xs.drop off).take n) y.cells.toList ∧ (isAggB P t = true → ∃ ya, y = .agg ya) := by
  have l1 := hx.length
  simp at l1
  unfold part
  cases ha : isAggB P t with
  | true =>
    refine ⟨.agg (xa.extract off (off + n)), by simp [isAggB_run t hu, ha, sizeOf_run hn], ?_, fun _ => ⟨_, rfl⟩⟩
    have e1 : (Value.agg (xa.extract off (off + n))).cells.toList = (xa.toList.drop off).take n := by
      show (xa.extract off (off + n)).toList = _
      rw [Array.toList_extract, List.extract_eq_take_drop, Nat.add_sub_cancel_left]
    rw [e1]; exact (hx.drop off).take n
  | false =>
    have hn1 := h1 ha
    subst hn1
    have ix : off < xs.length := by omega
    obtain ⟨x, hx1, hx2⟩ := hx.get (show xs[off]? = some xs[off] by simp [ix])
    have ex : xa[off]? = some x := by rw [← Array.getElem?_toList]; exact hx1
    refine ⟨x, by simp [isAggB_run t hu, ha, ex], ?_, fun h => by cases h⟩
    have tx : (xs.drop off).take 1 = [xs[off]] := by rw [List.drop_eq_getElem_cons ix]; rfl
    rw [tx, one_of hx2.oneCell]; exact .cons _ _ _ _ hx2 .nil
theorem flat_some {d : Nat} {t : TypeId} {cs : List CK} (h : flat P d t = some cs) : (P.underlying t).isSome = true := by
  cases d with
  | zero => simp [flat] at h
  | succ d => unfold flat at h; cases hh : P.underlying t with
    | none => rw [hh] at h; cases h
    | some _ => rfl
theorem flat_one {d : Nat} {t : TypeId} {cs : List CK} (h : flat P d t = some cs) (ha : isAggB P t = false) : cs.length = 1 := by
  cases d with
  | zero => simp [flat] at h
  | succ d =>
    unfold isAggB at ha; unfold flat at h
    cases hh : P.underlying t with
    | none => rw [hh] at h; cases h
    | some dd => rw [hh] at h ha; cases dd <;> simp only at h ha <;> first | (cases ha; done) | (cases h; rfl) | (cases h; done)
theorem checkFields {D : Nat} {e : Bool} {xs : List AVal} {xa : Array Value} (hx : SRs m xs xa.toList) :
    ∀ (l : List Field) (d o : Nat) (cs : List CK), flats P (flat P d) l o = some cs → (∀ f ∈ l, ∀ c, flat P d f.type = some c → CheckIn P w m D f.type c) → o + cs.length ≤ xs.length →
      (forIn l PUnit.unit (fun (f : Field) (_ : PUnit) => (if f.name ≠ "_" then do Instr.checkKey e D f.type (← part f.type xa f.offset); pure (ForInStep.yield PUnit.unit) else pure (ForInStep.yield PUnit.unit) : Sem (ForInStep PUnit))) : Sem PUnit).run P w = .ok PUnit.unit w
  | [], d, o, cs, hf, _, lx => rfl
  | f :: l, d, o, cs, hf, hE, lx => by
    unfold flats at hf
    split at hf
    · rename_i c s hc hs
      split at hf
      · rename_i hcond
        obtain ⟨hname, hoff, hlen⟩ := hcond
        split at hf
        · rename_i r' hr'
          cases hf
          simp only [List.length_append] at lx
          have hu := flat_some hc
          have hone : isAggB P f.type = false → s = 1 := fun ha => by rw [hlen]; exact flat_one hc ha
          obtain ⟨y, h1, h2, h3⟩ := part_run (P := P) (w := w) (off := f.offset) hu hs hone hx (by omega)
          have h4 := hE f List.mem_cons_self c hc e _ y h2 (by simp; omega) h3
          simp only [List.forIn_cons, if_pos hname, Sem.run_bind, h1, h4, Result.andThen_ok, Sem.run_pure]
          exact checkFields hx l d (o + s) r' hr' (fun g hg => hE g (List.mem_cons_of_mem _ hg)) (by omega)
        · cases hf
      · cases hf
    · cases hf
theorem checkArray {D s : Nat} {e : Bool} {t : TypeId} {c : List CK} {xs : List AVal} {xa : Array Value} (hu : (P.underlying t).isSome = true) (hs : csize P t = some s) (hlen : s = c.length)
    (hone : isAggB P t = false → s = 1) (hE : CheckIn P w m D t c) (hx : SRs m xs xa.toList) :
    ∀ (n k : Nat), k * s + n * s ≤ xs.length →
      (forIn (List.range' k n) PUnit.unit (fun (i : Nat) (_ : PUnit) => (do Instr.checkKey e D t (← part t xa (i * (← sizeOf t))); pure (ForInStep.yield PUnit.unit) : Sem (ForInStep PUnit))) : Sem PUnit).run P w = .ok PUnit.unit w
  | 0, k, lx => rfl
  | n + 1, k, lx => by
    have e1 : (n + 1) * s = s + n * s := by rw [Nat.succ_mul]; omega
    have e2 : (k + 1) * s = k * s + s := Nat.succ_mul k s
    obtain ⟨y, h1, h2, h3⟩ := part_run (P := P) (w := w) (off := k * s) hu hs hone hx (by omega)
    have h4 := hE e _ y h2 (by simp; omega) h3
    simp only [List.range'_succ, List.forIn_cons, Sem.run_bind, sizeOf_run hs, h1, h4, Result.andThen_ok, Sem.run_pure]
    exact checkArray hu hs hlen hone hE hx n (k + 1) (by omega)
theorem check_ok : ∀ (d D : Nat) (t : TypeId) (cs : List CK), flat P d t = some cs → d ≤ D → CheckIn P w m D t cs
  | 0, D, t, cs, h, _ => by simp [flat] at h
  | d + 1, 0, t, cs, h, hD => by omega
  | d + 1, D + 1, t, cs, h, hD => by
    unfold flat at h
    split at h
    · rename_i hu; intro e xs x _ _ _; unfold Instr.checkKey; simp only [Sem.run_bind, run_underlying hu, Result.andThen_ok]; rfl
    · rename_i k hu; intro e xs x _ _ _; unfold Instr.checkKey; simp only [Sem.run_bind, run_underlying hu, Result.andThen_ok]; rfl
    · rename_i hu; intro e xs x _ _ _; unfold Instr.checkKey; simp only [Sem.run_bind, run_underlying hu, Result.andThen_ok]; rfl
    · rename_i fs hu
      split at h
      · cases h
      · intro e xs x hx lx hag
        obtain ⟨xa, rfl⟩ := hag (by unfold isAggB; rw [hu])
        have ih : ∀ f ∈ fs.toList, ∀ c, flat P d f.type = some c → CheckIn P w m D f.type c := fun f _ c hc => check_ok d D f.type c hc (by omega)
        have := checkFields (P := P) (w := w) (D := D) (e := e) (xa := xa) hx fs.toList d 0 cs h ih (by omega)
        unfold Instr.checkKey
        simp only [Sem.run_bind, run_underlying hu, Result.andThen_ok]
        rw [← Array.forIn_toList]
        rw [this]; rfl
    · rename_i n e' hu
      split at h
      · rename_i l s hl hs
        split at h
        · rename_i hsl
          cases h
          intro e xs x hx lx hag
          obtain ⟨xa, rfl⟩ := hag (by unfold isAggB; rw [hu])
          rw [repC_length] at lx
          have := checkArray (P := P) (w := w) (e := e) (xa := xa) (flat_some hl) hs hsl (fun ha => by rw [hsl]; exact flat_one hl ha) (check_ok d D e' l hl (by omega)) hx n 0 (by rw [hsl]; omega)
          unfold Instr.checkKey
          simp only [Sem.run_bind, run_underlying hu, Result.andThen_ok]
          rw [Std.Legacy.Range.forIn_eq_forIn_range']
          have e0 : List.range' [:n].start [:n].size [:n].step = List.range' 0 n := by simp [Std.Legacy.Range.size]
          rw [e0]
          rw [this]; rfl
        · cases h
      · cases h
    · cases h
/-- A key of the right shape. -/
theorem keyShape_ok {kt : TypeId} {cs : List CK} {k : AVal} {x : Value} (hf : flat P 20 kt = some cs) (h : keyShape (isAggB P kt) cs k = true) (hx : VR m k x) :
    V1 m k x ∧ ∀ e, (Instr.checkKey e 10000 kt x).run P w = .ok () w := by
  have hv : V1 m k x := by
    cases hx with
    | v1 _ _ h => exact h
    | tup _ _ _ => cases h
  refine ⟨hv, fun e => ?_⟩
  obtain ⟨xs, h1, h2⟩ := hv.cells
  refine check_ok 20 10000 kt cs hf (by omega) e xs x h2 ?_ ?_
  · cases hv with
    | one _ _ hs =>
      rw [hs.cellsOf] at h1; cases h1
      have ha : isAggB P kt = false := by
        cases ha : isAggB P kt with
        | false => rfl
        | true => rw [ha] at h; cases hs <;> cases h
      rw [flat_one hf ha]; rfl
    | agg ys _ hs =>
      cases h1
      unfold keyShape at h
      cases ha : isAggB P kt with
      | false => rw [ha] at h; cases h
      | true =>
        rw [ha] at h
        have := Nat.eq_of_beq_eq_true h
        rwa [lenN_eq, lenC_eq] at this
  · intro ha
    cases hv with
    | one _ _ hs => rw [ha] at h; cases hs <;> cases h
    | agg _ ya _ => exact ⟨ya, rfl⟩
theorem eqCells_one {c : CK} {x y : AVal} {r : Bool} (h : eq1 c x y = some r) : eqCells [c] [x] [y] = some r := by
  simp only [eqCells, h, andThen_some]; cases r <;> rfl
theorem keyEq_one {cs : List CK} {x y : AVal} {r : Bool} (h : keyEq false cs x y = some r) : ∃ c, cs = [c] ∧ eq1 c x y = some r := by
  unfold keyEq at h
  simp only at h
  split at h
  · cases h
  · split at h
    · exact ⟨_, rfl, h⟩
    · cases h
theorem keyEq_agg {cs : List CK} {x y : AVal} {r : Bool} (h : keyEq true cs x y = some r) : ∃ xs ys, x = .agg xs ∧ y = .agg ys ∧ xs.length = cs.length ∧ ys.length = cs.length ∧ eqCells cs xs ys = some r := by
  unfold keyEq at h
  simp only at h
  split at h
  · rename_i xs
    split at h
    · rename_i ys
      obtain ⟨l1, h⟩ := test_eq.1 h
      obtain ⟨l2, h⟩ := test_eq.1 h
      have l1 := Nat.eq_of_beq_eq_true l1
      have l2 := Nat.eq_of_beq_eq_true l2
      rw [lenN_eq, lenC_eq] at l1 l2
      exact ⟨xs, ys, rfl, rfl, l1, l2, h⟩
    · cases h
  · cases h
theorem V1.aggV {xs : List AVal} {x : Value} (h : V1 m (.agg xs) x) : ∃ ys, x = .agg ys ∧ SRs m xs ys.toList := by
  cases h with
  | one _ _ h => cases h
  | agg _ ys h => exact ⟨ys, rfl, h⟩
theorem eq1_one {c : CK} {x y : AVal} {r : Bool} (h : eq1 c x y = some r) {u z : Value} (hu : V1 m x u) (hz : V1 m y z) : SR m x u ∧ SR m y z := by
  unfold eq1 at h
  cases c <;> simp only at h <;> (split at h <;> first | (cases h; done) | skip) <;> (split at h <;> first | (cases h; done) | skip) <;>
    (cases hu with | one _ _ hu => cases hz with | one _ _ hz => exact ⟨hu, hz⟩)
/-- Two keys held against each other. -/
theorem keyEq_run {kt : TypeId} {cs : List CK} {k k' : AVal} {x y : Value} {r : Bool} (hf : flat P 20 kt = some cs) (h : keyEq (isAggB P kt) cs k k' = some r) (hx : V1 m k x) (hy : V1 m k' y) : (Op.equal kt x y).run P w = .ok r w := by
  cases ha : isAggB P kt with
  | true =>
    rw [ha] at h
    obtain ⟨xs, ys, rfl, rfl, l1, l2, he⟩ := keyEq_agg h
    obtain ⟨xa, rfl, s1⟩ := hx.aggV
    obtain ⟨ya, rfl, s2⟩ := hy.aggV
    exact flat_ok 20 10000 kt cs hf (by omega) xs ys (.agg xa) (.agg ya) r s1 s2 l1 l2 (fun _ => ⟨_, _, rfl, rfl⟩) (fun h => by rw [ha] at h; cases h) he
  | false =>
    rw [ha] at h
    obtain ⟨c, rfl, he⟩ := keyEq_one h
    obtain ⟨h1, h2⟩ := eq1_one he hx hy
    exact flat_ok 20 10000 kt [c] hf (by omega) [k] [k'] x y r (by rw [one_of h1.oneCell]; exact .cons _ _ _ _ h1 .nil) (by rw [one_of h2.oneCell]; exact .cons _ _ _ _ h2 .nil) rfl rfl
      (fun h => by rw [ha] at h; cases h) (fun _ => ⟨h1.oneCell, h2.oneCell⟩) (eqCells_one he)
theorem eq1_same {c : CK} {x y : AVal} (h : eq1 c x y = some true) : x = y := by
  unfold eq1 at h
  cases c <;> simp only at h <;> (split at h <;> first | (cases h; done) | skip) <;> (split at h <;> first | (cases h; done) | skip)
  · simp only [Option.some.injEq] at h; rw [beqB_eq] at h; rw [beq_iff_eq] at h; rw [h]
  · obtain ⟨h1, h⟩ := test_eq.1 h
    simp only [Option.some.injEq] at h
    rw [keq_iff.1 h1, ieq_iff.1 h]
  · simp only [Option.some.injEq] at h; rw [seq_iff.1 h]
theorem eqCells_same : ∀ {cs : List CK} {xs ys : List AVal}, xs.length = cs.length → ys.length = cs.length → eqCells cs xs ys = some true → xs = ys
  | [], xs, ys, h1, h2, _ => by rw [List.length_eq_zero_iff.1 h1, List.length_eq_zero_iff.1 h2]
  | c :: cs, [], _, h1, _, _ => by simp at h1
  | c :: cs, _ :: _, [], _, h2, _ => by simp at h2
  | c :: cs, x :: xs, y :: ys, h1, h2, h => by
    simp only [eqCells] at h
    obtain ⟨b, hb, h⟩ := andThen_eq.1 h
    cases b with
    | true => rw [eq1_same hb, eqCells_same (by simpa using h1) (by simpa using h2) h]
    | false => cases h
theorem keyEq_same {agg : Bool} {cs : List CK} {k k' : AVal} (h : keyEq agg cs k k' = some true) : k = k' := by
  cases agg with
  | true =>
    obtain ⟨xs, ys, rfl, rfl, l1, l2, he⟩ := keyEq_agg h
    rw [eqCells_same l1 l2 he]
  | false =>
    obtain ⟨c, rfl, he⟩ := keyEq_one h
    exact eq1_same he
/-- Cells that are compared one by one: equal ones are the same to the bit. -/
theorem eq1_bits {c : CK} {x y : AVal} (h : eq1 c x y = some true) {u z : Value} (hu : SR m x u) (hz : SR m y z) (n : Nat) : Instr.sameBits n u z = true ∧ Instr.sameBits n z u = true := by
  have := eq1_same h
  subst this
  unfold eq1 at h
  cases c <;> simp only at h <;> (split at h <;> first | (cases h; done) | skip)
  · cases hu; cases hz; cases n <;> simp [Instr.sameBits]
  · cases hu; cases hz; cases n <;> simp [Instr.sameBits]
  · cases hu with | str _ s hs => cases hz with | str _ s' hs' =>
      have : s = s' := str_inj (by rw [hs, hs'])
      subst this
      cases n <;> simp [Instr.sameBits, bytes_beq]
theorem eqCells_bits (n : Nat) : ∀ {cs : List CK} {xs ys : List AVal} {us zs : List Value}, xs.length = cs.length → ys.length = cs.length → eqCells cs xs ys = some true → SRs m xs us → SRs m ys zs →
    ((us.zip zs).all fun p => Instr.sameBits n p.1 p.2) = true
  | [], xs, ys, us, zs, h1, h2, _, hu, hz => by
    rw [List.length_eq_zero_iff.1 h1] at hu; cases hu; rfl
  | c :: cs, [], _, _, _, h1, _, _, _, _ => by simp at h1
  | c :: cs, _ :: _, [], _, _, _, h2, _, _, _ => by simp at h2
  | c :: cs, x :: xs, y :: ys, us, zs, h1, h2, h, hu, hz => by
    simp only [eqCells] at h
    obtain ⟨b, hb, h⟩ := andThen_eq.1 h
    cases b with
    | false => cases h
    | true =>
      cases hu with | cons _ u _ us hu hus => cases hz with | cons _ z _ zs hz hzs =>
        simp only [List.zip_cons_cons, List.all_cons, Bool.and_eq_true]
        exact ⟨(eq1_bits hb hu hz n).1, eqCells_bits n (by simpa using h1) (by simpa using h2) h hus hzs⟩
theorem keyEq_bits {agg : Bool} {cs : List CK} {k k' : AVal} (h : keyEq agg cs k k' = some true) {x y : Value} (hx : V1 m k x) (hy : V1 m k' y) : Instr.sameBits 10000 y x = true := by
  have := keyEq_same h
  subst this
  cases agg with
  | true =>
    obtain ⟨xs, ys, rfl, e, l1, l2, he⟩ := keyEq_agg h
    cases e
    obtain ⟨xa, rfl, s1⟩ := hx.aggV
    obtain ⟨ya, rfl, s2⟩ := hy.aggV
    have a1 := s1.length
    have a2 := s2.length
    simp at a1 a2
    simp only [Instr.sameBits, Bool.and_eq_true, beq_iff_eq]
    exact ⟨by omega, eqCells_bits 9999 l1 l1 he s2 s1⟩
  | false =>
    obtain ⟨c, rfl, he⟩ := keyEq_one h
    obtain ⟨h1, h2⟩ := eq1_one he hx hy
    exact (eq1_bits he h1 h2 10000).2
theorem keyStays {x y : Value} (h : Instr.sameBits 10000 y x = true) : (Instr.keyThatStays y x).run P w = .ok x w := by
  unfold Instr.keyThatStays; rw [if_pos h]; rfl
/-- Where the key is. -/
noncomputable def ixE (agg : Bool) (cs : List CK) (k : AVal) : MEs → Option (Option Nat)
  | [] => some none
  | (_, k', _) :: es => match keyEq agg cs k k' with
    | some true => some (some 0)
    | some false => (ixE agg cs k es).map fun o => o.map (· + 1)
    | none => none
theorem mget_ix {agg : Bool} {cs : List CK} {k : AVal} : ∀ {es : MEs} {r : Option (Nat × AVal)}, mget agg cs k es = some r → ∃ o, ixE agg cs k es = some o ∧
    match o with | none => r = none | some i => ∃ b k' v, es[i]? = some (b, k', v) ∧ r = some (b, v) ∧ keyEq agg cs k k' = some true
  | [], r, h => by cases h; exact ⟨none, rfl, rfl⟩
  | (b, k', v) :: es, r, h => by
    unfold mget at h
    obtain ⟨q, hq, h⟩ := andThen_eq.1 h
    unfold ixE
    rw [hq]
    cases q with
    | true => cases h; exact ⟨some 0, rfl, b, k', v, rfl, rfl, hq⟩
    | false =>
      obtain ⟨o, h1, h2⟩ := mget_ix h
      refine ⟨o.map (· + 1), by simp only [h1]; rfl, ?_⟩
      cases o with
      | none => exact h2
      | some i => obtain ⟨b, k', v, g1, g2, g3⟩ := h2; exact ⟨b, k', v, by simpa using g1, g2, g3⟩
theorem mput_ix {agg : Bool} {cs : List CK} {clock : Nat} {k u : AVal} : ∀ {es : MEs} {n : Bool} {es' : MEs}, mput agg cs clock k u es = some (n, es') → ∃ o, ixE agg cs k es = some o ∧
    match o with | none => n = true ∧ es' = es ++ [(clock, k, u)] | some i => n = false ∧ ∃ b k' v, es[i]? = some (b, k', v) ∧ es' = es.set i (b, k, u) ∧ keyEq agg cs k k' = some true
  | [], n, es', h => by cases h; exact ⟨none, rfl, rfl, rfl⟩
  | (b, k', v) :: es, n, es', h => by
    unfold mput at h
    obtain ⟨q, hq, h⟩ := andThen_eq.1 h
    unfold ixE
    rw [hq]
    cases q with
    | true => cases h; exact ⟨some 0, rfl, rfl, b, k', v, rfl, rfl, hq⟩
    | false =>
      obtain ⟨⟨n', es2⟩, h1, h⟩ := andThen_eq.1 h
      cases h
      obtain ⟨o, h3, h4⟩ := mput_ix h1
      refine ⟨o.map (· + 1), by simp only [h3]; rfl, ?_⟩
      cases o with
      | none => obtain ⟨g1, g2⟩ := h4; exact ⟨g1, by rw [g2]; rfl⟩
      | some i => obtain ⟨g0, b', k2, v2, g1, g2, g3⟩ := h4; exact ⟨g0, b', k2, v2, by simpa using g1, by rw [g2]; rfl, g3⟩
theorem mrem_ix {agg : Bool} {cs : List CK} {k : AVal} : ∀ {es es' : MEs}, mrem agg cs k es = some es' → ∃ o, ixE agg cs k es = some o ∧
    match o with | none => es' = es | some i => i < es.length ∧ es' = es.eraseIdx i
  | [], es', h => by cases h; exact ⟨none, rfl, rfl⟩
  | (b, k', v) :: es, es', h => by
    unfold mrem at h
    obtain ⟨q, hq, h⟩ := andThen_eq.1 h
    unfold ixE
    rw [hq]
    cases q with
    | true => cases h; exact ⟨some 0, rfl, by simp, rfl⟩
    | false =>
      obtain ⟨es2, h1, h⟩ := andThen_eq.1 h
      cases h
      obtain ⟨o, h3, h4⟩ := mrem_ix h1
      refine ⟨o.map (· + 1), by simp only [h3]; rfl, ?_⟩
      cases o with
      | none => have h4 : es2 = es := h4; subst h4; rfl
      | some i => exact ⟨by simpa using h4.1, by rw [h4.2]; rfl⟩
theorem ERs.get {es : MEs} {l : List MapEntry} (h : ERs m es l) {i b : Nat} {k v : AVal} (hi : es[i]? = some (b, k, v)) : ∃ e, l[i]? = some e ∧ e.born = b ∧ V1 m k e.key ∧ V1 m v e.val := by
  induction h generalizing i with
  | nil => simp at hi
  | cons b' k' v' e l r hb hk hv _ ih => cases i with
    | zero => simp at hi; obtain ⟨rfl, rfl, rfl⟩ := hi; exact ⟨e, rfl, hb, hk, hv⟩
    | succ i => simpa using ih (by simpa using hi)
theorem eq1_now {c : CK} {kt : TypeId} {cs : List CK} (hf : flat P 20 kt = some cs) (ha : isAggB P kt = false) (hc : cs = [c]) {d : TypeDesc} (hd : P.underlying kt = some d) {k k' : AVal} {r : Bool} (h : eq1 c k k' = some r)
    {x y : Value} (hx : SR m k x) (hy : SR m k' y) : Instr.sameNow d x y = some r := by
  subst hc
  unfold flat at hf
  rw [hd] at hf
  unfold isAggB at ha
  rw [hd] at ha
  cases d <;> simp only at hf ha <;> first | (cases ha; done) | (cases hf; done) | skip
  all_goals
    cases hf
    unfold eq1 at h
    simp only at h
    split at h
    · split at h
      · first
        | (cases h; cases hx; cases hy; simp [Instr.sameNow, beqB_eq]; done)
        | (obtain ⟨h1, h⟩ := test_eq.1 h
           cases h; cases hx; cases hy
           simp [Instr.sameNow, keq_iff.1 h1, ieq_eq]; done)
        | (cases h
           cases hx with | str _ s hs => cases hy with | str _ s' hs' =>
             subst hs; subst hs'
             simp only [Instr.sameNow, Option.some.injEq]
             rw [Bool.eq_iff_iff, seq_iff, bytes_beq]
             exact ⟨fun h => by rw [h], fun h => str_inj h⟩)
      · cases h
    · cases h
def foundAt (l : List MapEntry) (base : Nat) (o : Option Nat) : Option (Nat × Value) := o.bind fun i => (l[i]?).map fun e => (base + i, e.val)
theorem foundAt_succ (e : MapEntry) (l : List MapEntry) (base : Nat) (o : Option Nat) : foundAt (e :: l) base (o.map (· + 1)) = foundAt l (base + 1) o := by
  cases o with
  | none => rfl
  | some i => simp only [foundAt, Option.map_some, Option.bind_some, List.getElem?_cons_succ]; congr 1; funext e; congr 1; omega
theorem findNow_ix {kt : TypeId} {cs : List CK} (hf : flat P 20 kt = some cs) (ha : isAggB P kt = false) {d : TypeDesc} (hd : P.underlying kt = some d) {k : AVal} {x : Value} (hx : V1 m k x) : ∀ {es : MEs} {l : List MapEntry} {o : Option Nat} (base : Nat),
    ERs m es l → ixE false cs k es = some o → Instr.findNow d x l base = some (foundAt l base o)
  | [], l, o, base, h, hi => by cases h; cases hi; rfl
  | (b, k', v) :: es, l, o, base, h, hi => by
    cases h with
    | cons _ _ _ e _ r hb hk hv hs =>
      unfold ixE at hi
      split at hi
      · rename_i he
        cases hi
        obtain ⟨c, hc, he⟩ := keyEq_one he
        obtain ⟨g1, g2⟩ := eq1_one he hx hk
        simp only [Instr.findNow, eq1_now hf ha hc hd he g1 g2, foundAt]
        rfl
      · rename_i he
        obtain ⟨c, hc, he⟩ := keyEq_one he
        obtain ⟨g1, g2⟩ := eq1_one he hx hk
        obtain ⟨o', h1, rfl⟩ := Option.map_eq_some_iff.1 hi
        simp only [Instr.findNow, eq1_now hf ha hc hd he g1 g2]
        rw [foundAt_succ]
        exact findNow_ix hf ha hd hx (base + 1) hs h1
      · cases hi
theorem findAsking_ix {kt : TypeId} {cs : List CK} (hf : flat P 20 kt = some cs) {k : AVal} {x : Value} (hx : V1 m k x) : ∀ {es : MEs} {l : List MapEntry} {o : Option Nat} (base : Nat),
    ERs m es l → ixE (isAggB P kt) cs k es = some o → (Instr.findAsking kt x l base).run P w = .ok (foundAt l base o) w
  | [], l, o, base, h, hi => by cases h; cases hi; rfl
  | (b, k', v) :: es, l, o, base, h, hi => by
    cases h with
    | cons _ _ _ e _ r hb hk hv hs =>
      unfold ixE at hi
      split at hi
      · rename_i he
        cases hi
        simp only [Instr.findAsking, Sem.run_bind, keyEq_run hf he hx hk, Result.andThen_ok, if_true, foundAt]
        rfl
      · rename_i he
        obtain ⟨o', h1, rfl⟩ := Option.map_eq_some_iff.1 hi
        simp only [Instr.findAsking, Sem.run_bind, keyEq_run hf he hx hk, Result.andThen_ok, Bool.false_eq_true, if_false]
        rw [foundAt_succ]
        exact findAsking_ix hf hx (base + 1) hs h1
      · cases hi
theorem findKey_ix {kt : TypeId} {cs : List CK} (hf : flat P 20 kt = some cs) {k : AVal} {x : Value} (hx : V1 m k x) {es : MEs} {l : List MapEntry} {o : Option Nat} (h : ERs m es l) (hi : ixE (isAggB P kt) cs k es = some o) :
    (Instr.findKey kt x l).run P w = .ok (foundAt l 0 o) w := by
  cases hd : P.underlying kt with
  | none => have := flat_some hf; rw [hd] at this; cases this
  | some d =>
    cases ha : isAggB P kt with
    | false =>
      rw [ha] at hi
      have := findNow_ix hf ha hd hx 0 h hi
      simp [Instr.findKey, run_underlying hd, this]
    | true =>
      have hn : Instr.findNow d x l 0 = some none ∧ l = [] ∨ Instr.findNow d x l 0 = none := by
        cases l with
        | nil => exact .inl ⟨rfl, rfl⟩
        | cons e l =>
          right
          unfold isAggB at ha
          rw [hd] at ha
          cases d <;> simp only at ha <;> first | (cases ha; done) | skip
          all_goals simp only [Instr.findNow, Instr.sameNow]
      rcases hn with ⟨h1, rfl⟩ | h1
      · cases h
        cases hi
        simp [Instr.findKey, run_underlying hd, h1, foundAt]
      · have := findAsking_ix (w := w) hf hx 0 h hi
        simp only [Instr.findKey, Sem.run_bind, run_underlying hd, Result.andThen_ok, h1]
        exact this
theorem cmap_eq {t : TypeId} {g : Bool} {cs : List CK} {e : TypeId} (h : cmap P t = some (g, cs, e)) : ∃ k, P.underlying t = some (.map k e) ∧ flat P 20 k = some cs ∧ g = isAggB P k := by
  unfold cmap at h
  split at h
  · rename_i k e' hu
    split at h
    · rename_i cs' hf; cases h; exact ⟨k, hu, hf, rfl⟩
    · cases h
  · cases h
theorem czeroV_run {e : TypeId} {z : AVal} (h : czeroV P e = some z) : ∃ x, (zeroValue e).run P w = .ok x w ∧ V1 m z x := by
  unfold czeroV at h
  split at h
  · rename_i i hi
    split at h
    · rename_i cs hz
      obtain ⟨l, hl, rfl⟩ := Option.map_eq_some_iff.1 h
      exact ⟨.agg cs, by simp [zeroValue, typeInfo, hi, hz], .agg _ _ (cvals_ok hl)⟩
    · rename_i z' _ hz
      exact ⟨z', by simp [zeroValue, typeInfo, hi, hz], .one _ _ (cval1_ok h)⟩
    · cases h
  · cases h
theorem VR.map {b : Pos} {x : Value} (h : VR m (.map b) x) : ∃ mi, m b = some mi ∧ x = .map (some mi.c) := by
  cases h with | v1 _ _ h => cases h with | one _ _ h => cases h with | map _ mi h => exact ⟨mi, h, rfl⟩
theorem VR.nmap {x : Value} (h : VR m .nmap x) : x = .map none := by
  cases h with | v1 _ _ h => cases h with | one _ _ h => cases h; rfl
theorem lenM_eq (es : MEs) : lenM es = es.length := by induction es <;> simp [lenM, *]
theorem WR.map (h : WR w0 m σ w) {b : Pos} {mb : MBlk} (hb : Tr.get b σ.maps = some mb) {mi : MI} (hm : m b = some mi) (hg : genuine mb.es = true) :
    ∃ es : Array MapEntry, w.heap[mi.c]? = some (.map es mb.clock) ∧ ERs m mb.es es.toList ∧ w0.heap.size ≤ mi.c ∧ ∀ x ∈ mb.es, goodKey x.2.1 = true := by
  obtain ⟨mi', h1, h2⟩ := h.mp b mb hb
  rw [hm] at h1; cases h1
  obtain ⟨o, h3, h4⟩ := h2.obj
  cases h4 with
  | map es hr hk => exact ⟨es, h3, hr, h2.own, hk⟩
  | none last seen _ he => rw [he] at hg; cases hg
  | iter last c mj ss _ _ he => rw [he] at hg; cases hg
/-- A range over a map. -/
theorem WR.iter (h : WR w0 m σ w) {b : Pos} {mb : MBlk} (hb : Tr.get b σ.maps = some mb) {mi : MI} (hm : m b = some mi) {last : Nat} {src : AVal} {seen : List AVal} (hi : iterOf mb.es = some (last, src, seen)) (hs : src = .nmap ∨ ∃ c, src = .map c) :
    mi.base = 0 ∧ ((src = .nmap ∧ w.heap[mi.c]? = some (.mapIter none 0 #[] 0)) ∨
      ∃ (c : Pos) (mj : MI) (ss : List Nat), src = .map c ∧ m c = some mj ∧ seen = ss.map (fun n => AVal.int .i64 (.ofNat n)) ∧ w.heap[mi.c]? = some (.mapIter (some mj.c) mb.clock ss.toArray last)) := by
  obtain ⟨mi', h1, h2⟩ := h.mp b mb hb
  rw [hm] at h1; cases h1
  obtain ⟨o, h3, h4⟩ := h2.obj
  cases h4 with
  | map es hr hk =>
    exfalso
    unfold iterOf at hi
    split at hi
    · cases hi
    · rename_i l' s' sv r he
      have := hk (l', s', sv) (by rw [he]; exact List.mem_cons_self)
      split at hi
      · split at hi
        · cases hi
          rcases hs with rfl | ⟨c, rfl⟩ <;> cases this
        · cases hi
      · cases hi
  | none last' seen' hb' he => rw [he] at hi; cases hi; exact ⟨hb', .inl ⟨rfl, h3⟩⟩
  | iter last' c mj ss hb' hmj he => rw [he] at hi; cases hi; exact ⟨hb', .inr ⟨c, mj, ss, rfl, hmj, rfl, h3⟩⟩
theorem getObj_map {r : Nat} {es : Array MapEntry} {clock : Nat} (hb : w.heap[r]? = some (.map es clock)) : (getObj r).run P w = .ok (.map es clock) w := by
  simp [getObj, Sem.run, hb]
theorem sim_mlook {t : TypeId} {g : Bool} {cs : List CK} {e : TypeId} {z : AVal} {ok : Bool} {x k : Operand} {x' k' : Opd} (hm : cmap P t = some (g, cs, e)) (hz : czeroV P e = some z) (hW : WR w0 m σ w) (hT : TR m T a.tmps)
    (hx : copd x = some x') (hk : copd k = some k') (hv : qMlook g cs z ok x' k' T σ = some v) : QRuns P a.eval ⟨dst, .lookup t x k ok, type, pos, after, guard⟩ w m v := by
  obtain ⟨kt, hu, hf, rfl⟩ := cmap_eq hm
  have hx' := copd_ok hT hx
  have hk' := copd_ok hT hk
  unfold qMlook vLook at hv
  obtain ⟨hs, hv⟩ := test_eq.1 hv
  obtain ⟨hk1, hck⟩ := keyShape_ok (w := w) hf hs hk'
  have key : ∀ (es : MEs) (l : Array MapEntry) (F : Value → Value), ERs m es l.toList → mlookE (isAggB P kt) cs z ok (k'.ev T) es = some v →
      ∃ y, ((do
        let (v, ok') ← match ← Instr.findKey kt (a.eval k) l.toList with
          | some (_, v) => pure (v, true)
          | none => pure (← zeroValue e, false)
        pure (if ok then .tuple #[v, .bool ok'] else v) : Sem Value).run P w = .ok y w) ∧ VR m v y := by
    intro es l F hr hl
    unfold mlookE at hl
    obtain ⟨r, hr1, hl⟩ := andThen_eq.1 hl
    obtain ⟨o, h1, h2⟩ := mget_ix hr1
    have hfk := findKey_ix (w := w) hf hk1 hr h1
    cases o with
    | none =>
      have h2 : r = none := h2
      subst h2
      obtain ⟨zv, hz1, hz2⟩ := czeroV_run (P := P) (w := w) (m := m) hz
      simp only [Sem.run_bind, hfk, Result.andThen_ok, foundAt, Option.bind_none, hz1, Sem.run_pure]
      simp only at hl
      unfold outOk at hl
      cases ok with
      | true => cases hl; exact ⟨_, rfl, .tup _ _ (.cons _ _ _ _ hz2 (.cons _ _ _ _ (.one _ _ (.bool _)) .nil))⟩
      | false => cases hl; exact ⟨_, rfl, .v1 _ _ hz2⟩
    | some i =>
      obtain ⟨b, k2, u, g1, g2, _⟩ := h2
      subst g2
      obtain ⟨en, e1, _, _, e4⟩ := hr.get g1
      simp only [Sem.run_bind, hfk, Result.andThen_ok, foundAt, Option.bind_some, e1, Option.map_some, Sem.run_pure]
      simp only at hl
      unfold outOk at hl
      cases ok with
      | true => cases hl; exact ⟨_, rfl, .tup _ _ (.cons _ _ _ _ e4 (.cons _ _ _ _ (.one _ _ (.bool _)) .nil))⟩
      | false => cases hl; exact ⟨_, rfl, .v1 _ _ e4⟩
  split at hv
  · rename_i hn
    rw [hn] at hx'
    obtain ⟨y, h1, h2⟩ := key [] #[] id .nil hv
    refine ⟨y, ?_, h2⟩
    simp only [execOp, hx'.nmap]
    refine runV ?_
    unfold Instr.lookup
    simp only [Sem.run_bind, run_underlying hu, Result.andThen_ok, Sem.run_pure, hck]
    simp only [Sem.run_bind] at h1
    exact h1
  · rename_i b hn
    rw [hn] at hx'
    obtain ⟨mi, hmi, hxe⟩ := hx'.map
    obtain ⟨mb, hb, hv⟩ := andThen_eq.1 hv
    obtain ⟨clock, es⟩ := mb
    obtain ⟨hg, hv⟩ := test_eq.1 hv
    obtain ⟨l, q1, q2, _⟩ := hW.map hb hmi hg
    obtain ⟨y, h1, h2⟩ := key es l id q2 hv
    refine ⟨y, ?_, h2⟩
    simp only [execOp, hxe]
    refine runV ?_
    unfold Instr.lookup
    simp only [Sem.run_bind, run_underlying hu, Result.andThen_ok, getObj_map q1, Sem.run_pure, hck]
    simp only [Sem.run_bind] at h1
    exact h1
  · cases hv
theorem sim_mlen {c : Call} {t u kt e : TypeId} {x : Operand} {x' : Opd} (hc : c.callee = .builtin .len) (h1 : c.argTypes.toList = [t]) (h2 : c.args.toList = [x]) (hu : P.underlying t = some (.map kt e)) (hW : WR w0 m σ w) (hT : TR m T a.tmps)
    (hx : copd x = some x') (hv : qMlen x' T σ = some v) : QRuns P a.eval ⟨dst, .call c, u, pos, after, guard⟩ w m v := by
  obtain ⟨ce, ags, ats⟩ := c
  simp only at hc h1 h2
  have e1 : ats = #[t] := by apply Array.ext'; simpa using h1
  have e2 : ags = #[x] := by apply Array.ext'; simpa using h2
  subst hc e1 e2
  have hx' := copd_ok hT hx
  unfold qMlen vLenM at hv
  have hrun : ∀ y, (Builtin.len_ #[t] u #[a.eval x]).run P w = .ok y w → (execOp a.eval ⟨dst, .call ⟨.builtin .len, #[x], #[t]⟩, u, pos, after, guard⟩).run P w = .ok (.value y) w := by
    intro y hy
    simp [execOp, resolve, invoke, builtin, hy]
  split at hv
  · rename_i hn
    rw [hn] at hx'
    cases hv
    refine ⟨goInt 0, hrun _ ?_, (SR.int _ _).vr⟩
    rw [hx'.nmap]
    simp [Builtin.len_, run_underlying hu]
  · rename_i b hn
    rw [hn] at hx'
    obtain ⟨mi, hmi, hxe⟩ := hx'.map
    obtain ⟨mb, hb, hv⟩ := andThen_eq.1 hv
    obtain ⟨clock, es⟩ := mb
    obtain ⟨hg, hv⟩ := test_eq.1 hv
    obtain ⟨l, q1, q2, _⟩ := hW.map hb hmi hg
    simp only [outI, forceInt_eq] at hv
    cases hv
    have hl := q2.length
    simp only [Array.length_toList] at hl
    refine ⟨goInt l.size, hrun _ ?_, ?_⟩
    · rw [hxe]
      simp [Builtin.len_, run_underlying hu, getObj_map q1]
    · rw [lenM_eq, ← hl]; exact (SR.int _ _).vr
  · cases hv
theorem find_ix {n : Int} : ∀ {es : MEs} {l : List MapEntry} {v : AVal}, ERs m es l → mfind n es = some v → ∀ {s : Nat}, n = (s : Int) → ∃ e k u, l.find? (fun e => e.born == s) = some e ∧ v = .tup [k, u] ∧ V1 m k e.key ∧ V1 m u e.val
  | [], l, v, _, h, _, _ => by cases h
  | (b, k, u) :: es, l, v, hr, h, s, hs => by
    cases hr with
    | cons _ _ _ e _ r hb hk hv hs' =>
      unfold mfind at h
      split at h
      · rename_i he
        cases h
        rw [ieq_iff, hs] at he
        have he : b = s := by have : (b : Int) = (s : Int) := he; omega
        exact ⟨e, k, u, by rw [List.find?_cons, hb, he]; simp, rfl, hk, hv⟩
      · rename_i he
        obtain ⟨e', k', u', g1, g2⟩ := find_ix hs' h hs
        refine ⟨e', k', u', ?_, g2⟩
        have hne : ¬ b = s := fun e => by
          have : ieq (.ofNat b) n = true := ieq_iff.2 (by rw [hs, e]; rfl)
          rw [this] at he; cases he
        rw [List.find?_cons, hb, show (b == s) = false by simp [hne]]
        exact g1
theorem sim_mentry {x : Operand} {x' : Opd} (hW : WR w0 m σ w) (hT : TR m T a.tmps) (hx : copd x = some x') (hv : qMentry x' T σ = some v) : QRuns P a.eval ⟨dst, .entry x, type, pos, after, guard⟩ w m v := by
  have hx' := copd_ok hT hx
  unfold qMentry vEntry at hv
  split at hv
  · rename_i p o hn
    rw [hn] at hx'
    obtain ⟨mi, hmi, hxe⟩ := hx'.ptr
    obtain ⟨ho, hv⟩ := test_eq.1 hv
    have ho : o = 0 := by cases o <;> first | rfl | cases ho
    subst ho
    obtain ⟨⟨since, es⟩, hb, hv⟩ := andThen_eq.1 hv
    obtain ⟨⟨last, src, seen⟩, hi, hv⟩ := andThen_eq.1 hv
    simp only at hv
    split at hv
    · rename_i b
      split at hv
      · cases hv
      · rename_i s r
        split at hv
        · split at hv
          · rename_i q n
            obtain ⟨hbase, hobj⟩ := hW.iter hb hmi hi (.inr ⟨b, rfl⟩)
            rcases hobj with ⟨h0, _⟩ | ⟨c, mj, ss, hc, hmj, hss, hobj⟩
            · cases h0
            · cases hc
              have hs1 : ∃ t, ss = [t] ∧ n = (t : Int) := by
                cases ss with
                | nil => cases hss
                | cons t ss =>
                  simp only [List.map_cons, List.cons.injEq] at hss
                  obtain ⟨h1, h2⟩ := hss
                  cases h1
                  have h3 : ss = [] := by cases ss with | nil => rfl | cons _ _ => cases h2
                  exact ⟨t, by rw [h3], rfl⟩
              obtain ⟨t, rfl, hnt⟩ := hs1
              unfold entryIn at hv
              obtain ⟨⟨clock, es2⟩, hb2, hv⟩ := andThen_eq.1 hv
              simp only at hv
              obtain ⟨hg, hv⟩ := test_eq.1 hv
              obtain ⟨hcl, hv9⟩ := test_eq.1 hv
              have hcl := Nat.eq_of_beq_eq_true hcl
              subst hcl
              obtain ⟨l, q1, q2, _⟩ := hW.map hb2 hmj hg
              obtain ⟨e, k, u, g1, g2, g3, g4⟩ := find_ix q2 hv9 hnt
              subst g2
              have hfind : l.find? (fun e => e.born == t) = some e := by rw [← g1]; cases l; simp
              refine ⟨.tuple #[e.key, e.val], ?_, .tup _ _ (.cons _ _ _ _ g3 (.cons _ _ _ _ g4 .nil))⟩
              simp only [execOp, hxe, hbase]
              refine runV ?_
              have gi : (getObj mi.c).run P w = .ok (.mapIter (some mj.c) since #[t] clock) w := by simp [getObj, Sem.run, hobj]
              simp [Instr.entry, gi, getObj_map q1, hfind]
          · cases hv
        · cases hv
    · cases hv
  · cases hv
theorem bindSome {α β : Type} {o : Option α} {k : α → Option β} {b : β} : (o >>= k) = some b ↔ ∃ x, o = some x ∧ k x = some b := by cases o <;> simp
/-- AN OPERATION THAT CHANGES NOTHING COMES TO WHAT THE EVALUATOR SAYS. -/
theorem simQ {o : Op} {q : QOp} (h : cop P o = some (.q q)) (hW : WR w0 m σ w) (hT : TR m T a.tmps) (hv : evalQ q T σ = some v) :
    QRuns P a.eval ⟨dst, o, type, pos, after, guard⟩ w m v := by
  cases o with
  | move x => simp [cop, Option.bind_eq_some_iff] at h; obtain ⟨y, hy, rfl⟩ := h; exact sim_mov (σ := σ) hT hy hv
  | assign x => simp [cop, Option.bind_eq_some_iff] at h; obtain ⟨y, hy, rfl⟩ := h; exact sim_assign (σ := σ) hT hy hv
  | pick c x y => simp [cop, Option.bind_eq_some_iff] at h; obtain ⟨c', hc, x', hx, y', hy, rfl⟩ := h; exact sim_pick (σ := σ) hT hc hx hy hv
  | nilCheck x => simp [cop, Option.bind_eq_some_iff] at h; obtain ⟨y, hy, rfl⟩ := h; exact sim_nilck (σ := σ) hT hy hv
  | unOp op t x => simp [cop, Option.bind_eq_some_iff] at h; obtain ⟨y, hy, rfl⟩ := h; exact sim_un (σ := σ) hT hy hv
  | extract x i => simp [cop, Option.bind_eq_some_iff] at h; obtain ⟨y, hy, rfl⟩ := h; exact sim_extract (σ := σ) hT hy hv
  | load t x =>
    simp only [cop] at h
    split at h
    · rename_i ha; simp [Option.bind_eq_some_iff] at h; obtain ⟨n, hn, y, hy, rfl⟩ := h; exact sim_loadN hW hT ha hn hy hv
    · rename_i ha
      split at h
      · rename_i hu; simp [Option.bind_eq_some_iff] at h; obtain ⟨y, hy, rfl⟩ := h; exact sim_load1 hW hT (by simpa using ha) hu hy hv
      · cases h
  | binOp op t x y yt =>
    simp only [cop] at h
    split at h
    · rename_i ha
      split at h
      · rename_i hg; simp [Option.bind_eq_some_iff] at h; obtain ⟨cs, hf, x', hx, y', hy, rfl⟩ := h; exact sim_eqAgg (σ := σ) (neg := false) rfl ha (by simpa using hg) hf hT hx hy hv
      · cases h
    · rename_i ha
      split at h
      · rename_i hg; simp [Option.bind_eq_some_iff] at h; obtain ⟨cs, hf, x', hx, y', hy, rfl⟩ := h; exact sim_eqAgg (σ := σ) (neg := true) rfl ha (by simpa using hg) hf hT hx hy hv
      · cases h
    · cases h
    · split at h
      · rename_i hu; simp [Option.bind_eq_some_iff] at h; obtain ⟨x', hx, y', hy, rfl⟩ := h; exact sim_bin (σ := σ) (tk := .bool) hu hT hx hy hv
      · simp [Option.bind_eq_some_iff] at h; obtain ⟨x', hx, y', hy, rfl⟩ := h; exact sim_bin (σ := σ) (tk := .num) trivial hT hx hy hv
      · simp [Option.bind_eq_some_iff] at h; obtain ⟨x', hx, y', hy, rfl⟩ := h; exact sim_bin (σ := σ) (tk := .num) trivial hT hx hy hv
      · rename_i e hu; simp [Option.bind_eq_some_iff] at h; obtain ⟨x', hx, y', hy, rfl⟩ := h; exact sim_bin (σ := σ) (tk := .ptr) ⟨e, hu⟩ hT hx hy hv
      · rename_i e hu; simp [Option.bind_eq_some_iff] at h; obtain ⟨x', hx, y', hy, rfl⟩ := h; exact sim_bin (σ := σ) (tk := .sl) ⟨e, hu⟩ hT hx hy hv
      · cases h
  | convert s d x =>
    simp only [cop] at h
    split at h
    · rename_i ds k h1 h2; simp [Option.bind_eq_some_iff] at h; obtain ⟨y, hy, rfl⟩ := h; exact sim_toInt (σ := σ) (by rw [h1]; rfl) h2 hT hy hv
    · rename_i h1 h2; simp [Option.bind_eq_some_iff] at h; obtain ⟨y, hy, rfl⟩ := h; exact sim_sameStr (σ := σ) h1 h2 hT hy hv
    · rename_i e h1 h2
      split at h
      · rename_i hu; simp [Option.bind_eq_some_iff] at h; obtain ⟨y, hy, rfl⟩ := h; exact sim_bytesStr hW h1 hu h2 hT hy hv
      · cases h
    · split at h
      · simp [Option.bind_eq_some_iff] at h
      · cases h
    · cases h
  | build t ps =>
    simp only [cop, bindSome] at h
    obtain ⟨z, hz, h⟩ := h
    split at h
    · rename_i fs hu
      split at h
      · rename_i hf; simp [Option.bind_eq_some_iff] at h; obtain ⟨l, hl, rfl⟩ := h; exact sim_buildS (σ := σ) hu hz hf hl hT hv
      · cases h
    · rename_i k e hu
      simp [Option.bind_eq_some_iff] at h
      obtain ⟨n, hn, l, hl, rfl⟩ := h; exact sim_buildA (σ := σ) hu hz hn hl hT hv
    · cases h
  | slice t x lo hi mx =>
    simp only [cop] at h
    split at h
    · rename_i hu
      split at h
      · simp [Option.bind_eq_some_iff] at h; obtain ⟨y, hy, lo', hlo, hi', hhi, rfl⟩ := h; exact sim_slStr (σ := σ) hu hT hy hlo hhi hv
      · cases h
    · rename_i e hu
      simp only [bindSome] at h
      obtain ⟨n, hn, h⟩ := h
      split at h
      · cases h
      · rename_i hc
        simp [Option.bind_eq_some_iff] at h; obtain ⟨y, hy, lo', hlo, hi', hhi, mx', hmx, rfl⟩ := h
        exact sim_slSl (σ := σ) hu hn (by cases mx <;> cases hi <;> simp_all) hT hy hlo hhi hmx hv
    · rename_i n e hu
      simp only [bindSome] at h
      obtain ⟨k, hk, h⟩ := h
      split at h
      · cases h
      · rename_i hc
        simp [Option.bind_eq_some_iff] at h; obtain ⟨y, hy, lo', hlo, hi', hhi, mx', hmx, rfl⟩ := h
        exact sim_slArr (σ := σ) (.inl ⟨e, hu, hk⟩) (by cases mx <;> cases hi <;> simp_all) hT hy hlo hhi hmx hv
    · rename_i arr hu
      split at h
      · rename_i n e hu2
        simp only [bindSome] at h
        obtain ⟨k, hk, h⟩ := h
        split at h
        · cases h
        · rename_i hc
          simp [Option.bind_eq_some_iff] at h; obtain ⟨y, hy, lo', hlo, hi', hhi, mx', hmx, rfl⟩ := h
          exact sim_slArr (σ := σ) (.inr ⟨arr, e, hu, hu2, hk⟩) (by cases mx <;> cases hi <;> simp_all) hT hy hlo hhi hmx hv
      · cases h
    · cases h
  | fieldAddr t x f =>
    simp only [cop] at h
    split at h
    · rename_i fs hu
      simp only [bindSome] at h
      obtain ⟨fd, hfd, n, hn, h⟩ := h
      split at h
      · cases h
      · rename_i h0; simp [Option.bind_eq_some_iff] at h; obtain ⟨y, hy, rfl⟩ := h; exact sim_fieldAddr (σ := σ) hu hfd hn h0 hT hy hv
    · cases h
  | field t x f =>
    simp only [cop] at h
    split at h
    · rename_i fs hu
      simp only [bindSome] at h
      obtain ⟨fd, hfd, n, hn, h⟩ := h
      split at h
      · rename_i h0; simp [Option.bind_eq_some_iff] at h; obtain ⟨y, hy, rfl⟩ := h; exact sim_field (σ := σ) hu hfd hn h0 hT hy hv
      · cases h
    · cases h
  | indexAddr t x i =>
    simp only [cop] at h
    split at h
    · rename_i k e hu; simp [Option.bind_eq_some_iff] at h; obtain ⟨n, hn, y, hy, i', hi, rfl⟩ := h; exact sim_ixArr (σ := σ) hu hn hT hy hi hv
    · rename_i e hu; simp [Option.bind_eq_some_iff] at h; obtain ⟨n, hn, y, hy, i', hi, rfl⟩ := h; exact sim_ixSl (σ := σ) hu hn hT hy hi hv
    · cases h
  | index t x i =>
    simp only [cop] at h
    split at h
    · rename_i k e hu
      split at h
      · rename_i he; simp [Option.bind_eq_some_iff] at h; obtain ⟨n, hn, y, hy, i', hi, rfl⟩ := h; exact sim_idxAgg (σ := σ) hu hn he hT hy hi hv
      · cases h
    · rename_i hu; simp [Option.bind_eq_some_iff] at h; obtain ⟨y, hy, i', hi, rfl⟩ := h; exact sim_idxStr (σ := σ) hu hT hy hi hv
    · cases h
  | makeFunc fn first caps =>
    cases fn <;> simp only [cop] at h <;> (try (cases h; done))
    split at h
    · rename_i he; simp [Option.bind_eq_some_iff] at h; obtain ⟨l, hl, rfl⟩ := h; exact sim_mkFunc (σ := σ) he hT hl hv
    · cases h
  | call c =>
    simp only [cop] at h
    split at h
    · simp [Option.bind_eq_some_iff] at h
    · simp [Option.bind_eq_some_iff] at h
    · rename_i hc
      split at h
      · rename_i t x h1 h2
        split at h
        · rename_i hu; simp [Option.bind_eq_some_iff] at h; obtain ⟨y, hy, rfl⟩ := h; exact sim_lenStr (σ := σ) hc h1 h2 hu hT hy hv
        · rename_i e hu; simp [Option.bind_eq_some_iff] at h; obtain ⟨y, hy, rfl⟩ := h; exact sim_lenSl (σ := σ) hc h1 h2 hu hT hy hv
        · rename_i k e hu; simp [Option.bind_eq_some_iff] at h; obtain ⟨y, hy, rfl⟩ := h; exact sim_mlen hc h1 h2 hu hW hT hy hv
        · rename_i n e hu; cases h; exact sim_lenK (σ := σ) (T := T) hc h1 h2 (.inl ⟨e, hu⟩) hv
        · rename_i r hu
          split at h
          · rename_i n e hu2; cases h; exact sim_lenK (σ := σ) (T := T) hc h1 h2 (.inr ⟨r, e, hu, hu2⟩) hv
          · cases h
        · cases h
      · cases h
    · rename_i hc
      split at h
      · rename_i t x h1 h2
        split at h
        · rename_i e hu; simp [Option.bind_eq_some_iff] at h; obtain ⟨y, hy, rfl⟩ := h; exact sim_cap (σ := σ) hc h1 h2 hu hT hy hv
        · cases h
      · cases h
    · rename_i hc
      split at h
      · rename_i x xs h2; simp [Option.bind_eq_some_iff] at h; obtain ⟨y, hy, ys, hys, rfl⟩ := h; exact sim_max (σ := σ) hc h2 hT hy hys hv
      · cases h
    · rename_i hc
      split at h
      · rename_i x xs h2; simp [Option.bind_eq_some_iff] at h; obtain ⟨y, hy, ys, hys, rfl⟩ := h; exact sim_min (σ := σ) hc h2 hT hy hys hv
      · cases h
    · split at h
      · split at h
        · simp only [bindSome] at h
          obtain ⟨i, hi, z, hz, h⟩ := h
          split at h
          · split at h
            · simp [Option.bind_eq_some_iff] at h
            · cases h
          · split at h
            · simp [Option.bind_eq_some_iff] at h
            · cases h
          · cases h
        · cases h
      · cases h
    · split at h
      · simp only [bindSome] at h
        obtain ⟨⟨g, cs, e⟩, _, h⟩ := h
        simp at h
      · cases h
    · split at h
      · split at h
        · simp [Option.bind_eq_some_iff] at h
        · cases h
      · cases h
    · split at h
      · split at h
        · simp [Option.bind_eq_some_iff] at h
        · cases h
      · cases h
    · cases h
  | alloc t => simp [cop, Option.bind_eq_some_iff] at h
  | box t x => simp [cop, Option.bind_eq_some_iff] at h
  | buildSlice t n ps =>
    simp only [cop] at h
    split at h
    · simp only [bindSome] at h
      obtain ⟨n, hn, z, hz, h⟩ := h
      split at h
      · simp [Option.bind_eq_some_iff] at h
      · cases h
    · cases h
  | store t x v => simp [cop, Option.bind_eq_some_iff] at h
  | makeSlice t l c =>
    simp only [cop] at h
    split at h
    · simp only [bindSome] at h
      obtain ⟨i, hi, z, hz, h⟩ := h
      split at h
      · simp [Option.bind_eq_some_iff] at h
      · cases h
    · cases h
  | makeMap t r =>
    simp only [cop] at h
    split at h
    · simp [Option.bind_eq_some_iff] at h
    · cases h
  | mapUpdate t x k v' =>
    simp only [cop, bindSome] at h
    obtain ⟨⟨g, cs, e⟩, _, h⟩ := h
    simp at h
  | mapEntry t x k =>
    simp only [cop, bindSome] at h
    obtain ⟨⟨g, cs, e⟩, _, h⟩ := h
    simp at h
  | entryStore t x s v' => simp [cop, Option.bind_eq_some_iff] at h
  | range t x =>
    simp only [cop] at h
    split at h
    · simp [Option.bind_eq_some_iff] at h
    · cases h
  | next x b => cases b <;> simp [cop, Option.bind_eq_some_iff] at h
  | entry x => simp [cop, Option.bind_eq_some_iff] at h; obtain ⟨y, hy, rfl⟩ := h; exact sim_mentry hW hT hy hv
  | lookup t x k ok =>
    simp only [cop, bindSome] at h
    obtain ⟨⟨g, cs, e⟩, hm, h⟩ := h
    simp at h
    obtain ⟨z, hz, x', hx, k', hk, rfl⟩ := h
    exact sim_mlook hm hz hW hT hx hk hv
  | _ => simp [cop] at h
end
end Go.Am
