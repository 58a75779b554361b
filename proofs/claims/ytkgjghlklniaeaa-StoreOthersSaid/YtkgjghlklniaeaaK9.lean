/-
  Structs and arrays compared; and all operations that change nothing, in one word. Conditions: none.
-/
import Derived.Test.YtkgjghlklniaeaaK8
namespace Go.Am
section
variable {P : Program} {w0 w : World} {m : Mp} {σ : S} {T : Tm} {a : Act} {v : AVal} {dst : Option Tmp} {type : TypeId} {pos : String} {after : Array Edge} {guard : Option (Nat × Bool)}
theorem lenC_eq (l : List CK) : lenC l = l.length := by induction l <;> simp [lenC, *]
theorem eqCells_append {cs ds : List CK} {xs ys : List AVal} {r : Bool} (h : eqCells (cs ++ ds) xs ys = some r) :
    ∃ q, eqCells cs (xs.take cs.length) (ys.take cs.length) = some q ∧ (q = false → r = false) ∧ (q = true → eqCells ds (xs.drop cs.length) (ys.drop cs.length) = some r) := by
  induction cs generalizing xs ys with
  | nil => exact ⟨true, rfl, (fun h => by cases h), (fun _ => by simpa using h)⟩
  | cons c cs ih =>
    cases xs with
    | nil => simp [eqCells] at h
    | cons x xs => cases ys with
      | nil => simp [eqCells] at h
      | cons y ys =>
        simp only [List.cons_append, eqCells] at h
        obtain ⟨b, hb, h⟩ := andThen_eq.1 h
        cases b with
        | true =>
          obtain ⟨q, h1, h2, h3⟩ := ih h
          exact ⟨q, by simp only [List.length_cons, List.take_succ_cons, eqCells, hb, andThen_some]; exact h1, h2, by simpa using h3⟩
        | false =>
          cases h
          exact ⟨false, by simp only [List.length_cons, List.take_succ_cons, eqCells, hb, andThen_some], (fun _ => rfl), (fun h => by cases h)⟩
theorem bytes_beq {s t : ByteArray} : (s == t) = true ↔ s = t := by
  cases s with | mk x => cases t with | mk y =>
    constructor
    · intro h; have h' : (x == y) = true := h; rw [beq_iff_eq] at h'; rw [h']
    · intro h; cases h; show (x == x) = true; exact beq_self_eq_true x
def EqIn (P : Program) (w : World) (m : Mp) (D : Nat) (t : TypeId) (cs : List CK) : Prop :=
  ∀ (xs ys : List AVal) (x y : Value) (r : Bool), SRs m xs x.cells.toList → SRs m ys y.cells.toList → xs.length = cs.length → ys.length = cs.length →
    (isAggB P t = true → ∃ xa ya, x = .agg xa ∧ y = .agg ya) → (isAggB P t = false → x.oneCell' = true ∧ y.oneCell' = true) → eqCells cs xs ys = some r → (Op.equalIn D t x y).run P w = .ok r w
theorem one_of {x : Value} (h : x.oneCell' = true) : x.cells = #[x] := by cases x <;> first | rfl | (simp [Value.oneCell'] at h)
theorem eqIn_scalar {D : Nat} {t : TypeId} {c : CK} (hc : match c with | .b => P.underlying t = some .bool | .i => ∃ k, P.underlying t = some (.int k) | .s => P.underlying t = some .string) :
    EqIn P w m (D + 1) t [c] := by
  intro xs ys x y r hx hy _ _ _ hn h
  have hag : isAggB P t = false := by
    unfold isAggB; cases c <;> simp only at hc
    · rw [hc]
    · obtain ⟨k, hc⟩ := hc; rw [hc]
    · rw [hc]
  obtain ⟨o1, o2⟩ := hn hag
  rw [one_of o1] at hx; rw [one_of o2] at hy
  cases hx with | cons u _ _ _ hu hu' => cases hu'; cases hy with | cons z _ _ _ hz hz' =>
    cases hz'
    simp only [eqCells] at h
    obtain ⟨b, hb, h⟩ := andThen_eq.1 h
    have hbr : b = r := by cases b <;> (cases h; rfl)
    subst hbr
    unfold eq1 at hb
    unfold Op.equalIn
    cases c with
    | b =>
      simp only at hb hc
      split at hb
      · split at hb
        · cases hb; cases hu; cases hz
          simp only [Sem.run_bind, run_underlying hc, Result.andThen_ok, beqB_eq]; rfl
        · cases hb
      · cases hb
    | i =>
      simp only at hb hc
      obtain ⟨k', hc⟩ := hc
      split at hb
      · split at hb
        · obtain ⟨hk, hb⟩ := test_eq.1 hb
          cases hb
          have hk := keq_iff.1 hk; subst hk
          cases hu; cases hz
          simp only [Sem.run_bind, run_underlying hc, Result.andThen_ok, if_true, ieq_eq]; rfl
        · cases hb
      · cases hb
    | s =>
      simp only at hb hc
      split at hb
      · split at hb
        · cases hb; cases hu with | str _ s hs => cases hz with | str _ s' hs' =>
            subst hs; subst hs'
            simp only [Sem.run_bind, run_underlying hc, Result.andThen_ok]
            show Result.ok (s == s') w = _
            congr 1
            rw [Bool.eq_iff_iff, seq_iff]
            rw [bytes_beq]
            exact ⟨fun h => by rw [h], fun h => str_inj h⟩
        · cases hb
      · cases hb
theorem part_eq {D off n : Nat} {t : TypeId} {cs : List CK} {xs ys : List AVal} {xa ya : Array Value} {r : Bool} (hu : (P.underlying t).isSome = true) (hn : csize P t = some n) (hcs : n = cs.length)
    (h1 : isAggB P t = false → n = 1) (hE : EqIn P w m D t cs) (hx : SRs m xs xa.toList) (hy : SRs m ys ya.toList) (lx : off + n ≤ xs.length) (ly : off + n ≤ ys.length)
    (h : eqCells cs ((xs.drop off).take n) ((ys.drop off).take n) = some r) :
    (do Op.equalIn D t (← part t xa off) (← part t ya off) : Sem Bool).run P w = .ok r w := by
  have l1 := hx.length; have l2 := hy.length
  simp at l1 l2
  unfold part
  cases ha : isAggB P t with
  | true =>
    have hx' := (hx.drop off).take n
    have hy' := (hy.drop off).take n
    have e1 : (Value.agg (xa.extract off (off + n))).cells.toList = (xa.toList.drop off).take n := by
      show (xa.extract off (off + n)).toList = _
      rw [Array.toList_extract, List.extract_eq_take_drop, Nat.add_sub_cancel_left]
    have e2 : (Value.agg (ya.extract off (off + n))).cells.toList = (ya.toList.drop off).take n := by
      show (ya.extract off (off + n)).toList = _
      rw [Array.toList_extract, List.extract_eq_take_drop, Nat.add_sub_cancel_left]
    have := hE _ _ (.agg (xa.extract off (off + n))) (.agg (ya.extract off (off + n))) r (by rw [e1]; exact hx') (by rw [e2]; exact hy') (by simp; omega) (by simp; omega)
      (fun _ => ⟨_, _, rfl, rfl⟩) (fun h => by rw [ha] at h; cases h) h
    simp [isAggB_run t hu, ha, sizeOf_run hn, this]
  | false =>
    have hn1 := h1 ha
    subst hn1
    have ix : off < xs.length := by omega
    have iy : off < ys.length := by omega
    obtain ⟨x, hx1, hx2⟩ := hx.get (show xs[off]? = some xs[off] by simp [ix])
    obtain ⟨y, hy1, hy2⟩ := hy.get (show ys[off]? = some ys[off] by simp [iy])
    have ex : xa[off]? = some x := by rw [← Array.getElem?_toList]; exact hx1
    have ey : ya[off]? = some y := by rw [← Array.getElem?_toList]; exact hy1
    have tx : (xs.drop off).take 1 = [xs[off]] := by rw [List.drop_eq_getElem_cons ix]; rfl
    have ty : (ys.drop off).take 1 = [ys[off]] := by rw [List.drop_eq_getElem_cons iy]; rfl
    rw [tx, ty] at h
    have := hE [xs[off]] [ys[off]] x y r (by rw [one_of hx2.oneCell]; exact .cons _ _ _ _ hx2 .nil) (by rw [one_of hy2.oneCell]; exact .cons _ _ _ _ hy2 .nil) (by simp; omega) (by simp; omega)
      (fun h => by rw [ha] at h; cases h) (fun _ => ⟨hx2.oneCell, hy2.oneCell⟩) h
    simp [isAggB_run t hu, ha, ex, ey, this]
def eqStep (D : Nat) (t : TypeId) (xa ya : Array Value) (off : Nat) : Sem (ForInStep (Option Bool × Unit)) := do
  let u ← part t xa off
  let z ← part t ya off
  let b ← Op.equalIn D t u z
  if (!b) = true then pure (.done (some false, ())) else pure (.yield (none, ()))
theorem eqStep_run {D off : Nat} {t : TypeId} {xa ya : Array Value} {r : Bool} (h : (do Op.equalIn D t (← part t xa off) (← part t ya off) : Sem Bool).run P w = .ok r w) :
    (eqStep D t xa ya off).run P w = .ok (if r then .yield (none, ()) else .done (some false, ())) w := by
  unfold eqStep
  simp only [Sem.run_bind] at h ⊢
  cases h1 : (part t xa off).run P w with
  | halt e w' => rw [h1] at h; cases h
  | ok u w1 =>
    rw [h1] at h
    simp only [Result.andThen_ok] at h ⊢
    cases h2 : (part t ya off).run P w1 with
    | halt e w' => rw [h2] at h; cases h
    | ok z w2 =>
      rw [h2] at h
      simp only [Result.andThen_ok] at h ⊢
      rw [h]
      cases r <;> rfl
def outOf (r : Bool) : Option Bool × Unit := if r then (none, ()) else (some false, ())
theorem fieldsLoop {D : Nat} {xs ys : List AVal} {xa ya : Array Value} (hx : SRs m xs xa.toList) (hy : SRs m ys ya.toList) :
    ∀ (l : List Field) (d o : Nat) (cs : List CK) (r : Bool), flats P (flat P d) l o = some cs → (∀ f ∈ l, ∀ c, flat P d f.type = some c → EqIn P w m D f.type c) →
      o + cs.length = xs.length → o + cs.length = ys.length → eqCells cs (xs.drop o) (ys.drop o) = some r →
      (forIn l (none, ()) (fun (f : Field) (_ : Option Bool × Unit) => if f.name ≠ "_" then eqStep D f.type xa ya f.offset else pure (.yield (none, ()))) : Sem (Option Bool × Unit)).run P w = .ok (outOf r) w
  | [], d, o, cs, r, hf, _, lx, ly, h => by
    simp only [flats] at hf; cases hf
    simp only [eqCells] at h; cases h
    rfl
  | f :: l, d, o, cs, r, hf, hE, lx, ly, h => by
    unfold flats at hf
    split at hf
    · rename_i c s hc hs
      split at hf
      · rename_i hcond
        obtain ⟨hname, hoff, hlen⟩ := hcond
        split at hf
        · rename_i r' hr'
          cases hf
          obtain ⟨q, h1, h2, h3⟩ := eqCells_append h
          simp only [List.length_append] at lx ly
          have hu : (P.underlying f.type).isSome = true := by
            cases d with
            | zero => simp [flat] at hc
            | succ d => unfold flat at hc; cases hh : P.underlying f.type with
              | none => rw [hh] at hc; cases hc
              | some _ => rfl
          have hone : isAggB P f.type = false → s = 1 := by
            intro ha
            cases d with
            | zero => simp [flat] at hc
            | succ d =>
              unfold isAggB at ha; unfold flat at hc
              cases hh : P.underlying f.type with
              | none => rw [hh] at hu; cases hu
              | some dd => rw [hh] at hc ha; cases dd <;> simp only at hc ha <;> first | (cases ha; done) | (cases hc; simpa using hlen) | (cases hc; done)
          have st := eqStep_run (part_eq (P := P) (w := w) (off := f.offset) hu hs hlen hone (hE f List.mem_cons_self c hc) hx hy (by omega) (by omega) (by rw [hoff, hlen]; exact h1))
          simp only [List.forIn_cons, if_pos hname, Sem.run_bind, st, Result.andThen_ok]
          cases q with
          | true =>
            simp only [if_true]
            refine fieldsLoop hx hy l d (o + s) r' r hr' (fun g hg => hE g (List.mem_cons_of_mem _ hg)) (by omega) (by omega) ?_
            have := h3 rfl
            rw [List.drop_drop, List.drop_drop] at this
            rw [hlen]; exact this
          | false => have := h2 rfl; subst this; rfl
        · cases hf
      · cases hf
    · cases hf
theorem repC_succ (n : Nat) (l : List CK) : repC (n + 1) l = l ++ repC n l := rfl
theorem repC_length (n : Nat) (l : List CK) : (repC n l).length = n * l.length := by
  induction n with
  | zero => simp [repC]
  | succ n ih => rw [repC_succ, List.length_append, ih, Nat.succ_mul]; omega
theorem arrayLoop {D s : Nat} {e : TypeId} {c : List CK} {xs ys : List AVal} {xa ya : Array Value} (hu : (P.underlying e).isSome = true) (hs : csize P e = some s) (hlen : s = c.length)
    (hone : isAggB P e = false → s = 1) (hE : EqIn P w m D e c) (hx : SRs m xs xa.toList) (hy : SRs m ys ya.toList) :
    ∀ (n k : Nat) (r : Bool), k * s + n * s ≤ xs.length → k * s + n * s ≤ ys.length → eqCells (repC n c) (xs.drop (k * s)) (ys.drop (k * s)) = some r →
      (forIn (List.range' k n) (none, ()) (fun (i : Nat) (_ : Option Bool × Unit) => eqStep D e xa ya (i * s)) : Sem (Option Bool × Unit)).run P w = .ok (outOf r) w
  | 0, k, r, lx, ly, h => by
    simp only [repC, eqCells] at h; cases h
    rfl
  | n + 1, k, r, lx, ly, h => by
    rw [repC_succ] at h
    obtain ⟨q, h1, h2, h3⟩ := eqCells_append h
    have e1 : (n + 1) * s = s + n * s := by rw [Nat.succ_mul]; omega
    have st := eqStep_run (part_eq (P := P) (w := w) (off := k * s) hu hs hlen hone hE hx hy (by omega) (by omega) (by rw [hlen] at h1 ⊢; exact h1))
    simp only [List.range'_succ, List.forIn_cons, Sem.run_bind, st, Result.andThen_ok]
    cases q with
    | true =>
      simp only [if_true]
      have e2 : (k + 1) * s = k * s + s := Nat.succ_mul k s
      refine arrayLoop hu hs hlen hone hE hx hy n (k + 1) r (by omega) (by omega) ?_
      have := h3 rfl
      rw [List.drop_drop, List.drop_drop] at this
      rw [e2, hlen]; rw [hlen] at this; exact this
    | false => have := h2 rfl; subst this; rfl
theorem flat_ok : ∀ (d D : Nat) (t : TypeId) (cs : List CK), flat P d t = some cs → d ≤ D → EqIn P w m D t cs
  | 0, D, t, cs, h, _ => by simp [flat] at h
  | d + 1, 0, t, cs, h, hD => by omega
  | d + 1, D + 1, t, cs, h, hD => by
    unfold flat at h
    split at h
    · rename_i hu; cases h; exact eqIn_scalar hu
    · rename_i k hu; cases h; exact eqIn_scalar ⟨k, hu⟩
    · rename_i hu; cases h; exact eqIn_scalar hu
    · rename_i fs hu
      split at h
      · cases h
      · rename_i hst
        intro xs ys x y r hx hy lx ly hag _ he
        obtain ⟨xa, ya, rfl, rfl⟩ := hag (by unfold isAggB; rw [hu])
        have ih : ∀ f ∈ fs.toList, ∀ c, flat P d f.type = some c → EqIn P w m D f.type c := fun f _ c hc => flat_ok d D f.type c hc (by omega)
        have := fieldsLoop (P := P) (w := w) (D := D) (xa := xa) (ya := ya) hx hy fs.toList d 0 cs r h ih (by omega) (by omega) (by simpa using he)
        unfold Op.equalIn
        simp only [Sem.run_bind, run_underlying hu, Result.andThen_ok, run_program, hst, if_false, Bool.false_eq_true]
        rw [← Array.forIn_toList]
        show ((Sem.run P (forIn fs.toList (none, ()) (fun (f : Field) (_ : Option Bool × Unit) => if f.name ≠ "_" then eqStep D f.type xa ya f.offset else pure (.yield (none, ())))) w).andThen _) = _
        rw [this]
        cases r <;> rfl
    · rename_i n e hu
      split at h
      · rename_i l s hl hs
        split at h
        · rename_i hsl
          cases h
          intro xs ys x y r hx hy lx ly hag _ he
          obtain ⟨xa, ya, rfl, rfl⟩ := hag (by unfold isAggB; rw [hu])
          have hu' : (P.underlying e).isSome = true := by
            cases d with
            | zero => simp [flat] at hl
            | succ d => unfold flat at hl; cases hh : P.underlying e with
              | none => rw [hh] at hl; cases hl
              | some _ => rfl
          have hone : isAggB P e = false → s = 1 := by
            intro ha
            cases d with
            | zero => simp [flat] at hl
            | succ d =>
              unfold isAggB at ha; unfold flat at hl
              cases hh : P.underlying e with
              | none => rw [hh] at hu'; cases hu'
              | some dd => rw [hh] at hl ha; cases dd <;> simp only at hl ha <;> first | (cases ha; done) | (cases hl; simpa using hsl) | (cases hl; done)
          rw [repC_length] at lx ly
          have := arrayLoop (P := P) (w := w) (xa := xa) (ya := ya) hu' hs hsl hone (flat_ok d D e l hl (by omega)) hx hy n 0 r (by rw [hsl]; omega) (by rw [hsl]; omega) (by simpa using he)
          unfold Op.equalIn
          simp only [Sem.run_bind, run_underlying hu, Result.andThen_ok, sizeOf_run hs]
          rw [Std.Legacy.Range.forIn_eq_forIn_range']
          have e0 : List.range' [:n].start [:n].size [:n].step = List.range' 0 n := by simp [Std.Legacy.Range.size]
          rw [e0]
          show ((Sem.run P (forIn (List.range' 0 n) (none, ()) (fun (i : Nat) (_ : Option Bool × Unit) => eqStep D e xa ya (i * s))) w).andThen _) = _
          rw [this]
          cases r <;> rfl
        · cases h
      · cases h
    · cases h
theorem sim_eqAgg {op : BinOp} {neg : Bool} {t yt : TypeId} {cs : List CK} {x y : Operand} {x' y' : Opd} (hop : op = if neg then .neq else .eql) (ha : isAggB P t = true) (hg : P.eqGuardType P.depth t = false)
    (hf : flat P 20 t = some cs) (hT : TR m T a.tmps) (hx : copd x = some x') (hy : copd y = some y') (hv : qEqAgg cs neg x' y' T σ = some v) :
    QRuns P a.eval ⟨dst, .binOp op t x y yt, type, pos, after, guard⟩ w m v := by
  have hx' := copd_ok hT hx
  have hy' := copd_ok hT hy
  unfold qEqAgg vEqAgg at hv
  split at hv
  · rename_i xs hn1
    split at hv
    · rename_i ys hn2
      rw [hn1] at hx'; rw [hn2] at hy'
      obtain ⟨xa, e1, s1⟩ := hx'.agg
      obtain ⟨ya, e2, s2⟩ := hy'.agg
      obtain ⟨l1, hv⟩ := test_eq.1 hv
      obtain ⟨l2, hv⟩ := test_eq.1 hv
      have l1 := Nat.eq_of_beq_eq_true l1
      have l2 := Nat.eq_of_beq_eq_true l2
      rw [lenN_eq, lenC_eq] at l1 l2
      obtain ⟨r, hr, hv⟩ := andThen_eq.1 hv
      have run : (Op.equal t (.agg xa) (.agg ya)).run P w = .ok r w :=
        flat_ok 20 10000 t cs hf (by omega) xs ys (.agg xa) (.agg ya) r s1 s2 l1 l2 (fun _ => ⟨_, _, rfl, rfl⟩) (fun h => by rw [ha] at h; cases h) hr
      have gd : ∀ op, (eqGuard op t x y (.agg xa) (.agg ya)).run P w = .ok () w := by
        intro op
        unfold eqGuard
        cases op <;> simp [hg]
      cases neg with
      | true =>
        simp only at hv
        rw [outB_eq, notB_eq] at hv; cases hv
        subst hop
        refine ⟨.bool (!r), ?_, (SR.bool _).vr⟩
        have hb : (binOp .neq t (.agg xa) (.agg ya)) = (do pure (.bool (!(← Op.equal t (.agg xa) (.agg ya))))) := rfl
        simp only [execOp, e1, e2, if_true, Sem.run_bind, gd, Result.andThen_ok, hb, run, Sem.run_pure]
      | false =>
        simp only at hv
        rw [outB_eq] at hv; cases hv
        subst hop
        refine ⟨.bool r, ?_, (SR.bool _).vr⟩
        have hb : (binOp .eql t (.agg xa) (.agg ya)) = (do pure (.bool (← Op.equal t (.agg xa) (.agg ya)))) := rfl
        simp only [execOp, e1, e2, Bool.false_eq_true, if_false, Sem.run_bind, gd, Result.andThen_ok, hb, run, Sem.run_pure]
    · cases hv
  · cases hv
theorem bindSome {α β : Type} {o : Option α} {k : α → Option β} {b : β} : (o >>= k) = some b ↔ ∃ x, o = some x ∧ k x = some b := by cases o <;> simp
theorem simQ {o : Op} {q : QOp} (h : cop P o = some (.q q)) (hW : WR w0 m σ w) (hT : TR m T a.tmps) (hv : evalQ q T σ = some v) :
    QRuns P a.eval ⟨dst, o, type, pos, after, guard⟩ w m v := by
  cases o with
  | move x => simp [cop, Option.bind_eq_some_iff] at h; obtain ⟨y, hy, rfl⟩ := h; exact sim_mov (σ := σ) hT hy hv
  | assign x => simp [cop, Option.bind_eq_some_iff] at h; obtain ⟨y, hy, rfl⟩ := h; exact sim_assign (σ := σ) hT hy hv
  | pick c x y => simp [cop, Option.bind_eq_some_iff] at h; obtain ⟨c', hc, x', hx, y', hy, rfl⟩ := h; exact sim_pick (σ := σ) hT hc hx hy hv
  | nilCheck x => simp [cop, Option.bind_eq_some_iff] at h; obtain ⟨y, hy, rfl⟩ := h; exact sim_nilck (σ := σ) hT hy hv
  | unOp op t x => simp [cop, Option.bind_eq_some_iff] at h; obtain ⟨y, hy, rfl⟩ := h; exact sim_un (σ := σ) hT hy hv
  | extract x i => simp [cop, Option.bind_eq_some_iff] at h; obtain ⟨y, hy, rfl⟩ := h; exact sim_extract (σ := σ) hT hy hv
  | load t x =>
    simp only [cop] at h
    split at h
    · rename_i ha; simp [Option.bind_eq_some_iff] at h; obtain ⟨n, hn, y, hy, rfl⟩ := h; exact sim_loadN hW hT ha hn hy hv
    · rename_i ha
      split at h
      · rename_i hu; simp [Option.bind_eq_some_iff] at h; obtain ⟨y, hy, rfl⟩ := h; exact sim_load1 hW hT (by simpa using ha) hu hy hv
      · cases h
  | binOp op t x y yt =>
    simp only [cop] at h
    split at h
    · rename_i ha
      split at h
      · rename_i hg; simp [Option.bind_eq_some_iff] at h; obtain ⟨cs, hf, x', hx, y', hy, rfl⟩ := h; exact sim_eqAgg (σ := σ) (neg := false) rfl ha (by simpa using hg) hf hT hx hy hv
      · cases h
    · rename_i ha
      split at h
      · rename_i hg; simp [Option.bind_eq_some_iff] at h; obtain ⟨cs, hf, x', hx, y', hy, rfl⟩ := h; exact sim_eqAgg (σ := σ) (neg := true) rfl ha (by simpa using hg) hf hT hx hy hv
      · cases h
    · cases h
    · split at h
      · rename_i hu; simp [Option.bind_eq_some_iff] at h; obtain ⟨x', hx, y', hy, rfl⟩ := h; exact sim_bin (σ := σ) (tk := .bool) hu hT hx hy hv
      · simp [Option.bind_eq_some_iff] at h; obtain ⟨x', hx, y', hy, rfl⟩ := h; exact sim_bin (σ := σ) (tk := .num) trivial hT hx hy hv
      · simp [Option.bind_eq_some_iff] at h; obtain ⟨x', hx, y', hy, rfl⟩ := h; exact sim_bin (σ := σ) (tk := .num) trivial hT hx hy hv
      · rename_i e hu; simp [Option.bind_eq_some_iff] at h; obtain ⟨x', hx, y', hy, rfl⟩ := h; exact sim_bin (σ := σ) (tk := .ptr) ⟨e, hu⟩ hT hx hy hv
      · rename_i e hu; simp [Option.bind_eq_some_iff] at h; obtain ⟨x', hx, y', hy, rfl⟩ := h; exact sim_bin (σ := σ) (tk := .sl) ⟨e, hu⟩ hT hx hy hv
      · cases h
  | convert s d x =>
    simp only [cop] at h
    split at h
    · rename_i ds k h1 h2; simp [Option.bind_eq_some_iff] at h; obtain ⟨y, hy, rfl⟩ := h; exact sim_toInt (σ := σ) (by rw [h1]; rfl) h2 hT hy hv
    · rename_i e h1 h2
      split at h
      · rename_i hu; simp [Option.bind_eq_some_iff] at h; obtain ⟨y, hy, rfl⟩ := h; exact sim_bytesStr hW h1 hu h2 hT hy hv
      · cases h
    · split at h
      · simp [Option.bind_eq_some_iff] at h
      · cases h
    · cases h
  | build t ps =>
    simp only [cop, bindSome] at h
    obtain ⟨z, hz, h⟩ := h
    split at h
    · rename_i fs hu
      split at h
      · rename_i hf; simp [Option.bind_eq_some_iff] at h; obtain ⟨l, hl, rfl⟩ := h; exact sim_buildS (σ := σ) hu hz hf hl hT hv
      · cases h
    · rename_i k e hu
      simp [Option.bind_eq_some_iff] at h
      obtain ⟨n, hn, l, hl, rfl⟩ := h; exact sim_buildA (σ := σ) hu hz hn hl hT hv
    · cases h
  | slice t x lo hi mx =>
    simp only [cop] at h
    split at h
    · rename_i hu
      split at h
      · simp [Option.bind_eq_some_iff] at h; obtain ⟨y, hy, lo', hlo, hi', hhi, rfl⟩ := h; exact sim_slStr (σ := σ) hu hT hy hlo hhi hv
      · cases h
    · rename_i e hu
      simp only [bindSome] at h
      obtain ⟨n, hn, h⟩ := h
      split at h
      · cases h
      · rename_i hc
        simp [Option.bind_eq_some_iff] at h; obtain ⟨y, hy, lo', hlo, hi', hhi, mx', hmx, rfl⟩ := h
        exact sim_slSl (σ := σ) hu hn (by cases mx <;> cases hi <;> simp_all) hT hy hlo hhi hmx hv
    · cases h
  | fieldAddr t x f =>
    simp only [cop] at h
    split at h
    · rename_i fs hu
      simp only [bindSome] at h
      obtain ⟨fd, hfd, n, hn, h⟩ := h
      split at h
      · cases h
      · rename_i h0; simp [Option.bind_eq_some_iff] at h; obtain ⟨y, hy, rfl⟩ := h; exact sim_fieldAddr (σ := σ) hu hfd hn h0 hT hy hv
    · cases h
  | indexAddr t x i =>
    simp only [cop] at h
    split at h
    · rename_i e hu; simp [Option.bind_eq_some_iff] at h; obtain ⟨n, hn, y, hy, i', hi, rfl⟩ := h; exact sim_ixSl (σ := σ) hu hn hT hy hi hv
    · cases h
  | call c =>
    simp only [cop] at h
    split at h
    · simp [Option.bind_eq_some_iff] at h
    · rename_i hc
      split at h
      · rename_i t x h1 h2
        split at h
        · rename_i hu; simp [Option.bind_eq_some_iff] at h; obtain ⟨y, hy, rfl⟩ := h; exact sim_lenStr (σ := σ) hc h1 h2 hu hT hy hv
        · rename_i e hu; simp [Option.bind_eq_some_iff] at h; obtain ⟨y, hy, rfl⟩ := h; exact sim_lenSl (σ := σ) hc h1 h2 hu hT hy hv
        · cases h
      · cases h
    · rename_i hc
      split at h
      · rename_i x xs h2; simp [Option.bind_eq_some_iff] at h; obtain ⟨y, hy, ys, hys, rfl⟩ := h; exact sim_max (σ := σ) hc h2 hT hy hys hv
      · cases h
    all_goals (
      simp only [cop, bindSome, pure, Option.some.injEq, reduceCtorEq, and_false, exists_false] at h
      repeat' first
        | contradiction
        | (cases h; done)
        | (obtain ⟨_, _, h⟩ := h)
        | split at h
        | (simp only [bindSome, pure, Option.some.injEq, reduceCtorEq, and_false, exists_false] at h))
  | _ =>
    simp only [cop, bindSome, pure, Option.some.injEq, reduceCtorEq, and_false, exists_false] at h
    repeat' first
      | contradiction
      | (cases h; done)
      | (obtain ⟨_, _, h⟩ := h)
      | split at h
      | (simp only [bindSome, pure, Option.some.injEq, reduceCtorEq, and_false, exists_false] at h)
end
end Go.Am
