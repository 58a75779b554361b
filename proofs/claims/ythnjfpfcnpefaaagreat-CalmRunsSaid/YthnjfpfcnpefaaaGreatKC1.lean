/-
  Calls that are known, loops that are known: how they are joined. Conditions: none.
-/
import Derived.Test.YthnjfpfcnpefaaaGreatKC0
namespace Go.Am
open Go.RowKit (Below)
/-- A call that is known. -/
structure KCall where
  f : Nat
  args : List AVal
  hs : List (Pos × Blk)
  ms : List (Pos × MBlk)
  next : Pos
  v : AVal
  out : S
noncomputable def hit (c : KCall) (f : Nat) (args : List AVal) (σ : S) : Bool := match c with
  | ⟨g, as, hs, ms, next, _, _⟩ => Nat.beq g f && (eqTs args as && lessB σ hs ms next)
noncomputable def kcall (l : List KCall) (call : Caller) (f : Nat) (args : List AVal) (σ : S) : Option (AVal × S) := match l with
  | [] => call f args σ
  | c :: l => match hit c f args σ with
    | true => some (c.v, c.out)
    | false => kcall l call f args σ
def KCall.Ok (P : Program) (c : KCall) : Prop := Known P c.f c.args (mkS c.hs c.ms c.next) c.v c.out
section
variable {P : Program} {w0 w : World} {m : Mp} {σ σ' L L' : S} {T T' U : Tm} {nt : Nat} {a : Act} {v : AVal} {call callO callD : Caller}
theorem kcall_sim (hC : SimCall P w0 call) : ∀ {l : List KCall}, (∀ c ∈ l, c.Ok P) → SimCall P w0 (kcall l call)
  | [], _ => hC
  | c :: l, hl => by
    intro f args σ v σ' w m xs h hW hx
    unfold kcall at h
    split at h
    · rename_i hh
      cases h
      obtain ⟨g, as, hs, ms, next, v, out⟩ := c
      simp only [hit, Bool.and_eq_true] at hh
      obtain ⟨h1, h2, h3⟩ := hh
      have h1 := Nat.eq_of_beq_eq_true h1
      have h2 := eqTs_to h2
      have h3 := lessB_ok h3
      subst h1 h2
      obtain ⟨k1, k2⟩ := hl _ List.mem_cons_self w0 w m xs (hW.less h3) hx
      exact ⟨k1, Calls.mono k2 fun e w' he => he.from h3.next⟩
    · exact kcall_sim hC (fun c hc => hl c (List.mem_cons_of_mem _ hc)) f args σ v σ' w m xs h hW hx
/-- Code, calls in the open and in drawn statements apart; loops by what is known of them. -/
noncomputable def evalC2 (callO callD : Caller) (lk : Tm → S → Out) : PC → Tm → S → Out
  | .skip => cSkip
  | .ops l => cOps callO l
  | .draw n l => cDraw callD n l
  | .seq a b => cSeq (evalC2 callO callD lk a) (evalC2 callO callD lk b)
  | .cond c a b => cCond c (evalC2 callO callD lk a) (evalC2 callO callD lk b)
  | .block id c => cBlock id (evalC2 callO callD lk c)
  | .loop _ => lk
  | .exit id => cExit id
  | .ret => cRet
/-- The loops that are in no other. -/
noncomputable def loopsOf : PC → List PC
  | .seq a b => loopsOf a ++ loopsOf b
  | .cond _ a b => loopsOf a ++ loopsOf b
  | .block _ c => loopsOf c
  | .loop c => [c]
  | _ => []
/-- A loop's rounds, from there, come to that. -/
def LoopOk (P : Program) (nt n : Nat) (p : PC) (T : Tm) (σ : S) (e : Ex) (T' : Tm) (σ' : S) : Prop := ∀ (w0 : World) (c : Code) (m : Mp) (a : Act) (w : World) (Q : Exit → Act → World → Prop), cc P nt c = some p → Rel w0 nt m T σ a w →
  (∀ a' w' m', Ext m m' σ σ' → Rel w0 nt m' T' σ' a' w' → Q (exOf e) a' w') → Code.rounds P c Q n a w
theorem loop_eval (hC : ∀ w0, SimCall P w0 call) (hD : ∀ w0, DrawSim P w0 call) {fuel : Nat} {p : PC} {e : Ex} : ∀ {n : Nat} {T : Tm} {σ : S}, iter (evalC call fuel p) n T σ = some (e, T', σ') → LoopOk P nt n p T σ e T' σ' := by
  intro n
  induction n with
  | zero => intro T σ hv; cases hv
  | succ n ihn =>
    intro T σ hv w0 c m a w Q hp hR K
    rw [iter_succ] at hv
    obtain ⟨e1, T1, σ1, h1, h2⟩ := thenC_eq hv
    rw [rounds_succ]
    refine code_step (hC w0) (hD w0) fuel c p hp T σ m a w e1 T1 σ1 _ h1 hR ?_
    intro a1 w1 m1 hE hR1
    rcases h2 with ⟨rfl, h2⟩ | ⟨hne, h2⟩
    · exact ihn h2 w0 c m1 a1 w1 Q hp hR1 fun a2 w2 m2 hE2 hR2 => K a2 w2 m2 (hE.trans hE2) hR2
    · cases h2
      cases e with
      | normal => exact absurd rfl hne
      | exit id => exact K a1 w1 m1 hE hR1
      | ret => exact K a1 w1 m1 hE hR1
theorem loop_round (hC : ∀ w0, SimCall P w0 call) (hD : ∀ w0, DrawSim P w0 call) {fuel n : Nat} {p : PC} {e : Ex} {T1 : Tm} {σ1 : S} (h1 : evalC call fuel p T σ = some (.normal, T1, σ1)) (h2 : LoopOk P nt n p T1 σ1 e T' σ') : LoopOk P nt (n + 1) p T σ e T' σ' := by
  intro w0 c m a w Q hp hR K
  rw [rounds_succ]
  refine code_step (hC w0) (hD w0) fuel c p hp T σ m a w .normal T1 σ1 _ h1 hR ?_
  intro a1 w1 m1 hE hR1
  exact h2 w0 c m1 a1 w1 Q hp hR1 fun a2 w2 m2 hE2 hR2 => K a2 w2 m2 (hE.trans hE2) hR2
theorem LoopOk.from {n : Nat} {p : PC} {e : Ex} (h : LoopOk P nt n p U L e T' σ') (l : Less L σ) (t : TmEq T U) : LoopOk P nt n p T σ e T' σ' :=
  fun w0 c m a w Q hp hR K => h w0 c m a w Q hp (hR.less l t) fun a' w' m' hE hR' => K a' w' m' (hE.from l.next) hR'
theorem LoopOk.to {n : Nat} {p : PC} {e : Ex} (h : LoopOk P nt n p T σ e T' σ') (l : Less L σ') (t : TmEq T' U) : LoopOk P nt n p T σ e U L :=
  fun w0 c m a w Q hp hR K => h w0 c m a w Q hp hR fun a' w' m' hE hR' => K a' w' m' (hE.to l.next) (hR'.less l t)
theorem code_step2 (hO : SimCall P w0 callO) (hD : DrawSim P w0 callD) (lk : Tm → S → Out) (c : Code) : ∀ (pc : PC), cc P nt c = some pc → (∀ p ∈ loopsOf pc, ∀ T σ e T' σ', lk T σ = some (e, T', σ') → ∃ n, LoopOk P nt n p T σ e T' σ') →
    ∀ T σ m a w e T' σ' Q, evalC2 callO callD lk pc T σ = some (e, T', σ') → Rel w0 nt m T σ a w →
    (∀ a' w' m', Ext m m' σ σ' → Rel w0 nt m' T' σ' a' w' → Q (exOf e) a' w') → c.wp P Q a w := by
  induction c with
  | skip =>
    intro pc h _ T σ m a w e T' σ' Q hv hR K
    cases h; cases hv
    exact wp_skip (K _ _ m (Ext.refl _ _) hR)
  | label l =>
    intro pc h _ T σ m a w e T' σ' Q hv hR K
    cases h; cases hv
    exact wp_label (K _ _ m (Ext.refl _ _) hR)
  | exit id =>
    intro pc h _ T σ m a w e T' σ' Q hv hR K
    cases h; cases hv
    exact wp_exit (K _ _ m (Ext.refl _ _) hR)
  | ret =>
    intro pc h _ T σ m a w e T' σ' Q hv hR K
    cases h; cases hv
    exact wp_ret (K _ _ m (Ext.refl _ _) hR)
  | region id ops draw =>
    intro pc h _ T σ m a w e T' σ' Q hv hR K
    cases draw with
    | false =>
      simp only [cc] at h
      cases hp : cpops P nt ops ops.toList with
      | none => rw [hp] at h; cases h
      | some l =>
        rw [hp] at h; cases h
        have hv : cOps callO l T σ = some (e, T', σ') := hv
        unfold cOps at hv
        obtain ⟨⟨T1, σ1⟩, h1, h2⟩ := andThen_eq.1 hv
        cases h2
        refine wp_region ?_
        have := ops_step (Q := Q) hO (ops := ops) l 0 T σ m a w T' σ' (by simpa using hp) h1 hR K
        simpa [List.range_eq_range'] using this
    | true =>
      simp only [cc] at h
      cases hp : planOf P nt ops with
      | none => rw [hp] at h; cases h
      | some l =>
        rw [hp] at h; cases h
        have hv : cDraw callD ops.size l T σ = some (e, T', σ') := hv
        unfold cDraw at hv
        obtain ⟨σ1, h1, hv⟩ := andThen_eq.1 hv
        obtain ⟨⟨T2, σ2⟩, h2, h3⟩ := andThen_eq.1 hv
        cases h3
        exact hD nt ops l id T σ m a w T' σ' σ1 Q hp h1 h2 hR K
  | seq x y ihx ihy =>
    intro pc h hL T σ m a w e T' σ' Q hv hR K
    simp only [cc] at h
    split at h
    · rename_i px py hx hy
      cases h
      have hv : thenC (evalC2 callO callD lk py) (evalC2 callO callD lk px T σ) = some (e, T', σ') := hv
      obtain ⟨e1, T1, σ1, h1, h2⟩ := thenC_eq hv
      refine wp_seq (ihx px hx (fun p hp => hL p (List.mem_append_left _ hp)) T σ m a w e1 T1 σ1 _ h1 hR ?_)
      intro a1 w1 m1 hE hR1
      rcases h2 with ⟨rfl, h2⟩ | ⟨hne, h2⟩
      · exact ihy py hy (fun p hp => hL p (List.mem_append_right _ hp)) T1 σ1 m1 a1 w1 e T' σ' Q h2 hR1 fun a2 w2 m2 hE2 hR2 => K a2 w2 m2 (hE.trans hE2) hR2
      · cases h2
        cases e with
        | normal => exact absurd rfl hne
        | exit id => exact K a1 w1 m1 hE hR1
        | ret => exact K a1 w1 m1 hE hR1
    · cases h
  | cond c x y ihx ihy =>
    intro pc h hL T σ m a w e T' σ' Q hv hR K
    simp only [cc] at h
    split at h
    · rename_i pc' px py hc hx hy
      cases h
      have hv : cCond pc' (evalC2 callO callD lk px) (evalC2 callO callD lk py) T σ = some (e, T', σ') := hv
      unfold cCond at hv
      have hcv := copd_ok hR.tr hc
      split at hv
      · rename_i t ht
        rw [ht] at hcv
        refine wp_cond hcv.bool ?_
        cases t with
        | true => exact ihx px hx (fun p hp => hL p (List.mem_append_left _ hp)) T σ m a w e T' σ' Q hv hR K
        | false => exact ihy py hy (fun p hp => hL p (List.mem_append_right _ hp)) T σ m a w e T' σ' Q hv hR K
      · cases hv
    · cases h
  | block id c ih =>
    intro pc h hL T σ m a w e T' σ' Q hv hR K
    simp only [cc] at h
    cases hp : cc P nt c with
    | none => rw [hp] at h; cases h
    | some p =>
      rw [hp] at h; cases h
      have hv : cBlock id (evalC2 callO callD lk p) T σ = some (e, T', σ') := hv
      unfold cBlock at hv
      obtain ⟨⟨e1, T1, σ1⟩, h1, hv⟩ := andThen_eq.1 hv
      refine wp_block (ih p hp hL T σ m a w e1 T1 σ1 _ h1 hR ?_)
      intro a1 w1 m1 hE hR1
      cases e1 with
      | normal => cases hv; exact K a1 w1 m1 hE hR1
      | ret => cases hv; exact K a1 w1 m1 hE hR1
      | exit i =>
        simp only at hv
        show (if i = id then Q .normal a1 w1 else Q (.exit i) a1 w1)
        cases hb : Nat.beq i id with
        | true =>
          rw [hb] at hv
          cases hv
          rw [if_pos (Nat.eq_of_beq_eq_true hb)]
          exact K a1 w1 m1 hE hR1
        | false =>
          rw [hb] at hv
          cases hv
          rw [if_neg (fun e => by subst e; simp at hb)]
          exact K a1 w1 m1 hE hR1
  | loop c ih =>
    intro pc h hL T σ m a w e T' σ' Q hv hR K
    simp only [cc] at h
    cases hp : cc P nt c with
    | none => rw [hp] at h; cases h
    | some p =>
      rw [hp] at h; cases h
      have hv : lk T σ = some (e, T', σ') := hv
      obtain ⟨n, hn⟩ := hL p List.mem_cons_self T σ e T' σ' hv
      exact wp_loop_rounds n (hn w0 c m a w Q hp hR K)
  | scope c ih =>
    intro pc h hL T σ m a w e T' σ' Q hv hR K
    simp only [cc] at h
    refine wp_scope_straight (ih pc h hL T σ m a w e T' σ' _ hv hR ?_)
    intro a1 w1 m1 hE hR1
    have := K a1 w1 m1 hE hR1
    cases e <;> exact this
  | _ => intro pc h; simp only [cc] at h; cases h
noncomputable def runC2 (callO callD : Caller) (lk : Tm → S → Out) (slots : List Slot) (body : PC) (res : List PRes) (args : List AVal) (σ : S) : Option (AVal × S) := enterK args slots Ts.empty fun T => andThen (evalC2 callO callD lk body T σ) fun x => match x with
    | (e, T, σ) => match e with
      | .normal => leave res T σ
      | .ret => leave res T σ
      | .exit _ => none
/-- A function whose loops are known. -/
theorem fn_step2 (hO : SimCall P w0 callO) (hD : DrawSim P w0 callD) {lk : Tm → S → Out} {f : Nat} {slots : List Slot} {body : PC} {res : List PRes} (hp : tabOf P f = some (.code slots body res))
    (hL : ∀ p ∈ loopsOf body, ∀ T σ e T' σ', lk T σ = some (e, T', σ') → ∀ nt, ∃ n, LoopOk P nt n p T σ e T' σ') {args : List AVal} {xs : Array Value} (hv : runC2 callO callD lk slots body res args σ = some (v, σ'))
    (hW : WR w0 m σ w) (hx : VRs m args xs.toList) : (callFunc f xs).run P w = .ok (.enter f xs) w ∧ Calls P f xs w (DoneE w0 m σ v σ') := by
  unfold tabOf at hp
  cases hf : P.funcs[f]? with
  | none => rw [hf] at hp; cases hp
  | some fn =>
    rw [hf] at hp
    have hp : cfn P fn = some (.code slots body res) := hp
    unfold cfn at hp
    simp only [bindSome] at hp
    obtain ⟨body', hb, hp⟩ := hp
    split at hp
    · cases hp
    · rename_i hname
      simp only [bindSome] at hp
      obtain ⟨slots', hs, pc, hpc, res', hres, hp⟩ := hp
      cases hp
      have hT0 : TR m Ts.empty ((#[] : Array Value) ++ Array.replicate fn.ntmps Go.undef) := by
        intro t s hs
        rw [Tm.at_eq, Ts.get_empty]
        have : ((#[] : Array Value) ++ Array.replicate fn.ntmps Go.undef).getD t Go.undef = Go.undef := by
          by_cases h : t < fn.ntmps <;> simp [Array.getD_eq_getD_getElem?, h]
        rw [this]; exact .undef
      unfold runC2 at hv
      obtain ⟨hle, T', hT', hk⟩ := enter_ok args xs.toList fn.ntmps 0 slots _ #[] hs rfl hx hT0 hv
      obtain ⟨⟨e, T2, σ2⟩, h1, h2⟩ := andThen_eq.1 hk
      constructor
      · have hname : ¬ fn.name = "runtime.NumGoroutine" := fun h => hname (by rw [h]; decide)
        simp [callFunc, hf, hname, hb]
      · refine calls_of_wp hf hb (code_step2 hO hD lk body' body hpc (fun p hp T σ e T' σ' hlk => hL p hp T σ e T' σ' hlk _) T' σ m _ w e T2 σ2 _ h1 ⟨hW, by simpa using hT', by simp at hle ⊢; omega, rfl⟩ ?_)
        intro a' w' m' hE hR
        have fin : leave res T2 σ2 = some (v, σ') → a'.defers = [] ∧ ∃ x, (results fn a'.tmps).run P w' = .ok x w' ∧ DoneE w0 m σ v σ' (.returned x) w' := by
          intro hl
          obtain ⟨x, g1, g2, rfl⟩ := leave_run hres hR.wr hR.tr hl
          exact ⟨hR.defers, x, g1, m', g2, hE, hR.wr⟩
        cases e with
        | normal => exact fin h2
        | ret => exact fin h2
        | exit id => cases h2
end
end Go.Am
