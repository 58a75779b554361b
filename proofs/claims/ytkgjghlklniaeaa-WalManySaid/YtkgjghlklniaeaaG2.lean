/-
  The game of the log, as conditions over the evaluator. Conditions: none.
-/
import Derived.Test.YtkgjghlklniaeaaG1
namespace Go.Am
theorem storeW_fr (n : Nat) (x v : AVal) : FrW (storeW n x v) :=
  FrW.thenO (cellsOf v) fun cs _ => store_fr n cs x
theorem load1_fr (x : AVal) : FrR (vLoad1 x) := q_fr (.load1 (.val x)) Ts.empty
theorem loadN_fr (n : Nat) (x : AVal) : FrR (vLoadN n x) := q_fr (.loadN n (.val x)) Ts.empty
theorem bytesStr_fr (x : AVal) : FrR (vBytesStr x) := q_fr (.bytesStr (.val x)) Ts.empty
section
variable {tab : Nat → Option PFn} {σ σ1 : S} {Q : AVal → S → Prop} {g p : Pos} {now safe : Rw} {cs : List Cl} {dead : Bool} {q a e : Nat} {blk : Blk} {ys : List AVal}
theorem Eff_fr {F : S → Option (AVal × S)} {v : AVal} {K : AVal → S → Prop} (hF : FrW F) (hb : Beside p σ) (h : F σ = some (v, σ1)) (k : Beside p σ1 → K v (σ1.lay p ⟨e, .ex, ys⟩)) : Eff (F (σ.lay p ⟨e, .ex, ys⟩)) K := by
  obtain ⟨h1, h2⟩ := hF _ _ _ h
  obtain ⟨h3, h4⟩ := h2 p ⟨e, .ex, ys⟩ hb.lt hb.f (fun _ _ e => by cases e)
  rw [h4]
  exact k ⟨h3, by have := hb.lt; omega⟩
theorem Som_fr {α : Type} {F : S → Option α} {v : α} {K : α → Prop} (hF : FrR F) (hb : Beside p σ) (h : F σ = some v) (k : K v) : Som (F (σ.lay p ⟨e, .ex, ys⟩)) K := by
  rw [hF _ _ h p _ hb.f (fun _ _ e => by cases e)]; exact k
theorem new_lay (hb : Beside p σ) (b : Blk) : (σ.lay p ⟨e, .ex, ys⟩).new b = (σ.new b).lay p ⟨e, .ex, ys⟩ ∧ Beside p (σ.new b) := by
  obtain ⟨h1, h2⟩ := alloc_fr b σ _ _ (alloc_new σ b)
  obtain ⟨h3, h4⟩ := h2 p ⟨e, .ex, ys⟩ hb.lt hb.f (fun _ _ e => by cases e)
  have h4 : (σ.lay p ⟨e, .ex, ys⟩).alloc b = _ := h4
  rw [alloc_new] at h4
  exact ⟨by injection h4 with h; injection h, h3, by have := hb.lt; omega⟩
theorem Ala_fr {o : Option (Blk × (Pos → AVal))} {K : AVal → S → Prop} {b : Blk} {mk : Pos → AVal} (hb : Beside p σ) (h : o = some (b, mk)) (k : Beside p (σ.new b) → K (mk σ.next) ((σ.new b).lay p ⟨e, .ex, ys⟩)) : Ala o (σ.lay p ⟨e, .ex, ys⟩) K := by
  rw [h]
  show K (mk (σ.lay p ⟨e, .ex, ys⟩).next) ((σ.lay p ⟨e, .ex, ys⟩).new b)
  rw [(new_lay hb b).1, lay_next]
  exact k (new_lay (e := e) (ys := ys) hb b).2
theorem boxE_new (ho : Ok σ) (e : Nat) (cs : List AVal) : Keep0 σ (σ.new ⟨e, .ex, cs⟩) ∧ (σ.new ⟨e, .ex, cs⟩).blk σ.next = some ⟨e, .ex, cs⟩ :=
  ⟨Keep.new ho _, by rw [blk_new, if_pos rfl]; rfl⟩
theorem append_full {n : Nat} {x v : AVal} (hb : σ.blk p = some ⟨e, .ex, ys⟩) (hl : ys.length = n) (hk : slLen x = some 1) (hr : slRead 1 1 x σ = some [v]) (hf : n + 1 ≤ 1000000) :
    appendA 1 1 (.sl p 0 n n) x σ = some (.slu σ.next 0 (n + 1) 1, σ.new ⟨1, .fam Pos.first 0, ys ++ [v]⟩) := by
  unfold appendA
  rw [hk, andThen_s]
  simp only [forceNat_eq]
  show appSl 1 1 p 0 n n (0 + 1) x σ = _
  unfold appSl
  have hb2 : Nat.ble (n + (0 + 1)) n = false := by
    cases h : Nat.ble (n + (0 + 1)) n with
    | false => rfl
    | true => have := Nat.le_of_ble_eq_true h; omega
  rw [hb2]
  show test (fits (n + (0 + 1)) 1) _ = _
  rw [fits_of (by omega), test_tt, rdN_of (fun _ => hb) (fun _ => by show 0 + n * 1 ≤ ys.length; omega), andThen_s]
  show andThen (slRead 1 1 x σ) _ = _
  rw [hr, andThen_s, appL_eq, newFam_of]
  show some (AVal.slu σ.next 0 (n + (0 + 1)) 1, σ.new ⟨1, .fam Pos.first 0, (ys.drop 0).take (n * 1) ++ [v]⟩) = _
  rw [List.drop_zero, Nat.mul_one, List.take_of_length_le (by omega)]
theorem repz_bytesV (n : Nat) : repN n [.int .u8 0] = bytesV (List.replicate n 0) := by
  rw [repN_one]
  induction n with
  | zero => rfl
  | succ n ih => rw [List.replicate_succ, List.replicate_succ]; show _ = AVal.int .u8 ((0 : Nat) : Int) :: bytesV _; rw [← ih]; rfl
theorem opt_call {b : Bool} {f : Nat} {o : Option AVal} {v w : AVal} {P : S → Prop} {K : AVal → AVal → AVal → AVal → AVal → S → Prop} (ho : o = some w)
    (h : b = true → ∀ Q' : AVal → S → Prop, (∀ σ', P σ' → Q' (.bool true) σ') → WF tab f [v, w] σ Q') (hn : b = false → P σ) (hK : ∀ t1 t2 t3 t4 t5 σ', P σ' → K t1 t2 t3 t4 t5 σ') :
    Som (gq1 (isB (.bool b) true) (some v)) fun t1 => Som (gq1 (isB (.bool b) true) o) fun t2 => gE1 (isB (.bool b) true) (fun K => WF tab f [t1, t2] σ K) σ fun t3 σ5 => Som (gq1 (isB (.bool b) true) (unA .not t3)) fun t4 =>
      Som (vPick (.bool b) t4 (.bool false)) fun t5 => WIf t5 (Ret [some (.bool false)] σ5 Q) (K t1 t2 t3 t4 t5 σ5) := by
  cases b with
  | true =>
    refine Sq_of rfl rfl (Sq_of rfl ho (GE_t rfl ?_))
    refine h rfl _ fun σ' hP => ?_
    refine Sq_of rfl (un_not _) (Som_of (v := .bool false) rfl ?_)
    rw [WIf_false]; exact hK _ _ _ _ _ σ' hP
  | false =>
    refine Sn_of rfl (Sn_of rfl (GE_n rfl (Sn_of rfl (Som_of (v := .bool false) rfl ?_))))
    rw [WIf_false]; exact hK _ _ _ _ _ σ (hn rfl)
theorem many_c (ht : Tab tab) (ho : Ok σ) {n every size keep torn : Int}
    (h13 : ∀ (σ1 : S) (Q1 : AVal → S → Prop), (∀ σ2, Q1 (.bool true) σ2) → WF tab 13 [] σ1 Q1) (hQ : ∀ σ', Q (.bool true) σ') : WF tab 7 [.int .i64 n, .int .i64 every, .int .i64 size, .int .i64 keep, .int .i64 torn] σ Q := by
  refine f7_wf ht.t7 ?_
  unfold f7
  refine begin_g ht ho (q := 131072) (by omega) fun g σ1 hg => ?_
  refine Som_of rfl (Som_of rfl (Som_of (un_not _) ?_))
  rw [show (!true) = false from rfl]
  refine Sq_of rfl rfl (Sq_of rfl (eql_pn _ _) (Som_of (v := .bool false) rfl ?_))
  rw [WIf_false]
  refine within_c ht (by omega) (by omega) (by omega) fun n hn1 hn2 => ?_
  refine within_c ht (by omega) (by omega) (by omega) fun ev he1 he2 => ?_
  refine within_c ht (by omega) (by omega) (by omega) fun size hs1 hs2 => ?_
  obtain ⟨m, rfl⟩ := Int.eq_ofNat_of_zero_le hs1
  refine Ala_of (make_of (Nat.le_refl m) (by omega) (by omega)) ?_
  obtain ⟨n1, b1⟩ := beside_new hg.ok 1 (repN m [.int .u8 0])
  rw [n1]
  have hg1 := hg.k0 (Keep.bump hg.ok 1)
  rw [repz_bytesV]
  generalize σ1.next = p at *
  generalize σ1.bumpT 1 = σ2 at *
  clear n1 hg
  -- behind the loop
  have fin : ∀ (E : En) (σ2 : S) (a : Nat) (now safe : Rw) (cs : List Cl) (dead : Bool), Gm σ σ2 g a 131072 now safe cs dead → Beside p σ2 → a ≤ 980 → E 3 = .int .i64 keep → E 4 = .int .i64 torn → E 11 = .ptr g 0 →
      f7.J1 (WF tab) Q E (σ2.lay p ⟨1, .ex, bytesV (List.replicate m 0)⟩) := by
    intro E σ2 a now safe cs dead hg hb ha e3 e4 e11
    refine f7.p1_of ?_
    unfold f7.p1
    rw [e3, e4, e11]
    obtain ⟨l3, hl3, hrow⟩ := told_c ht hg
    refine Som_of rfl (Som_of (vField0 _ _ _) (Som_fr (load1_fr _) hb hl3 ?_))
    refine beside_c hb (hrow fun v m' σ4 hv k4 hm4 b4 => ?_)
    refine Som_of rfl (Som_of rfl ?_)
    have hg4 := hg.k0 k4
    obtain ⟨k5, b8, n5⟩ := box_new k4.ok [AVal.int .i64 0, .nsl]
    refine Ala_fr b4 (show aAllocV [AVal.int .i64 0, .nsl] = some (⟨0, .ex, [.int .i64 0, .nsl]⟩, fun p => .ptr p 0) from rfl) fun b5 => ?_
    generalize hp8 : σ4.next = p8 at *
    generalize σ4.new ⟨0, .ex, [AVal.int .i64 0, .nsl]⟩ = σ5 at *
    have r5 : RbAt σ5 p8 ⟨0, []⟩ .nsl 0 := ⟨b8, SlAt.nil σ5 1 0⟩
    obtain ⟨σ6, es6, r6, k6, n6⟩ := r5.set (r' := now) k5.ok (hv.k0 k5) (fun hz => by have := hm4 hz; omega)
    refine Eff_fr (storeW_fr _ _ _) b5 es6 fun b6 => ?_
    have k46 : Keep0 σ4 σ6 := k5.then k4.ok k6 fun x hx e => by rw [hp8] at hx; omega
    have kb : Keep0 σ6 (σ6.bumpT 20) := Keep.bump k46.ok 20
    have hg7 := hg4.k0 (k46.trans kb)
    have r7 := r6.k0 kb
    rw [lay_bump]
    have b7 := b6.bump 20
    generalize σ6.bumpT 20 = σ7 at *
    have hg7' := hg7
    obtain ⟨G, M, l, d, L, D, rv, mr, nv, sv, cv, mc, cc, h7, hp7, _, _⟩ := hg7'
    obtain ⟨nm, sn, _⟩ := h7.now
    refine Sq_of rfl (loadN_fr _ _ _ _ r7.ld p _ b7.f (fun _ _ e => by cases e)) (Sq_of rfl rfl (Sq_of rfl rfl (Sq_of rfl (vField0 _ _ _) (Sq_of rfl (ldN (n := 2) (xs := [.int .i64 (now.first : Int), nv]) (b7.at h7.blk _) (by simp [gmCells]) rfl) (GE_t rfl ?_)))))
    refine beside_c b7 ?_
    refine same_c ht (b := now) hg7.ok r7.2 sn (by have := hp7.nl; have := hp7.ab; omega) fun σ8 k8 b8 => ?_
    rw [decide_eq_true rfl]
    refine Som_of rfl (Sq_of rfl rfl (Sq_of rfl rfl (Sq_of rfl rfl (Sq_of rfl (show vBuild [AVal.int .i64 0, .int .i64 0, .int .i64 0, .int .i64 0, .int .i64 0, .bool false, .nsl] [(3, 1, .int .i64 torn), (4, 1, .int .i64 keep)] = some (Ak.val ⟨0, 0, 0, torn, keep, false, []⟩ .nsl) from rfl) (GE_t rfl ?_)))))
    refine beside_c b8 ?_
    refine reopen_c ht ho (hg7.k0 k8) (by omega) (n := 0) (by omega) fun σ9 now9 hg9 b9 => ?_
    refine Som_of rfl (GE_t rfl (h13 _ _ fun σ9 => ?_))
    refine Som_of rfl ?_
    rw [Ret_1 rfl]; exact hQ σ9
  have loop : ∀ (c : Nat) (E : En) (σ2 : S) (i a : Nat) (now safe : Rw) (cs : List Cl) (dead : Bool), Gm σ σ2 g a 131072 now safe cs dead → Beside p σ2 → i + c = 120 → a ≤ 1 + 3 * i + 7 * (i / 41) → E 0 = .int .i64 n → E 1 = .int .i64 ev → E 3 = .int .i64 keep → E 4 = .int .i64 torn → E 11 = .ptr g 0 → E 13 = .sl p 0 m m → E 14 = .int .i64 (i : Int) →
      f7.L0 (WF tab) Q E (σ2.lay p ⟨1, .ex, bytesV (List.replicate m 0)⟩) := by
    intro c
    induction c with
    | zero =>
      intro E σ2 i a now safe cs dead hg hb hi ha e0 e1 e3 e4 e11 e13 e14
      refine f7.p0_of ?_
      unfold f7.p0
      rw [e0, e14]
      refine Som_of (bin_lss _ _ _ _) (WIf_f (by omega) ?_)
      exact fin _ σ2 a now safe cs dead hg hb (by omega) (by simp [e3]) (by simp [e4]) (by simp [e11])
    | succ c ih =>
      intro E σ2 i a now safe cs dead hg hb hi ha e0 e1 e3 e4 e11 e13 e14
      refine f7.p0_of ?_
      unfold f7.p0
      rw [e0, e1, e3, e4, e11, e13, e14]
      refine Som_of (bin_lss _ _ _ _) (WIf_dec (fun hlt => ?_) (fun _ => ?_))
      case refine_2 => exact fin _ σ2 a now safe cs dead hg hb (by omega) (by simp [e3]) (by simp [e4]) (by simp [e11])
      refine Som_of (vToInt_int _ _ _) ?_
      rw [u8_wrap, Nat.mod_eq_of_lt (by omega)]
      obtain ⟨k3, b3⟩ := boxE_new hg.ok 1 [.int .u8 (i : Int)]
      refine Ala_fr hb (made1 (.int .u8 (i : Int)) rfl (.int .u8 0)) fun bb3 => ?_
      have hg3 := hg.k0 k3
      generalize hx : σ2.next = px at *
      generalize σ2.new ⟨1, .ex, [.int .u8 (i : Int)]⟩ = σ3 at *
      have sx : SlAt σ3 (.sl px 0 1 1) 1 1 [.int .u8 (i : Int)] px.nat := ⟨rfl, rfl, Nat.le_refl _, fun _ => ⟨_, b3, rfl, Nat.le_refl _, rfl⟩⟩
      -- the record
      have hlz : (bytesV (List.replicate m 0)).length = m := by rw [bytesV_len, List.length_replicate]
      have hap := append_full (σ := σ3.lay p ⟨1, .ex, bytesV (List.replicate m 0)⟩) (p := p) (n := m) (x := .sl px 0 1 1) (v := .int .u8 (i : Int)) (blk_self _) hlz rfl (slRead_fr _ _ _ _ _ (sx.slRead (Nat.le_refl 1)) p _ bb3.f (fun _ _ e => by cases e)) (by omega)
      obtain ⟨nl4, bb4⟩ := new_lay (e := 1) (ys := bytesV (List.replicate m 0)) bb3 ⟨1, .fam Pos.first 0, bytesV (List.replicate m 0) ++ [.int .u8 (i : Int)]⟩
      rw [nl4, lay_next] at hap
      have hbs : bytesV (List.replicate m 0) ++ [.int .u8 (i : Int)] = bytesV (List.replicate m 0 ++ [i]) := by rw [bytesV_app]; rfl
      obtain ⟨g4, k4⟩ := newFam_gr (M := fun _ => False) hg3.ok (esz := 1) (n := m + 1) (cells := bytesV (List.replicate m 0) ++ [.int .u8 (i : Int)]) (by rw [List.length_append, hlz, Nat.mul_one]; rfl)
      refine Eff_of hap ?_
      have hg4 := hg3.k0 k4
      rw [hbs] at g4 hg4 bb4 ⊢
      clear hap nl4
      generalize σ3.next = p4 at *
      generalize σ3.new ⟨1, .fam Pos.first 0, bytesV (List.replicate m 0 ++ [i])⟩ = σ4 at *
      have s4 : BySl σ4 (.slu p4 0 (m + 1) 1) (List.replicate m 0 ++ [i]) p4.nat := by
        have := g4.sl
        unfold BySl
        rw [List.length_append, List.length_replicate]
        exact this
      have hby : Bytes (List.replicate m 0 ++ [i]) := fun c hc => by
        rcases List.mem_append.1 hc with h | h
        · rw [List.eq_of_mem_replicate h]; omega
        · rw [List.mem_singleton.1 h]; omega
      refine Som_fr (bytesStr_fr _) bb4 (s4.str hby) ?_
      obtain ⟨k5, b5⟩ := boxE_new hg4.ok 1 [.str (List.replicate m 0 ++ [i])]
      refine Ala_fr bb4 (made1 (.str (List.replicate m 0 ++ [i])) rfl (.str [])) fun bb5 => ?_
      have hg5 := hg4.k0 k5
      generalize hx5 : σ4.next = p5 at *
      generalize σ4.new ⟨1, .ex, [.str (List.replicate m 0 ++ [i])]⟩ = σ5 at *
      have s5 : SsAt σ5 (.sl p5 0 1 1) [List.replicate m 0 ++ [i]] p5.nat := ⟨rfl, rfl, Nat.le_refl _, fun _ => ⟨_, b5, rfl, Nat.le_refl _, rfl⟩⟩
      refine Som_of (show vBuild [AVal.int .i64 0, .int .i64 0, .int .i64 0, .int .i64 0, .int .i64 0, .bool false, .nsl] [(0, 1, .int .i64 1), (6, 1, .sl p5 0 1 1)] = some (Ak.val ⟨1, 0, 0, 0, 0, false, [List.replicate m 0 ++ [i]]⟩ (.sl p5 0 1 1)) from rfl) ?_
      refine beside_c bb5 ?_
      refine change_c ht ho hg5 (by omega) (ak := ⟨1, 0, 0, 0, 0, false, [List.replicate m 0 ++ [i]]⟩) s5 ⟨by simp [I64], by simp [I64], by simp [I64], by simp [I64], by simp [I64]⟩ (k := 1) rfl (.inl rfl) (fun r hr => by rw [List.mem_singleton.1 hr]; exact hby) (bd := 2) ⟨by simp, by omega⟩ fun σ6 now6 cs6 dead6 hg6 bb6 => ?_
      refine Som_of (un_not _) ?_
      rw [show (!true) = false from rfl, WIf_false]
      clear hg5 bb5 s5 b5 k5 hg4 bb4 s4 g4 k4 hg3 bb3 sx b3 k3
      -- synced now and then
      refine Som_of (bin_rem _ _ _ _ (by omega)) (Som_of (bin_eql _ _ _ _) ?_)
      refine opt_call (P := fun τ => ∃ σ' now' safe' cs' dead', τ = σ'.lay p ⟨1, .ex, bytesV (List.replicate m 0)⟩ ∧ Gm σ σ' g (a + 2) 131072 now' safe' cs' dead' ∧ Beside p σ') (w := Ak.val ⟨4, 0, 0, 0, 0, false, []⟩ .nsl) rfl (fun _ Q' hP => ?_) (fun _ => ⟨σ6, now6, safe, cs6, dead6, rfl, hg6, bb6⟩) fun t1 t2 t3 t4 t5 σ7' hP7 => ?_
      · refine beside_c bb6 ?_
        exact step_c ht ho hg6 (by omega) (ak := ⟨4, 0, 0, 0, 0, false, []⟩) (w := .nsl) (m := 0) (SlAt.nil σ6 1 0) ⟨by simp [I64], by simp [I64], by simp [I64], by simp [I64], by simp [I64]⟩ (by simp) (bd := 0) (.inr ⟨rfl, by omega⟩) fun σ7 now7 safe7 cs7 dead7 hg7 bb7 => hP _ ⟨_, _, _, _, _, rfl, hg7, bb7⟩
      obtain ⟨σ7, now7, safe7, cs7, dead7, rfl, hg7, bb7⟩ := hP7
      -- dropped now and then
      refine Som_of (bin_rem _ _ _ _ (by omega)) (Som_of (bin_eql _ _ _ _) ?_)
      refine opt_call (P := fun τ => ∃ σ' now' safe' cs' dead', τ = σ'.lay p ⟨1, .ex, bytesV (List.replicate m 0)⟩ ∧ Gm σ σ' g (a + 3) 131072 now' safe' cs' dead' ∧ Beside p σ') (w := Ak.val ⟨3, 12, 0, 0, 0, false, []⟩ .nsl) rfl (fun _ Q' hP => ?_) (fun _ => ⟨σ7, now7, safe7, cs7, dead7, rfl, hg7.up (by omega) (by omega), bb7⟩) fun u1 u2 u3 u4 u5 σ8' hP8 => ?_
      · refine beside_c bb7 ?_
        exact change_c ht ho hg7 (by omega) (ak := ⟨3, 12, 0, 0, 0, false, []⟩) (w := .nsl) (m := 0) (SlAt.nil σ7 1 0) ⟨by simp [I64], by simp [I64], by simp [I64], by simp [I64], by simp [I64]⟩ (k := 3) rfl (.inr (.inr rfl)) (by simp) (bd := 1) ⟨by simp, by omega⟩ fun σ8 now8 cs8 dead8 hg8 bb8 => hP _ ⟨_, _, _, _, _, rfl, hg8, bb8⟩
      obtain ⟨σ8, now8, safe8, cs8, dead8, rfl, hg8, bb8⟩ := hP8
      -- opened again now and then
      refine Som_of (bin_rem _ _ _ _ (by omega)) (Som_of (bin_eql _ _ _ _) ?_)
      rw [show Int.tmod (i : Int) 41 = ((i % 41 : Nat) : Int) from rfl]
      by_cases hr : ((i % 41 : Nat) : Int) = 40
      · rw [decide_eq_true hr]
        refine Sq_of rfl rfl (Sq_of rfl rfl (Sq_of rfl rfl (Sq_of rfl (show vBuild [AVal.int .i64 0, .int .i64 0, .int .i64 0, .int .i64 0, .int .i64 0, .bool false, .nsl] [(3, 1, .int .i64 keep), (4, 1, .int .i64 torn)] = some (Ak.val ⟨0, 0, 0, keep, torn, false, []⟩ .nsl) from rfl) (GE_t rfl ?_))))
        refine beside_c bb8 ?_
        refine reopen_c ht ho hg8 (by omega) (n := 0) (by omega) fun σ9 now9 hg9 bb9 => ?_
        refine Sq_of rfl (un_not _) (Som_of (v := .bool false) rfl ?_)
        rw [WIf_false]
        refine Som_of (bin_add _ _ _ _) ?_
        rw [wrap_i64_in (n := (i : Int) + 1) (by omega) (by omega)]
        exact ih _ σ9 (i + 1) (a + 3 + 7) now9 now9 [] false hg9 bb9 (by omega) (by omega) (by simp [e0]) (by simp [e1]) (by simp [e3]) (by simp [e4]) (by simp [e11]) (by simp [e13]) (by simp)
      · rw [decide_eq_false hr]
        refine Sn_of rfl (Sn_of rfl (Sn_of rfl (Sn_of rfl (GE_n rfl (Sn_of rfl (Som_of (v := .bool false) rfl ?_))))))
        rw [WIf_false]
        refine Som_of (bin_add _ _ _ _) ?_
        rw [wrap_i64_in (n := (i : Int) + 1) (by omega) (by omega)]
        exact ih _ σ8 (i + 1) (a + 3) now8 safe8 cs8 dead8 hg8 bb8 (by omega) (by omega) (by simp [e0]) (by simp [e1]) (by simp [e3]) (by simp [e4]) (by simp [e11]) (by simp [e13]) (by simp)
  exact loop 120 _ σ2 0 1 _ _ _ _ hg1 b1 rfl (by omega) (by simp) (by simp) (by simp) (by simp) (by simp) (by simp) (by simp)
end
end Go.Am
