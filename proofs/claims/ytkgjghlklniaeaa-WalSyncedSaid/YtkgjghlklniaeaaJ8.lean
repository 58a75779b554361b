/-
  draylaw22.WalSynced answers true, whatever is asked of it. Conditions: none.
-/
import Derived.Test.YtkgjghlklniaeaaRows
import Derived.Test.YtkgjghlklniaeaaJ3
import Derived.Test.YtkgjghlklniaeaaJ6
import Derived.ProofKit
import Derived.SizedLaws
namespace Go.Proofs.Ytkgjghlklniaeaa
open Go.ChangeShapes Go.WideShapes Go.ChangeAt Go.RowKit
open Go.Am (cvt mapW memW Wide SR SRs V1 VR SlAt AVal)
set_option maxRecDepth 100000 in
theorem types39 : Try.prog.cellTypes Try.prog.depth 39 = some [3, 3, 3, 3, 3, 4, 37] := by kernel_rfl
set_option maxRecDepth 100000 in
theorem ask_arg {H : Type} {enc : TypeId × Value → H} {W : World} {base K : Nat} (hw : Wide K W) {v : Value} {d : DataW H} {p : List MemPlace} (hv : Value.okWide Try.prog W .any base 39 v) (h : DataW.Trod enc Try.prog W 0 (fun _ => true) true 39 v d p) :
    ∃ ak w, VR (mapW K W) (Am.Ak.val ak w) v ∧ Am.AkAt (memW K W) w ak := by
  unfold Value.okWide at hv
  rw [Try.underlying39] at hv
  have hv : ∃ cs, v = .agg cs ∧ cs.size = Try.prog.cellsOf 39 ∧ Row.okWide Try.prog W .any base 39 cs := hv
  obtain ⟨cs, rfl, hsz, ts, ht, _, hrow⟩ := hv
  rw [types39] at ht
  cases ht
  rw [cells39] at hsz
  obtain ⟨fuel, hf⟩ := h
  have hz : ∀ ad len cap, cs.toList[6]? = some (.slice (some ad) len cap) → 0 < W.heap.size := fun ad len cap hc => by
    obtain ⟨u, hu, hx⟩ := hrow 6 _ (by rw [← Array.getElem?_toList]; exact hc)
    cases hu
    have hx : Value.okWide Try.prog W .any base 37 (.slice (some ad) len cap) := by
      unfold Value.okWide
      rw [Try.underlying37]
      exact hx
    obtain ⟨a, l, c, he, ha⟩ := Am.okWide_room Try.underlying37 hx
    cases he
    exact ha ad rfl
  have hall := ask_cells hw fuel cs.toList hz _ hf
  rw [cells39] at hall
  obtain ⟨y0, v0, c0, d0, e0⟩ := hall 0 (by omega)
  obtain ⟨y1, v1, c1, d1, e1⟩ := hall 1 (by omega)
  obtain ⟨y2, v2, c2, d2, e2⟩ := hall 2 (by omega)
  obtain ⟨y3, v3, c3, d3, e3⟩ := hall 3 (by omega)
  obtain ⟨y4, v4, c4, d4, e4⟩ := hall 4 (by omega)
  obtain ⟨y5, v5, c5, d5, e5⟩ := hall 5 (by omega)
  obtain ⟨y6, v6, c6, d6, e6⟩ := hall 6 (by omega)
  obtain ⟨ak, w, hc, hk⟩ := ask_of (K := K) (W := W) (cs := [v0, v1, v2, v3, v4, v5, v6]) rfl fun j hj => by
    match j, hj with
    | 0, _ => exact ⟨_, rfl, e0⟩
    | 1, _ => exact ⟨_, rfl, e1⟩
    | 2, _ => exact ⟨_, rfl, e2⟩
    | 3, _ => exact ⟨_, rfl, e3⟩
    | 4, _ => exact ⟨_, rfl, e4⟩
    | 5, _ => exact ⟨_, rfl, e5⟩
    | 6, _ => exact ⟨_, rfl, e6⟩
    | n + 7, h => omega
  refine ⟨ak, w, .v1 _ _ (.agg _ _ ?_), hk⟩
  rw [← hc]
  have hl : cs.toList.length = 7 := by rw [Array.length_toList]; exact hsz
  match hcs : cs.toList, hl with
  | [z0, z1, z2, z3, z4, z5, z6], _ =>
    rw [hcs] at c0 c1 c2 c3 c4 c5 c6
    cases c0; cases c1; cases c2; cases c3; cases c4; cases c5; cases c6
    exact .cons _ _ _ _ (Am.cvt_rel d0) (.cons _ _ _ _ (Am.cvt_rel d1) (.cons _ _ _ _ (Am.cvt_rel d2) (.cons _ _ _ _ (Am.cvt_rel d3) (.cons _ _ _ _ (Am.cvt_rel d4) (.cons _ _ _ _ (Am.cvt_rel d5) (.cons _ _ _ _ (Am.cvt_rel d6) .nil))))))
set_option maxRecDepth 100000 in
theorem synced_run {H : Type} {enc : TypeId × Value → H} {W : World} {base : Nat} {at_ keep torn : Int} {v0 v1 : Value} {d0 d1 : DataW H} {p0 p1 : List MemPlace} (hv0 : Value.okWide Try.prog W .any base 37 v0) (hv1 : Value.okWide Try.prog W .any base 39 v1)
    (h0 : DataW.Trod enc Try.prog W 0 (fun _ => true) true 37 v0 d0 p0) (h1 : DataW.Trod enc Try.prog W 0 (fun _ => true) true 39 v1 d1 p1) :
    Calls Try.prog 6 #[v0, v1, .int .i64 at_, .int .i64 keep, .int .i64 torn] W fun | .returned x, W' => x = .bool true ∧ Below W.heap.size W W' | _, _ => False := by
  obtain ⟨K, hw⟩ := Am.wide_ex W
  have hw : Wide (K + 1) W := fun b c h => by have := hw b c h; omega
  have hK : 0 < K + 1 := by omega
  obtain ⟨rv, n, cs, mr, r0, hl, hc, _⟩ := Am.sl_arg (R := fun _ v => ∃ s : List Nat, Am.Bytes s ∧ s.length ≤ 9223372036854775807 ∧ v = .str s) hw Try.underlying37 (by rw [cells9]; omega) hv0 h0 (fun _ fuel cs x _ hx => str_cells fuel cs x hx)
  rw [cells9] at hl hc
  have hlen : cs.length = n := by have := hl.1; omega
  obtain ⟨rs, e1, e2, e3⟩ := strs_of hlen fun k hk => by
    obtain ⟨u, hu, s, g1, g2, rfl⟩ := hc k hk 0 (by omega)
    exact ⟨s, g1, g2, by simpa using hu⟩
  subst e1
  subst e2
  obtain ⟨ak, w, r1, hak⟩ := ask_arg hw hv1 h1
  obtain ⟨v, σ', hv, N, hN⟩ := Am.synced_c (Q := fun v _ => v = .bool true) (at_ := at_) (keep := keep) (torn := torn) tabs (Am.memW_ok hK) (Am.Tr.get_empty _) hl e3 hak (fun σ1 Q1 hQ => call13 σ1 Q1 hQ) (fun _ => rfl)
  subst hv
  obtain ⟨_, hcalls⟩ := Am.sound (w0 := W) mixed tabH_ok N 6 _ _ _ σ' W _ _ (hN N (Nat.le_refl _)) (Am.memW_rel hK) (.cons _ _ _ _ r0.vr (.cons _ _ _ _ r1 (.cons _ _ _ _ (SR.int _ _).vr (.cons _ _ _ _ (SR.int _ _).vr (.cons _ _ _ _ (SR.int _ _).vr .nil)))))
  refine hcalls.mono fun e w' he => ?_
  cases e with
  | returned x =>
    obtain ⟨m', g1, _, g3⟩ := he
    exact ⟨g1.bool, g3.below⟩
  | panicked c => exact he.elim
  | outgrown => exact he.elim
set_option maxRecDepth 100000 in
theorem walSynced_lifted (os : Os) (started : os.Started) (H : Type) (enc : TypeId × Value → H) :
    ReturnsInHanded {} Try.checked os 6 .any (Rows.walSyncedSpec.pre6 enc Try.prog Try.f6 Rows.walSyncedRow.domain false) (Rows.walSyncedSpec.post enc Try.prog Try.f6 false true false false) := by
  refine returnsInHanded_of_change_sized (C := Try.checked) Try.own started (by kernel_rfl) Try.func6
    (ChangeSpec.witness6 (enc := enc) (C := Try.checked) false ⟨#[], #[.slice none 0 0, .agg #[.int .i64 0, .int .i64 0, .int .i64 0, .int .i64 0, .int .i64 0, .bool false, .slice none 0 0], .int .i64 0, .int .i64 0, .int .i64 0], []⟩ 8 (by kernel_rfl) (by kernel_rfl) (by kernel_rfl) (by kernel_rfl)) ?_
  intro W base args ds gs before hval0 hW hcnd _ _
  have hval : ∀ (j : Nat) t v, Try.f6.params[j]? = some t → args[j]? = some v → Value.okWide Try.prog W .any base t v := hval0
  have hW' := hW
  obtain ⟨p, q, hA0, hV, rfl, hfz, hnd⟩ := hW
  have hA : DataW.TrodAll enc Try.prog W 0 (fun _ => true) true Try.f6.params.toList args.toList ds p := hA0
  rw [Try.params6] at hA hval
  obtain ⟨v0, vs, d0, dr, p0, q0, ha, rfl, rfl, h0, hA⟩ := trodAll_cons hA
  obtain ⟨v1, vs1, d1, dr1, p1, q1, rfl, rfl, rfl, h1, hA⟩ := trodAll_cons hA
  obtain ⟨v2, vs2, d2, dr2, p2, q2, rfl, rfl, rfl, h2, hA⟩ := trodAll_cons hA
  obtain ⟨v3, vs3, d3, dr3, p3, q3, rfl, rfl, rfl, h3, hA⟩ := trodAll_cons hA
  obtain ⟨v4, vs4, d4, dr4, p4, q4, rfl, rfl, rfl, h4, hA⟩ := trodAll_cons hA
  obtain ⟨rfl, rfl, rfl⟩ := trodAll_nil hA
  obtain rfl : args = #[v0, v1, v2, v3, v4] := by cases args; simp_all
  obtain ⟨rfl, rfl⟩ := trodVars_none hV
  have hv0 := hval 0 37 v0 rfl rfl
  have hv1 := hval 1 39 v1 rfl rfl
  obtain ⟨a, rfl, rfl, rfl, wa⟩ := open_int Try.underlying3 (hval 2 3 v2 rfl rfl) h2
  obtain ⟨b, rfl, rfl, rfl, wb⟩ := open_int Try.underlying3 (hval 3 3 v3 rfl rfl) h3
  obtain ⟨c, rfl, rfl, rfl, wc⟩ := open_int Try.underlying3 (hval 4 3 v4 rfl rfl) h4
  clear hA0 hval0
  simp only [List.append_nil, List.nil_append] at hW'
  have hlt0 : ∀ x ∈ p0, x.block < W.heap.size := fun x hx => hW'.lt x (by simp [hx])
  have hlt1 : ∀ x ∈ p1, x.block < W.heap.size := fun x hx => hW'.lt x (by simp [hx])
  refine (synced_run hv0 hv1 h0 h1).mono fun e W' he => ?_
  cases e with
  | panicked c => exact he.elim
  | outgrown => exact he.elim
  | returned x =>
    obtain ⟨rfl, hB⟩ := he
    refine ⟨_, rfl, Am.post_of_below (pa := p0 ++ p1) (pv := []) hW' (fun _ _ _ => trodAll_mk1 (shut_bool Try.underlying4 true)) (fun sp hsp => ?_) (fun _ _ => rfl) (by simp) hB (ok_one (by kernel_rfl) rfl (okWide_bool_mk Try.underlying4 true))⟩
    have key := trodAll_mk4 (p' := []) (p'' := []) (p3 := []) (WideElems.Trod_stays Try.laidOut (by kernel_rfl) (of_decide_eq_true (by kernel_rfl)) h1 (fun x hx => hB.same (hlt1 x hx)) (fun x hx => hsp x (by simp [hx]))) (shut_int Try.underlying3 wa) (shut_int Try.underlying3 wb) (shut_int Try.underlying3 wc)
    simp only [List.append_nil] at key
    exact ⟨p0, p1, WideElems.Trod_stays Try.laidOut (by kernel_rfl) (of_decide_eq_true (by kernel_rfl)) h0 (fun x hx => hB.same (hlt0 x hx)) (fun x hx => hsp x (by simp [hx])), key, rfl⟩
theorem walSynced_holds : Rows.WalSyncedSaid :=
  OpenClaim.holds_of_wide 6 Try.f6 rfl rfl rfl rfl rfl rfl rfl ⟨rfl, rfl, rfl, rfl, rfl⟩ rfl rfl rfl rfl rfl (by kernel_rfl) Try.func6 (by kernel_rfl)
    (of_decide_eq_true (by kernel_rfl)) (by unfold Func.isWrapper; first | (rw [if_pos (by decide +kernel)]; kernel_rfl) | (rw [if_neg (by decide +kernel)]; exact ⟨rfl, rfl⟩))
    (fun os started H enc _ => walSynced_lifted os started H enc)
end Go.Proofs.Ytkgjghlklniaeaa
