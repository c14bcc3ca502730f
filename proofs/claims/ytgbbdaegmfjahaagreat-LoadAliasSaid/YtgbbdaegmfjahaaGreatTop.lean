/-
  'facsimilelaw19.LoadAlias' answers true whatever its input, and the input reads behind the call as it read before.
  CONDITIONS: none.
-/
import Derived.Test.YtgbbdaegmfjahaaGreatP8
import Derived.Test.YtgbbdaegmfjahaaGreatP10
import Derived.Test.YtgbbdaegmfjahaaGreatRows
import Derived.WalkKit
import Derived.ProofKit
import Derived.OpenShut
import Derived.ChangeSlices
set_option linter.unusedVariables false
namespace Go.Proofs.YtgbbdaegmfjahaaGreat.loadAlias
open Go Go.V Go.ChangeShapes Go.WideShapes Go.ChangeAt Go.RowKit
theorem kept_low {W W' : World} (hb : Below W.heap.size W W') (may : MemPlace → Prop) : W.keptBut W' may := by
  refine ⟨hb.os, hb.output, fun i hi => ?_⟩
  rw [hb.block i hi]
  cases h : W.heap[i]? with
  | none => trivial
  | some o => cases o <;> simp
theorem post_low {H : Type} {enc : TypeId × Value → H} {P : Program} {f : Func} {s : ChangeSpec} {apart fresh handsOn again : Bool} {W W' : World} {args : Array Value} {v : Value} {ds gs : List (DataW H)} {before pa pv : List MemPlace}
    (hW : DataW.Whole enc P f.params.toList s.vars apart W args.toList ds gs before)
    (hres : ∀ (b : Nat) (sp : Nat → Bool) (hd : Bool), DataW.TrodAll enc P W' b sp hd f.resultTypes.toList (v.resultList f.resultTypes.size) (s.fn H (ds ++ gs)).results [])
    (hargs : ∀ sp : Nat → Bool, (∀ p ∈ before, sp p.block = true) → DataW.TrodAll enc P W' 0 sp true f.params.toList args.toList (s.fn H (ds ++ gs)).args pa)
    (hvars : ∀ sp : Nat → Bool, (∀ p ∈ before, sp p.block = true) → DataW.TrodVars enc P W' sp s.vars (s.fn H (ds ++ gs)).vars pv)
    (hps : before = pa ++ pv) (hb : Below W.heap.size W W')
    (hok : ∀ (j : Nat) (t : TypeId) (r : Value), f.resultTypes[j]? = some t → (v.resultList f.resultTypes.size)[j]? = some r → Value.okWide P W' .any 0 t r) :
    s.post enc P f apart fresh handsOn again W args v W' := by
  have hlt : ∀ p ∈ before, p.block < W.heap.size := fun p hp => hW.lt p hp
  have hold : ∀ p ∈ before, (fun b => decide (b < W.heap.size)) p.block = true := fun p hp => by simpa using hlt p hp
  refine ⟨ds, gs, before, [], pa, pv, hW, hres _ _ _, hargs _ hold, hvars _ hold, World.keptBut_mono (fun p hp => ⟨hp, ?_⟩) (kept_low hb (· ∈ before)), fun _ => ?_⟩
  · rw [hps, List.mem_append] at hp
    exact Or.inr hp
  · obtain ⟨_, _, _, _, _, hz, hn⟩ := hW
    refine ⟨hok, _, _, ([] ++ pa) ++ pv, ⟨[] ++ pa, pv, trodAll_append (hargs _ (fun _ _ => rfl)) (hres _ _ _), hvars _ (fun _ _ => rfl), rfl, ?_, ?_⟩, ?_⟩
    · intro b off hp
      have hp' : MemPlace.cell b off ∈ before := by rw [hps]; simpa using hp
      have h1 := hz b off hp'
      have h2 := hlt _ hp'
      rw [hb.frozen h2]
      exact h1
    · intro ha
      have := hn ha
      rw [hps] at this
      simpa using this
    · intro p hp _
      rw [hps]
      simpa using hp
theorem own : ownKnob Tryz.prog.godebug = none := by kernel_rfl
theorem calls_of {f : FuncId} {ds : List D} (h : LC f ds [] (bool true) []) {vs : List Value} (w : World) (hv : All2 (DRel [] (fun _ => False) w) ds vs) :
    Calls Tryz.prog f vs.toArray w fun e w' => e = .returned (.bool true) ∧ Below w.heap.size w w' := by
  have hG : Globs tab (fun _ => False) w := fun g x e => by cases e
  refine (h.out.2 0 (fun _ => False) (Kp.of w) [] [] [] _ w [] vs (R.none (fun _ q => q.elim) hG) (hv.mono fun _ _ q => DRel.mono (Env.le_refl []) (Keeps.refl _ w) (fun b _ q => (AV_nil b).1 q) q)).mono ?_
  rintro e w' ⟨v, E', rfl, _, hR, hd⟩
  exact ⟨by rw [hd.1], hR.below.below⟩
theorem law9 (l : Sq Int) (hl : l.n ≤ maxLen) : LC 9 [dSq 1 eInt l] [] (bool true) [] := con9 (made l) l (made_good l) (con11 l hl) con23
theorem cells3 : Tryz.prog.cellsOf 3 = 1 := by kernel_rfl
theorem shut_nil {H : Type} {enc : TypeId × Value → H} {w : World} {base : Nat} {sp : Nat → Bool} {held : Bool} : DataW.Trod enc Tryz.prog w base sp held 22 (.slice none 0 0) .nil [] :=
  ⟨1, by simp [DataW.trod, Value.cells, Tryz.underlying22]⟩
set_option maxRecDepth 100000 in
theorem lifted (os : Os) (started : os.Started) (H : Type) (enc : TypeId × Value → H) :
    ReturnsInHanded {} Tryz.checked os 9 .any (Rows.loadAliasSpec.pre6 enc Tryz.prog Tryz.f9 Rows.loadAliasRow.domain false) (Rows.loadAliasSpec.post enc Tryz.prog Tryz.f9 false true false false) := by
  refine returnsInHanded_of_change (C := Tryz.checked) own started (by kernel_rfl) Tryz.func9
    (ChangeSpec.witness6 (enc := enc) (C := Tryz.checked) false ⟨#[], #[.slice none 0 0], []⟩ 8 (by kernel_rfl) (by kernel_rfl) (by kernel_rfl) (by kernel_rfl)) ?_
  intro W base args ds gs before hval0 hW hcnd _
  have hval : ∀ (j : Nat) t v, Tryz.f9.params[j]? = some t → args[j]? = some v → Value.okWide Tryz.prog W .any base t v := hval0
  have hW' := hW
  obtain ⟨p, q, hA0, hV, rfl, hfz, hnd⟩ := hW
  have hA : DataW.TrodAll enc Tryz.prog W 0 (fun _ => true) true Tryz.f9.params.toList args.toList ds p := hA0
  rw [Tryz.params9] at hA hval
  obtain ⟨v0, vs0, d0, ds0, p0, q0, hargs, rfl, rfl, h0, r0⟩ := trodAll_cons hA
  obtain ⟨rfl, rfl, rfl⟩ := trodAll_nil r0
  obtain rfl : args = #[v0] := by cases args; simp_all
  obtain ⟨rfl, rfl⟩ := trodVars_none hV
  have hv0 := hval 0 22 v0 rfl rfl
  obtain ⟨a0, len, cap, rfl⟩ := okWide_slice Tryz.underlying22 hv0
  obtain ⟨fuel, hf⟩ := h0
  have hf : DataW.trod enc Tryz.prog W 0 (fun _ => true) true fuel 22 [.slice a0 len cap] = some (d0, p0) := hf
  simp only [List.append_nil] at hW'
  clear hA0 hval0
  rcases open_ints Tryz.underlying22 Tryz.underlying3 cells3 hf with ⟨hc, hx⟩ | ⟨a, len, cap, zs, hc, hb0, hlc, hcm, hz, hx, hcell, hwf⟩
  · simp only [List.cons.injEq, and_true] at hc
    simp only [Prod.mk.injEq] at hx
    obtain ⟨rfl, rfl⟩ := hx
    rw [hc] at hW' ⊢
    refine (calls_of (law9 ⟨0, fun _ => 0⟩ (Nat.zero_le _)) W (vs := [.slice none 0 0]) (.cons ⟨none, 0, rfl, Nat.le_refl _, Nat.zero_le _, fun h => absurd h (Nat.not_lt_zero _)⟩ .nil)).mono fun e W' ⟨he, hb⟩ => ?_
    subst he
    exact ⟨_, rfl, post_low (pa := []) (pv := []) hW' (fun _ _ _ => (trodAll_cons_mk (shut_bool Tryz.underlying4 _) trodAll_mk0)) (fun sp _ => (trodAll_cons_mk shut_nil trodAll_mk0)) (fun _ _ => rfl) rfl
      hb (ok_one (by kernel_rfl) rfl (okWide_bool_mk Tryz.underlying4 _))⟩
  · simp only [List.cons.injEq, and_true] at hc
    simp only [Prod.mk.injEq] at hx
    obtain ⟨rfl, rfl⟩ := hx
    simp only [if_true] at hz
    have hsp : a.spot = none := by
      rw [hc] at hv0
      have hv1 : Cell.ok Tryz.prog W .any base 22 (.slice (some a) len cap) := by
        unfold Value.okWide at hv0
        rw [Tryz.underlying22] at hv0
        unfold Cell.okWide at hv0
        rw [Tryz.underlying22] at hv0
        exact hv0
      unfold Cell.ok at hv1
      rw [Tryz.underlying22] at hv1
      exact hv1.2.2.2.1
    have hblk : 0 < cap → a.block < W.heap.size := fun h0 => by
      have hm : MemPlace.cell a.block (a.off + 0) ∈ MemPlace.row a zs.length := by
        rw [hz]
        exact List.mem_map.2 ⟨0, List.mem_range.2 h0, rfl⟩
      exact hW'.lt _ hm
    rw [hc] at hW' ⊢
    refine (calls_of (law9 ⟨len, fun i => zs.getD i 0⟩ (Nat.le_trans hlc hcm)) W (vs := [.slice (some a) len cap]) (.cons ⟨some a, cap, rfl, hlc, Nat.le_trans hlc hcm, fun h0 => ⟨a, rfl, hsp, fun q => q, hblk (Nat.lt_of_lt_of_le h0 hlc), fun i hi j hj => ⟨.int .i64 (zs.getD i 0), ?_, rfl, rfl⟩⟩⟩ .nil)).mono fun e W' ⟨he, hb⟩ => ?_
    · have hj : j = 0 := by omega
      subst hj
      rw [show i * 1 + 0 = i by omega]
      exact hcell i (by rw [hz]; exact Nat.lt_of_lt_of_le hi hlc)
    subst he
    refine ⟨_, rfl, post_low (pa := MemPlace.row a zs.length) (pv := []) hW' (fun _ _ _ => (trodAll_cons_mk (shut_bool Tryz.underlying4 _) trodAll_mk0)) (fun sp hsp' => ?_) (fun _ _ => rfl) (by simp)
      hb (ok_one (by kernel_rfl) rfl (okWide_bool_mk Tryz.underlying4 _))⟩
    have hcond : zs.length = (if sp a.block then cap else len) := by
      by_cases h0 : 0 < cap
      · have hm : MemPlace.cell a.block (a.off + 0) ∈ MemPlace.row a zs.length := by
          rw [hz]
          exact List.mem_map.2 ⟨0, List.mem_range.2 h0, rfl⟩
        have h1 : sp a.block = true := hsp' _ hm
        rw [if_pos h1]; exact hz
      · split <;> omega
    have ht := shut_ints (H := H) (enc := enc) (held := true) (spare := sp) (w := W') (base := 0) 0 Tryz.underlying22 Tryz.underlying3 cells3 (Nat.zero_le _) hlc hcm hcond (fun i hi => by
      rw [cell_same (w := W) (by rw [V.block_add]; exact hb.block _ (hblk (by omega)))]
      exact hcell i hi) hwf
    have ht2 : DataW.Trod enc Tryz.prog W' 0 sp true 22 (.slice (some a) len cap) (.slice (lits .i64 (zs.take len)) (lits .i64 (zs.drop len))) (MemPlace.row a zs.length) := ⟨_, ht⟩
    have h3 := trodAll_cons_mk ht2 trodAll_mk0
    rw [List.append_nil] at h3
    exact h3
theorem over : Rows.loadAliasRow.holds Tryz.pinned (OpenSpec.ofChange Rows.loadAliasSpec) :=
  OpenClaim.holds_of_wide 9 Tryz.f9 rfl rfl rfl rfl rfl rfl rfl ⟨rfl, rfl, rfl, rfl, rfl⟩ rfl rfl rfl rfl rfl (by kernel_rfl) Tryz.func9 (by kernel_rfl)
    (of_decide_eq_true (by kernel_rfl)) (by unfold Func.isWrapper; first | (rw [if_pos (by decide +kernel)]; kernel_rfl) | (rw [if_neg (by decide +kernel)]; exact ⟨rfl, rfl⟩))
    (fun os started H enc _ => lifted os started H enc)
theorem proved : Rows.LoadAliasSaid :=
  over
#print axioms proved
end Go.Proofs.YtgbbdaegmfjahaaGreat.loadAlias
