/-
  'facsimilelaw18.RangesContains' answers true whatever its input, and the input reads behind the call as it read before.
  CONDITIONS: the package's two tables hold what the card lists (tied to the program's text).
-/
import Derived.Test.YtkbgcnppkmkkiaaDoorCon9
import Derived.Test.YtkbgcnppkmkkiaaDoorCards
import Derived.Test.YtkbgcnppkmkkiaaDoorTie
import Derived.Laws.IdiomArrays
import Derived.OpenShut
set_option linter.unusedVariables false
namespace Go.Proofs.YtkbgcnppkmkkiaaDoor.rangesContains
open Go Go.V Go.ChangeShapes Go.WideShapes Go.ChangeAt Go.RowKit Go.ChangeMaps

theorem kept_low {W W' : World} (hb : Below W.heap.size W W') (may : MemPlace → Prop) : W.keptBut W' may := by
  refine ⟨hb.os, hb.output, fun i hi => ?_⟩
  rw [hb.block i hi]
  cases h : W.heap[i]? with
  | none => trivial
  | some o => cases o <;> simp
/-- The reading behind a call: memory below its end is as it was. -/
theorem post_low {H : Type} {enc : TypeId × Value → H} {P : Program} {f : Func} {s : ChangeSpec} {apart fresh handsOn again : Bool} {W W' : World} {args : Array Value} {v : Value} {ds gs : List (DataW H)} {before pa pv : List MemPlace}
    (hW : DataW.Whole enc P f.params.toList s.vars apart W args.toList ds gs before)
    (hres : ∀ (b : Nat) (sp : Nat → Bool) (hd : Bool), DataW.TrodAll enc P W' b sp hd f.resultTypes.toList (v.resultList f.resultTypes.size) (s.fn H (ds ++ gs)).results [])
    (hargs : ∀ sp : Nat → Bool, (∀ p ∈ before, sp p.block = true) → DataW.TrodAll enc P W' 0 sp true f.params.toList args.toList (s.fn H (ds ++ gs)).args pa)
    (hvars : ∀ sp : Nat → Bool, (∀ p ∈ before, sp p.block = true) → DataW.TrodVars enc P W' sp s.vars (s.fn H (ds ++ gs)).vars pv)
    (hps : before = pa ++ pv) (hb : Below W.heap.size W W')
    (hok : ∀ (j : Nat) (t : TypeId) (r : Value), f.resultTypes[j]? = some t → (v.resultList f.resultTypes.size)[j]? = some r → Value.okWide P W' .any 0 t r) :
    s.post enc P f apart fresh handsOn again W args v W' := by
  have hlt : ∀ p ∈ before, p.block < W.heap.size := fun p hp => hW.lt p hp
  have hold : ∀ p ∈ before, (fun b => decide (b < W.heap.size)) p.block = true := fun p hp => by simpa using hlt p hp
  refine ⟨ds, gs, before, [], pa, pv, hW, hres _ _ _, hargs _ hold, hvars _ hold, World.keptBut_mono (fun p hp => ⟨hp, ?_⟩) (kept_low hb (· ∈ before)), fun _ => ?_⟩
  · rw [hps, List.mem_append] at hp
    exact Or.inr hp
  · obtain ⟨_, _, _, _, _, hz, hn⟩ := hW
    refine ⟨hok, _, _, ([] ++ pa) ++ pv, ⟨[] ++ pa, pv, trodAll_append (hargs _ (fun _ _ => rfl)) (hres _ _ _), hvars _ (fun _ _ => rfl), rfl, ?_, ?_⟩, ?_⟩
    · intro b off hp
      have hp' : MemPlace.cell b off ∈ before := by rw [hps]; simpa using hp
      have h1 := hz b off hp'
      have h2 := hlt _ hp'
      rw [hb.frozen h2]
      exact h1
    · intro ha
      have := hn ha
      rw [hps] at this
      simpa using this
    · intro p hp _
      rw [hps]
      simpa using hp

theorem cells3 : Tryd.prog.cellsOf 3 = 1 := by kernel_rfl
theorem cells9 : Tryd.prog.cellsOf 9 = 1 := by kernel_rfl
theorem cells22 : Tryd.prog.cellsOf 22 = 3 := by kernel_rfl
theorem cells24 : Tryd.prog.cellsOf 24 = 3 := by kernel_rfl
theorem array_three {cs : Array Value} (h : cs.size = 3) : ∃ x y z, cs = #[x, y, z] := by
  obtain ⟨l⟩ := cs
  match l, h with
  | [x, y, z], _ => exact ⟨x, y, z, rfl⟩
theorem okWide_array {P : Program} {w : World} {r : Reach} {b : Nat} {t e : TypeId} {n : Nat} {v : Value} (ht : P.underlying t = some (.array n e)) (h : Value.okWide P w r b t v) : ∃ cs, v = .agg cs ∧ cs.size = P.cellsOf t := by
  unfold Value.okWide at h
  rw [ht] at h
  obtain ⟨cs, h1, h2, _⟩ := h
  exact ⟨cs, h1, h2⟩
theorem okWide_struct {P : Program} {w : World} {r : Reach} {b : Nat} {t : TypeId} {fs : Array Field} {v : Value} (ht : P.underlying t = some (.struct fs)) (h : Value.okWide P w r b t v) : ∃ cs, v = .agg cs ∧ cs.size = P.cellsOf t := by
  unfold Value.okWide at h
  rw [ht] at h
  obtain ⟨cs, h1, h2, _⟩ := h
  exact ⟨cs, h1, h2⟩
section
variable {H : Type} {enc : TypeId × Value → H} {w : World} {base : Nat} {sp : Nat → Bool} {held : Bool}
set_option maxRecDepth 100000 in
theorem open_three {b0 : Nat} {v : Value} {d : DataW H} {ps : List MemPlace} (hval : Value.okWide Tryd.prog w .any b0 22 v) (hd : DataW.Trod enc Tryd.prog w base sp held 22 v d ps) :
    ∃ x y z : Int, v = .agg #[.int .i64 x, .int .i64 y, .int .i64 z] ∧ d = .agg [.lit (.int .i64 x), .lit (.int .i64 y), .lit (.int .i64 z)] ∧ ps = [] ∧ (Lit.int .i64 x).wf = true ∧ (Lit.int .i64 y).wf = true ∧ (Lit.int .i64 z).wf = true := by
  obtain ⟨cs, rfl, hs⟩ := okWide_array Tryd.underlying22 hval
  rw [cells22] at hs
  obtain ⟨c0, c1, c2, rfl⟩ := array_three hs
  obtain ⟨fuel, hf⟩ := hd
  have hf : DataW.trod enc Tryd.prog w base sp held fuel 22 [c0, c1, c2] = some (d, ps) := hf
  obtain ⟨y0, y1, y2, n, hx, h0, h1, h2⟩ := trod_array3 Tryd.underlying22 cells3 hf
  obtain ⟨x, hc0, rfl, w0⟩ := DataW.trod_int Tryd.underlying3 h0
  obtain ⟨y, hc1, rfl, w1⟩ := DataW.trod_int Tryd.underlying3 h1
  obtain ⟨z, hc2, rfl, w2⟩ := DataW.trod_int Tryd.underlying3 h2
  simp only [List.cons.injEq, and_true] at hc0 hc1 hc2
  subst hc0 hc1 hc2
  simp only [Prod.mk.injEq] at hx
  exact ⟨x, y, z, rfl, hx.1, by simpa using hx.2, w0, w1, w2⟩
theorem shut_three {x y z : Int} (w0 : (Lit.int .i64 x).wf = true) (w1 : (Lit.int .i64 y).wf = true) (w2 : (Lit.int .i64 z).wf = true) :
    DataW.Trod enc Tryd.prog w base sp held 22 (.agg #[.int .i64 x, .int .i64 y, .int .i64 z]) (.agg [.lit (.int .i64 x), .lit (.int .i64 y), .lit (.int .i64 z)]) [] := by
  have r3 : List.range 3 = [0, 1, 2] := rfl
  exact ⟨2, by simp [DataW.trod, Value.cells, Tryd.underlying22, Tryd.underlying3, cells22, cells3, r3, w0, w1, w2]⟩
set_option maxRecDepth 100000 in
theorem open_value {b0 : Nat} {v : Value} {d : DataW H} {ps : List MemPlace} (hval : Value.okWide Tryd.prog w .any b0 24 v) (hd : DataW.Trod enc Tryd.prog w base sp held 24 v d ps) :
    ∃ (x y : Int) (s : ByteArray), v = .agg #[.int .i64 x, .int .i64 y, .string s] ∧ d = .agg [.lit (.int .i64 x), .lit (.int .i64 y), .lit (.string s.data.toList)] ∧ ps = [] ∧ (Lit.int .i64 x).wf = true ∧ (Lit.int .i64 y).wf = true ∧ s.size ≤ maxLen := by
  obtain ⟨cs, rfl, hs⟩ := okWide_struct Tryd.underlying24 hval
  rw [cells24] at hs
  obtain ⟨c0, c1, c2, rfl⟩ := array_three hs
  obtain ⟨fuel, hf⟩ := hd
  have hf : DataW.trod enc Tryd.prog w base sp held fuel 24 [c0, c1, c2] = some (d, ps) := hf
  obtain ⟨xs, n, _, hx, _, hlen, hel⟩ := DataW.trod_struct Tryd.underlying24 hf
  have hk : ∀ (i o : Nat) (t : TypeId) (f : Field), #[({ name := "Kind", type := 3, offset := 0, embedded := false, tag := "", pkgPath := "", byteOffset := 0 } : Field), { name := "N", type := 3, offset := 1, embedded := false, tag := "", pkgPath := "", byteOffset := 8 }, { name := "S", type := 9, offset := 2, embedded := false, tag := "", pkgPath := "", byteOffset := 16 }][i]? = some f → f.offset = o → f.type = t → Tryd.prog.cellsOf t = 1 → DataW.trod enc Tryd.prog w base sp held n t (([c0, c1, c2].drop o).take 1) = xs[i]? := by
    intro i o t f hf ho ht hc
    have h := hel i f hf
    rw [ho, ht, hc] at h
    exact h
  have h0 : DataW.trod enc Tryd.prog w base sp held n 3 [c0] = xs[0]? := hk 0 0 3 _ rfl rfl rfl cells3
  have h1 : DataW.trod enc Tryd.prog w base sp held n 3 [c1] = xs[1]? := hk 1 1 3 _ rfl rfl rfl cells3
  have h2 : DataW.trod enc Tryd.prog w base sp held n 9 [c2] = xs[2]? := hk 2 2 9 _ rfl rfl rfl cells9
  match xs, hlen with
  | [y0, y1, y2], _ =>
    simp only [List.getElem?_cons_zero, List.getElem?_cons_succ] at h0 h1 h2
    obtain ⟨x, hc0, rfl, w0⟩ := DataW.trod_int Tryd.underlying3 h0
    obtain ⟨y, hc1, rfl, w1⟩ := DataW.trod_int Tryd.underlying3 h1
    obtain ⟨s, hc2, rfl, w2⟩ := DataW.trod_string Tryd.underlying9 h2
    simp only [List.cons.injEq, and_true] at hc0 hc1 hc2
    subst hc0 hc1 hc2
    simp only [Prod.mk.injEq] at hx
    exact ⟨x, y, s, rfl, by simpa using hx.1, by simpa using hx.2, w0, w1, w2⟩
theorem shut_value {x y : Int} {s : ByteArray} (w0 : (Lit.int .i64 x).wf = true) (w1 : (Lit.int .i64 y).wf = true) (w2 : s.size ≤ maxLen) :
    DataW.Trod enc Tryd.prog w base sp held 24 (.agg #[.int .i64 x, .int .i64 y, .string s]) (.agg [.lit (.int .i64 x), .lit (.int .i64 y), .lit (.string s.data.toList)]) [] := by
  exact ⟨2, by simp [DataW.trod, Value.cells, Tryd.underlying24, Tryd.underlying3, Tryd.underlying9, cells24, cells3, cells9, w0, w1, w2]⟩
end

theorem own : ownKnob Tryd.prog.godebug = none := by kernel_rfl
/-- The door's own heap meets the condition. -/
theorem door_met (os : Os) (args : Array Value) : laidMetH Tryd.prog laidL ((World.doorLaid Tryd.prog 600 os).forCall (fun _ _ => 0) ⟨#[], args, []⟩).memory :=
  laidMetH_of_parts3 (fuel := 8) (laidMet_of_run' 8 (by kernel_rfl) (by kernel_rfl)) (by kernel_rfl) (by kernel_rfl)

set_option maxRecDepth 100000 in
theorem lifted (os : Os) (started : os.Started) (H : Type) (enc : TypeId × Value → H) :
    ReturnsInHanded {} Tryd.checked os 3 .any (fun w args => (Rows.rangesContainsSpec.pre enc Tryd.prog Tryd.f3 [] false w args ∧ laidMetH Tryd.prog laidL w) ∧ sizedMet enc Tryd.prog Tryd.f3 (OpenSpec.ofChange Rows.rangesContainsSpec) false w args)
      (Rows.rangesContainsSpec.post enc Tryd.prog Tryd.f3 false true false false) := by
  refine returnsInHanded_of_change_and (C := Tryd.checked) (X := fun w _ => laidMetH Tryd.prog laidL w) (fun _ _ _ hh h => h.of_heap hh) own started (by kernel_rfl) Tryd.func3
    (ChangeSpec.witness_shaped (enc := enc) (C := Tryd.checked) (os := os) (X := fun w _ => laidMetH Tryd.prog laidL w) false (World.doorLaid Tryd.prog 600 os) #[.agg #[.int .i64 0, .int .i64 0, .int .i64 0], .agg #[.int .i64 0, .int .i64 0, .string ⟨#[]⟩]] 8 rfl (World.shaped_of_RefB (by kernel_rfl) (by kernel_rfl)) (by kernel_rfl) (by kernel_rfl) (by kernel_rfl) (door_met os _)) ?_
  intro W base args ds gs before hval0 hW _ _ hL _
  have hval : ∀ (j : Nat) t v, Tryd.f3.params[j]? = some t → args[j]? = some v → Value.okWide Tryd.prog W .any base t v := hval0
  have hW' := hW
  obtain ⟨p, q, hA0, hV, rfl, hfz, hnd⟩ := hW
  have hA : DataW.TrodAll enc Tryd.prog W 0 (fun _ => true) true Tryd.f3.params.toList args.toList ds p := hA0
  rw [Tryd.params3] at hA hval
  obtain ⟨v0, v1, d0, d1, p0, p1, rfl, rfl, rfl, h0, h1⟩ := trodAll_two hA
  obtain ⟨rfl, rfl⟩ := trodVars_none hV
  obtain ⟨q0, q1, q2, rfl, rfl, rfl, w0, w1, w2⟩ := open_three (hval 0 22 v0 rfl rfl) h0
  obtain ⟨kind, n, s, rfl, rfl, rfl, u0, u1, u2⟩ := open_value (hval 1 24 v1 rfl rfl) h1
  have hG := globs_of_laid hL
  clear hA0 hval0
  simp only [List.append_nil] at hW'
  refine (law3 q0 q1 q2 kind n s u2 hG).mono fun e W' ⟨he, hb⟩ => ?_
  subst he
  exact ⟨_, rfl, post_low (pa := []) (pv := []) hW' (fun _ _ _ => (trodAll_cons_mk (shut_bool Tryd.underlying4 _) trodAll_mk0)) (fun sp _ => (trodAll_cons_mk (shut_three w0 w1 w2) (trodAll_cons_mk (shut_value u0 u1 u2) trodAll_mk0))) (fun _ _ => rfl) rfl
    hb (ok_one (by kernel_rfl) rfl (okWide_bool_mk Tryd.underlying4 _))⟩

theorem over : Rows.RangesContainsSaid :=
  OpenClaim.holds_of_wide 3 Tryd.f3 rfl rfl rfl rfl rfl rfl rfl ⟨rfl, rfl, rfl, rfl, rfl⟩ rfl rfl rfl rfl rfl (by kernel_rfl) Tryd.func3 (by kernel_rfl)
    (of_decide_eq_true (by kernel_rfl)) (by unfold Func.isWrapper; first | (rw [if_pos (by decide +kernel)]; kernel_rfl) | (rw [if_neg (by decide +kernel)]; exact ⟨rfl, rfl⟩))
    (fun os started H enc _ => lifted os started H enc)

/-- ████ THE TIED CARD ████ -/
theorem proved : Rows.RangesContainsCardSaid :=
  Claim7.holds_tied_plain_at .later [] [.funcs, .funcs] true (true, "9e8684bf11db91e1554656f6944c17d95a9d484ae274b1f6152ed03ad84bf118") false
    over (fun _ h => by cases h) (by kernel_rfl) (fun _ h => by cases h) rangesContains_row_tie rfl ⟨rfl, rfl⟩ (by kernel_rfl) rfl
    (fun f fn hf hfn => by
      obtain rfl : f = 3 := Option.some.inj ((show Tryd.prog.funcNamed "facsimile/facsimilelaw18.RangesContains" = some 3 by kernel_rfl).symm.trans hf) |>.symm
      obtain rfl : fn = Tryd.f3 := (Option.some.inj (Tryd.func3.symm.trans hfn)).symm
      exact ⟨by kernel_rfl, fun j t ht => by
        rw [Tryd.params3] at ht
        have hm : t ∈ [22, 24] := by simpa using Array.mem_of_getElem? ht
        have hall : ([22, 24].all fun u => !Tryd.prog.wantsStandIn u) = true := by kernel_rfl
        exact (show Tryd.prog.wantsStandIn t = false by simpa using List.all_eq_true.1 hall t hm)⟩)
    (by kernel_rfl)
#print axioms proved
end Go.Proofs.YtkbgcnppkmkkiaaDoor.rangesContains
