/- What the tied tables give: a variable that holds a map from numbers to functions. -/
import Derived.Test.YtkbgcnppkmkkiaaDoorCon8
import Derived.Test.YtkbgcnppkmkkiaaDoorRows
import Derived.ProofKit
import Derived.LaidMore
import Derived.Stop.Joined
import Derived.WideKeyElems2
set_option linter.unusedVariables false
set_option maxRecDepth 1000000
namespace Go.Proofs.YtkbgcnppkmkkiaaDoor
open Go Go.V Go.RowKit Go.WideShapes Go.ChangeShapes

theorem findNow_table {l : List (Int × FuncId)} (n : Int) : ∀ (es : List MapEntry) (i : Nat), (∀ e ∈ es, ∃ m f, (m, f) ∈ l ∧ e.key = .int .i64 m ∧ e.val = .func (.func f) #[] #[]) →
    (Instr.findNow (.int .i64) (.int .i64 n) es i = some none ∧ ∀ e ∈ es, e.key ≠ .int .i64 n) ∨ ∃ k f, Instr.findNow (.int .i64) (.int .i64 n) es i = some (some (k, .func (.func f) #[] #[])) ∧ (n, f) ∈ l
  | [], i, h => .inl ⟨rfl, fun e he => by cases he⟩
  | e :: es, i, h => by
    obtain ⟨m, f, hm, hk, hv⟩ := h e (List.mem_cons_self ..)
    have hs : Instr.sameNow (.int .i64) (.int .i64 n) e.key = some (n == m) := by rw [hk]; simp [Instr.sameNow]
    unfold Instr.findNow
    rw [hs]
    cases hb : (n == m) with
    | true =>
      obtain rfl := eq_of_beq hb
      exact .inr ⟨i, f, by simp [hv], hm⟩
    | false =>
      simp only
      rcases findNow_table n es (i + 1) (fun e he => h e (List.mem_cons_of_mem _ he)) with ⟨h1, h2⟩ | h1
      · refine .inl ⟨h1, fun e' he' => ?_⟩
        rcases List.mem_cons.1 he' with rfl | he'
        · rw [hk]
          intro q
          simp only [Value.int.injEq, true_and] at q
          simp [q] at hb
        · exact h2 e' he'
      · exact .inr h1
theorem findI_none {n : Int} : ∀ {l : List (Int × FuncId)}, (∀ x ∈ l, x.1 ≠ n) → findI n l = none
  | [], _ => rfl
  | x :: l, h => by
    have hx : (n == x.1) = false := by
      have := h x (List.mem_cons_self ..)
      simp only [beq_eq_false_iff_ne, ne_eq]
      exact fun q => this q.symm
    unfold findI
    rw [hx]
    exact findI_none fun y hy => h y (List.mem_cons_of_mem _ hy)

/-- The name of a function, byte for byte. -/
def nameBytes (P : Program) (f : FuncId) : List UInt8 := match P.funcs[f]? with
  | some fn => fn.name.toUTF8.data.toList
  | none => []
def oneName (P : Program) (f : FuncId) : Bool := match nameBytes P f with
  | [] => false
  | b :: r => ((List.range P.funcs.size).filter fun f => (P.funcs[f]?).any (·.name.toUTF8.data.toList == b :: r)) == [f]
theorem of_table {P : Program} {w : World} {n : String} {d : DataW Unit} {g : Nat} {t k e : TypeId} {ps rs : Array TypeId} {va : Bool} {l l' : List (Int × FuncId)}
    (h : funcsAt P w n d) (hd : d.funcsOut = .map (l.map fun x => (.int .i64 x.1, .held (nameBytes P x.2)))) (hg : P.globalNamed n = some g) (ht : (P.globals[g]?).map (·.type) = some t)
    (hu : P.underlying t = some (.map k e)) (hk : P.underlying k = some (.int .i64)) (he : P.underlying e = some (.func ps rs va)) (hr : l.all (fun x => oneName P x.2) = true) (hf : l.all (fun x => findI x.1 l' == some x.2) = true) (hsub : l'.all (fun x => l.any fun y => y.1 == x.1) = true) :
    IRel (fun _ => False) w (.pt 1 fun _ => .fm l') (.pointer (some ⟨g, 0, none⟩)) := by
  obtain ⟨g', t', cs, fuel, p, hg', ht', hv, h1⟩ := h
  obtain rfl := Option.some.inj (hg.symm.trans hg')
  obtain rfl := Option.some.inj (ht.symm.trans ht')
  rw [hd] at h1
  rcases WideElems.open_map hu h1 with ⟨_, hx⟩ | ⟨b, es, clock, m, _, hcs, hb, _, F, hx⟩
  · simp at hx
  simp only [Prod.mk.injEq, DataW.map.injEq] at hx
  have hperm := sorted_perm (es.toList.map (WideElems.rg P k (WideElems.elemAt (funcToken P) P w 0 (fun _ => true) true m e)))
  rw [← hx.1] at hperm
  have hall : ∀ x ∈ es.toList, ∃ j f, (j, f) ∈ l ∧ x.key = .int .i64 j ∧ x.val = .func (.func f) #[] #[] := by
    intro x hxm
    obtain ⟨y, hy⟩ := F.reads x hxm
    have hmem : y ∈ l.map fun x => ((.int .i64 x.1 : Lit), (.held (nameBytes P x.2) : DataW (List UInt8))) := by
      rw [hperm.mem_iff]
      exact List.mem_map.2 ⟨x, hxm, WideElems.rg_of hy⟩
    obtain ⟨⟨j, f⟩, hjf, rfl⟩ := List.mem_map.1 hmem
    have hkey := WideElems.rd_key hy
    obtain ⟨z, hz, hzd⟩ := WideElems.rd_val hy
    refine ⟨j, f, hjf, ?_, ?_⟩
    · have hk1 : keyOf P k x.key = mapKey P k x.key := by unfold keyOf; rw [hk]
      rw [hk1] at hkey
      unfold mapKey at hkey
      rw [hk] at hkey
      split at hkey <;> simp_all
    · have hone := List.all_eq_true.1 hr (j, f) hjf
      unfold oneName at hone
      simp only at hzd hone
      split at hone
      · simp at hone
      rename_i c r hc
      have hone := eq_of_beq hone
      unfold WideElems.elemAt at hz
      split at hz
      case isFalse => simp at hz
      rename_i hform
      have hval : x.val.cells.toList = [x.val] := by
        cases hxv : x.val <;> rw [hxv] at hform <;> simp_all [Value.formed, Value.cells]
      rw [hval] at hz
      obtain ⟨z1, z2⟩ := z
      simp only at hzd
      rw [← hzd, hc] at hz
      exact func_of_trod he hone hz
  have hcell : ∀ j, w.cell? ⟨g, j, none⟩ = cs[j]? := World.var?_cell hg hv
  have h0 : w.cell? ⟨g, 0, none⟩ = some (.map (some b)) := by
    rw [hcell 0]
    have : cs.toList[0]? = some (.map (some b)) := by rw [hcs]; rfl
    simpa using this
  refine ⟨⟨g, 0, none⟩, rfl, rfl, id, World.block_lt_of_cell? w ⟨g, 0, none⟩ h0, fun j hj => ?_⟩
  obtain rfl : j = 0 := by omega
  refine ⟨_, h0, b, es, clock, rfl, id, hb, fun n => ?_⟩
  rcases findNow_table n es.toList 0 hall with ⟨h2, h3⟩ | ⟨i, f, h2, h3⟩
  · refine .inl ⟨h2, findI_none fun x' hxl' hn' => ?_⟩
    obtain ⟨x, hxl, hxe⟩ := List.any_eq_true.1 (List.all_eq_true.1 hsub x' hxl')
    have hn : x.1 = n := (eq_of_beq hxe).trans hn'
    have hm : ((.int .i64 x.1 : Lit), (.held (nameBytes P x.2) : DataW (List UInt8))) ∈ es.toList.map (WideElems.rg P k (WideElems.elemAt (funcToken P) P w 0 (fun _ => true) true m e)) := by
      rw [← hperm.mem_iff]
      exact List.mem_map.2 ⟨x, hxl, rfl⟩
    obtain ⟨en, hen, hrg⟩ := List.mem_map.1 hm
    obtain ⟨j, f, _, hkj, _⟩ := hall en hen
    obtain ⟨y, hy⟩ := F.reads en hen
    rw [WideElems.rg_of hy] at hrg
    subst hrg
    have hkey := WideElems.rd_key hy
    have hk1 : keyOf P k en.key = mapKey P k en.key := by unfold keyOf; rw [hk]
    rw [hk1, hkj] at hkey
    unfold mapKey at hkey
    rw [hk] at hkey
    have : j = x.1 := by
      simp at hkey
      exact hkey.2
    exact h3 en hen (by rw [hkj, this, hn])
  · refine .inr ⟨i, f, h2, ?_⟩
    exact eq_of_beq (List.all_eq_true.1 hf (n, f) h3)

noncomputable def rulesL : List (Int × FuncId) := [(1, 73), (2, 74), (3, 75), (4, 76), (5, 77), (6, 78), (7, 79), (8, 79), (9, 80), (10, 82), (11, 79), (12, 81), (13, 80), (14, 83), (16, 85), (17, 85), (19, 84)]
noncomputable def arithL : List (Int × FuncId) := [(5, 111), (6, 112), (7, 113)]
theorem gRules : Tryd.prog.globalNamed "facsimile/ranges.rules" = some 0 := by kernel_rfl
theorem gArith : Tryd.prog.globalNamed "facsimile/ranges.arithmetic" = some 1 := by kernel_rfl
theorem tRules : (Tryd.prog.globals[0]?).map (·.type) = some 84 := by kernel_rfl
theorem tArith : (Tryd.prog.globals[1]?).map (·.type) = some 88 := by kernel_rfl
noncomputable def laidL : List (String × DataW Unit) := [("facsimile/ranges.arithmetic", Rows.laid_facsimile_ranges_arithmetic), ("facsimile/ranges.rules", Rows.laid_facsimile_ranges_rules)]
def unTable : DataW Unit → DataW Unit
  | .iface _ d => d
  | d => d
theorem globs_of_laid {W : World} (h : laidMetH Tryd.prog laidL W) : Globs tab (fun _ => False) W := by
  have h0 : funcsAt Tryd.prog W "facsimile/ranges.rules" (unTable Rows.laid_facsimile_ranges_rules) := h.funcs (List.mem_cons_of_mem _ (List.mem_singleton.2 rfl))
  have h1 : funcsAt Tryd.prog W "facsimile/ranges.arithmetic" (unTable Rows.laid_facsimile_ranges_arithmetic) := h.funcs (List.mem_cons_self ..)
  intro g x hg
  have hm := findF_mem (l := glL) hg
  simp only [glL, List.mem_cons, Prod.mk.injEq, List.not_mem_nil, or_false] at hm
  rcases hm with ⟨rfl, rfl⟩ | ⟨rfl, rfl⟩
  · exact of_table (l := rulesL) h0 (by kernel_rfl) gRules tRules Tryd.underlying84 Tryd.underlying3 Tryd.underlying82 (by kernel_rfl) (by kernel_rfl) (by kernel_rfl)
  · exact of_table (l := arithL) h1 (by kernel_rfl) gArith tArith Tryd.underlying88 Tryd.underlying3 Tryd.underlying87 (by kernel_rfl) (by kernel_rfl) (by kernel_rfl)
end Go.Proofs.YtkbgcnppkmkkiaaDoor
