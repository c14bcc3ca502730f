/- Runs of code. -/
import Derived.Test.YtkbgcnppkmkkiaaDoorVxE
import Derived.RangeFuncNested
import Derived.RangeFuncLeaves
set_option linter.unusedVariables false
namespace Go.V
open Go.RowKit
section
variable {P : Program} {T : Tab} {lo : Lo} {hi : Hint} {N : Nat} {av0 : Nat → Prop} {w0 : World} {sp : List (D × Value)} {s : VS} {a : Act} {w : World} {E : Env} {f : FuncId} {ro : Option Nat}

/-- The frame is a round's of root ro's loop, or none's. -/
def InRound (E : Env) (b : Frame) : Option Nat → Prop
  | none => b.roundOf = none
  | some r => ∃ l sz, b.roundOf = some l ∧ atRoot E r l sz
theorem InRound.mono {E E' : Env} {b : Frame} (hE : Env.le E E') : ∀ {ro : Option Nat}, InRound E b ro → InRound E' b ro
  | none, h => h
  | some r, ⟨l, sz, h1, h2⟩ => ⟨l, sz, h1, hE.at_ h2⟩
/-- Where a run stops. -/
def EndAt : Option Code → List Item → Prop
  | none, todo => todo = []
  | some c, todo => (∃ k, c = .ret ∧ todo = .code .ret :: k) ∨ (∃ id k, c = .exit id ∧ todo = .code (.exit id) :: k ∧ exitTo id k = none)

/-- The record of a loop. -/
theorem R.loop (h : R T N av0 w0 sp s a w E) {r M : Nat} {g : FuncId} {sl : Slots} {ps : List Tmp} {as bd : Code} {st : LoopState} {pend : Option Code} (hr : s.rs[r]? = some (.loop g M sl ps as bd st pend)) :
    ∃ b hd sz db tm, E[r]? = some (some b, hd, sz) ∧ w.heap[b]? = some (.loop { state := st, pending := pend, fn := g, tmps := tm, params := ps.toArray, assign := as, body := bd, defers := db }) ∧ tm.size = M ∧ SlotsRel E (AV av0 s.rs E) w M sl tm ∧ NilS sl := by
  have hlt : r < E.length := by rw [h.len]; exact (List.getElem?_eq_some_iff.1 hr).1
  have hE := List.getElem?_eq_getElem hlt
  obtain ⟨b, db, tm, q1, q2, q3, q4, q5⟩ := h.roots r _ _ hr hE
  generalize E[r] = e at hE q1
  obtain ⟨e1, e2, e3⟩ := e
  have q1 : e1 = some b := q1
  subst q1
  exact ⟨b, e2, e3, db, tm, hE, q2, q3, q4, q5⟩
/-- The state of a loop's record turns. -/
theorem R.turnLoop (h : R T N av0 w0 sp s a w E) {r M b sz : Nat} {hd : Value} {g : FuncId} {sl : Slots} {ps : List Tmp} {as bd : Code} {st : LoopState} {pend : Option Code} (hr : s.rs[r]? = some (.loop g M sl ps as bd st pend)) {db : Nat} {tm : Array Value}
    (hE : E[r]? = some (some b, hd, sz)) (hw : w.heap[b]? = some (.loop { state := st, pending := pend, fn := g, tmps := tm, params := ps.toArray, assign := as, body := bd, defers := db })) (hM : tm.size = M) (hsl : SlotsRel E (AV av0 s.rs E) w M sl tm) (hn : NilS sl) (st' : LoopState) (pend' : Option Code) :
    R T N av0 w0 sp { s with rs := setAt s.rs r (.loop g M sl ps as bd st' pend') } a (w.putObj b (.loop { state := st', pending := pend', fn := g, tmps := tm, params := ps.toArray, assign := as, body := bd, defers := db })) E := by
  have hlt : b < w.heap.size := (Array.getElem?_eq_some_iff.1 hw).1
  rw [setAt_eq]
  refine h.turn hr trivial hE (by simp) (fun k hk => World.putObj_heap_other hk) ⟨rfl, rfl, rfl⟩ ⟨b, db, tm, rfl, World.putObj_heap_same hlt, hM, ?_, hn⟩
  refine hsl.mono (Env.le_refl E) ⟨by simp, fun k hk hav => World.putObj_heap_other fun e => ?_⟩ (fun _ _ q => q)
  subst e
  exact hav (.inr ⟨r, _, sz, hr, trivial, hd, hE⟩)
/-- A root is given up; its block may become what it likes. -/
theorem R.kill (h : R T N av0 w0 sp s a w E) {r b sz : Nat} {hd : Value} {x : Root} (hr : s.rs[r]? = some x) (hx : x.live) (hE : E[r]? = some (some b, hd, sz)) (o : Obj) : R T N av0 w0 sp { s with rs := setAt s.rs r .dead } a (w.putObj b o) E := by
  rw [setAt_eq]
  exact h.turn hr hx hE (by simp) (fun k hk => World.putObj_heap_other hk) ⟨rfl, rfl, rfl⟩ trivial

theorem beginF_R (h : R T N av0 w0 sp s a w E) {b : Frame} (hb : InRound E b ro) {s' : VS} (e : beginF ro s = some s') {k : List Item} {cs : List Frame} :
    ∃ w', R T N av0 w0 sp s' a w' E ∧ s'.sl = s.sl ∧ Steps P (lone (b.atR a (.beginRound :: k)) cs w) (lone (b.atR a k) cs w') := by
  unfold beginF at e
  split at e
  case h_2 => simp at e
  rename_i r
  split at e
  case h_2 => simp at e
  rename_i g M sl ps as bd hr
  simp only [Option.some.injEq] at e
  subst e
  rw [nthF_get] at hr
  obtain ⟨l, hd, sz, db, tm, h1, h2, h3, h4, h5⟩ := h.loop hr
  obtain ⟨l', sz', h6, hd', h7⟩ := hb
  rw [h1] at h7
  simp only [Option.some.injEq, Prod.mk.injEq] at h7
  obtain ⟨rfl, rfl, rfl⟩ := h7
  exact ⟨_, h.turnLoop hr h1 h2 h3 h4 h5 .busy none, rfl, .one (stepR_beginRound h6 (run_beginRound h2 rfl))⟩

/-- A loop over a function, entered. -/
theorem enterLoop_R (h : R T N av0 w0 sp s a w E) (hn : NilS s.sl) (g : FuncId) (ps : List Tmp) (as bd : Code) :
    R T N av0 w0 sp { s with rs := s.rs ++ [.dfr, .loop g N s.sl ps as bd .ready none], df := s.rs.length :: s.df } { a with defers := [{ target := .collected w.heap.size, args := #[] }] ++ a.defers }
      ((w.alloc (.deferred (some []))).alloc (.loop { state := .ready, pending := none, fn := g, tmps := a.tmps, params := ps.toArray, assign := as, body := bd, defers := w.heap.size }))
      ((E ++ [(some w.heap.size, undef, 1)]) ++ [(some (w.heap.size + 1), undef, 1)]) ∧ atRoot ((E ++ [(some w.heap.size, undef, 1)]) ++ [(some (w.heap.size + 1), undef, 1)]) (s.rs.length + 1) (w.heap.size + 1) 1 := by
  let w1 := w.alloc (.deferred (some []))
  have hs1 : w1.heap.size = w.heap.size + 1 := World.size_alloc ..
  have hold1 : ∀ b, b < w.heap.size → w1.heap[b]? = w.heap[b]? := fun b hb => (below_alloc w _).block b hb
  have h1 := h.new (x := .dfr) (e := (some w.heap.size, undef, 1)) (w' := w1) hs1 hold1 (below_alloc w _) rfl ⟨w.heap.size, rfl, World.alloc_heap_new w _⟩
  let o := Obj.loop { state := .ready, pending := none, fn := g, tmps := a.tmps, params := ps.toArray, assign := as, body := bd, defers := w.heap.size }
  let w2 := w1.alloc o
  have hs2 : w2.heap.size = w1.heap.size + 1 := World.size_alloc ..
  have hold2 : ∀ b, b < w1.heap.size → w2.heap[b]? = w1.heap[b]? := fun b hb => (below_alloc w1 _).block b hb
  have hlen1 : (E ++ [(some w.heap.size, undef, 1)]).length = (s.rs ++ [Root.dfr]).length := h1.len
  have h2 := h1.new (x := .loop g N s.sl ps as bd .ready none) (e := (some w1.heap.size, undef, 1)) (w' := w2) hs2 hold2 (below_alloc w1 _) rfl ⟨w1.heap.size, w.heap.size, a.tmps, rfl, World.alloc_heap_new w1 _, h.size, by
    have hsl : SlotsRel (E ++ [(some w.heap.size, undef, 1)]) (AV av0 (s.rs ++ [Root.dfr]) (E ++ [(some w.heap.size, undef, 1)])) w1 N s.sl a.tmps := h1.slots
    refine hsl.mono (Env.le_append _ _) ⟨by omega, fun b hb _ => hold2 b hb⟩ ?_
    exact h1.av_new, hn⟩
  have e1 : s.rs ++ [Root.dfr, .loop g N s.sl ps as bd .ready none] = (s.rs ++ [Root.dfr]) ++ [.loop g N s.sl ps as bd .ready none] := by simp
  have hw1 : w1.heap.size = w.heap.size + 1 := hs1
  have hat : ∀ F : Env, atRoot ((E ++ [(some w.heap.size, undef, 1)]) ++ F) s.rs.length w.heap.size 1 := fun F => by
    refine ⟨undef, ?_⟩
    rw [List.append_assoc, List.getElem?_append_right (by rw [h.len]; exact Nat.le_refl _)]
    simp [h.len]
  rw [hw1] at h2
  refine ⟨?_, ⟨undef, ?_⟩⟩
  · rw [e1]
    exact ⟨h2.size, .cons ⟨w.heap.size, 1, hat _, rfl⟩ h2.defers, h2.spec, h2.below, h2.len, h2.outer, h2.roots, h2.blk, h2.inj, h2.slots, h2.glob⟩
  · rw [List.getElem?_append_right (by rw [hlen1]; simp)]
    simp [h.len]

theorem resolve_range {g : Operand} {l : Nat} {ρ : Operand → Value} {fid : FuncId} {cs : Array Value} (hg : ρ g = .func (.func fid) #[] cs) (hv : ρ (.const (.func (.yield l) #[] #[])) = .func (.yield l) #[] #[]) (he : Enters P fid) (w : World) :
    ∃ d, (resolve ρ (rangeCall g l) 0).run P w = .ok d w ∧ (invoke d.target d.args).run P w = .ok (.enter fid (#[.func (.yield l) #[] #[]] ++ cs)) w := by
  refine ⟨_, by simp [resolve, hg, Deferred.ofValue, Sem.run_pure]; rfl, ?_⟩
  simp only [invoke]
  have := run_enter he (#[.func (.yield l) #[] #[]] ++ cs) w
  simpa [hv] using this
end
end Go.V
