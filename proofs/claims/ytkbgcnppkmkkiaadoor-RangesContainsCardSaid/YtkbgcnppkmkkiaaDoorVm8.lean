/- New rows: a slice's literal, append. -/
import Derived.Test.YtkbgcnppkmkkiaaDoorVm7
import Derived.Maps.AppendAt
set_option linter.unusedVariables false
namespace Go.V
open Go.RowKit
section
variable {P : Program} {T : Tab} {N : Nat} {av0 : Nat → Prop} {w0 : World} {sp : List (D × Value)} {s : VS} {a : Act} {w : World} {E : Env}

theorem rep_length (l : List C) : ∀ n, (rep l n).length = n * l.length
  | 0 => by simp [rep]
  | n + 1 => by simp only [rep, List.length_append, rep_length l n, Nat.add_mul, Nat.one_mul]; omega
theorem rep_get (l : List C) : ∀ n i, i < n * l.length → (rep l n)[i]? = l[i % l.length]?
  | 0, i, h => by simp at h
  | n + 1, i, h => by
    simp only [rep]
    rcases Nat.lt_or_ge i l.length with h1 | h1
    · rw [List.getElem?_append_left h1, Nat.mod_eq_of_lt h1]
    · rw [List.getElem?_append_right h1, rep_get l n (i - l.length) (by rw [Nat.add_mul, Nat.one_mul] at h; omega)]
      congr 1
      exact (Nat.mod_eq_sub_mod h1).symm

theorem fillA_rel (h : R T N av0 w0 sp s a w E) {g : Cond} (hg : CondsHold a g) {sz : Nat} :
    ∀ {parts : List (Nat × Operand)} {l r : List C} {cs : Array Value}, fillA sz s g parts l = some r → All2 (CRel E (AV av0 s.rs E) w) l cs.toList →
    ∃ cs', Instr.fill (fun i => some (i * sz, sz)) cs (parts.map fun x => (x.1, a.eval x.2)) = some cs' ∧ All2 (CRel E (AV av0 s.rs E) w) r cs'.toList ∧ r.length = l.length
  | [], l, r, cs, e, hl => by
    simp only [fillA, Option.some.injEq] at e
    subst e
    exact ⟨cs, rfl, hl, rfl⟩
  | (k, x) :: parts, l, r, cs, e, hl => by
    simp only [fillA] at e
    split at e
    case h_2 => simp at e
    rename_i d hx
    split at e
    case h_2 => simp at e
    rename_i ks hks
    split at e
    case h_2 => simp at e
    rename_i hsz
    simp only [Bool.and_eq_true] at hsz
    obtain ⟨hsz, hpos⟩ := hsz
    have hsz := of_beq hsz
    have hpos := toNat_of_blt hpos
    split at e
    case h_2 => simp at e
    rename_i l' hl'
    have hv := cells_rel (h.ev hg hx) hks
    have hlen := hv.length
    have hfit := put_some hl'
    have hcl := hl.length
    have hp := put_rel (av := AV av0 s.rs E) hl' hl hv
    obtain ⟨cs', h1, h2, h3⟩ := fillA_rel h hg (cs := ((a.eval x).cells.zipIdx.foldl (fun cs (y : Value × Nat) => cs.setIfInBounds (k * sz + y.2) y.1) cs)) e (by
      have := foldl_set (k * sz) (a.eval x).cells.toList 0 cs
      rw [← Array.foldl_toList, Array.toList_zipIdx, this]
      exact hp)
    have hll : l'.length = l.length := by
      rw [put_eq hl']
      rcases hfit with hfit | hfit
      · simp; omega
      · subst hfit; simp at hsz; omega
    refine ⟨cs', ?_, h2, h3.trans hll⟩
    simp only [List.map_cons, Instr.fill]
    have h3 : (a.eval x).cells.size = sz := by rw [← hsz, hlen]; simp
    have h4 : ¬ (k * sz + sz > cs.size) := by
      rw [hsz] at hfit
      have : cs.size = l.length := by rw [hcl]; simp
      rcases hfit with hfit | hfit
      · omega
      · subst hfit
        simp at hsz
        omega
    rw [if_neg (by simp [h3]; omega)]
    exact h1

theorem run_buildSlice (hty : TyOK P T) (h : R T N av0 w0 sp s a w E) {g : Cond} (hg : CondsHold a g) {t el n : Nat} {parts : Array (Nat × Operand)} {y0 y : Ty} (hy0 : TyFact P t y0) (hk : y0.kd = .slice el) (hy : TyFact P el y)
    {z l : List C} (hz : zeroC y = some z) (hl : fillA y.size s g parts.toList (rep z n) = some l) (hzl : z.length = y.size) (hpos : 0 < y.size) (hbig : n * y.size ≤ 1000000) :
    ∃ cs : Array Value, (Instr.buildSlice t n (parts.map fun (i, x) => (i, a.eval x))).run P w = .ok (.slice (some ⟨w.heap.size, 0, none⟩) n n) (w.alloc (.cells cs el)) ∧ All2 (CRel E (AV av0 s.rs E) w) l cs.toList ∧ l.length = n * y.size := by
  obtain ⟨inf, hi, hisz, _, hzero⟩ := hy.full
  have hzr := oneV_rel (E := E) (av := AV av0 s.rs E) (w := w) hz
  have hzs : y.zero.cells.size = y.size := by have := hzr.length; rw [hzl] at this; simpa using this.symm
  have hrep : All2 (CRel E (AV av0 s.rs E) w) (rep z n) ((Array.range (n * y.size)).map (y.zero.cells[· % y.zero.cells.size]!)).toList := by
    refine All2.of_get (by rw [rep_length, hzl]; simp) fun i x v h1 h2 => ?_
    have hi : i < n * y.size := by
      have := (List.getElem?_eq_some_iff.1 h1).1
      rw [rep_length, hzl] at this
      exact this
    rw [rep_get z n i (by rw [hzl]; exact hi), hzl] at h1
    have hm : i % y.size < y.size := Nat.mod_lt _ hpos
    have h2' : y.zero.cells.toList[i % y.size]? = some v := by
      simp only [Array.toList_map, Array.toList_range, List.getElem?_map, List.getElem?_range hi, Option.map_some, Option.some.injEq] at h2
      rw [← h2, hzs]
      rw [Array.getElem!_eq_getD, Array.getD_eq_getD_getElem?]
      have : i % y.size < y.zero.cells.size := by omega
      simp [this]
    exact hzr.get h1 h2'
  obtain ⟨cs', h1, h2, h3⟩ := fillA_rel h hg hl hrep
  rw [rep_length, hzl] at h3
  refine ⟨cs', ?_, h2, h3⟩
  have hparts : (parts.map fun (i, x) => (i, a.eval x)).toList = parts.toList.map fun x => (x.1, a.eval x.2) := by simp
  rw [← hparts] at h1
  have hz0 : (zeroValue el).run P w = .ok y.zero w := by simp [zeroValue, typeInfo, hi, hzero]
  have hbig' : ¬ (n * y.size > 2 ^ 24) := by omega
  simp only [Instr.buildSlice, Sem.run_bind, Result.andThen_ok, run_underlying (hy0.slice hk), run_sizeOf hy.sz, hbig']
  have h1' : Instr.fill (fun i => some (i * y.size, y.size)) ((Array.range (n * y.size)).map (y.zero.cells[· % y.zero.cells.size]!)) (Array.map (fun (x : Nat × Operand) => (x.fst, a.eval x.snd)) parts).toList = some cs' := h1
  have hnew : ((do let d ← newRow el cs'; pure (Value.slice (some d) n n)) : Sem Value).run P w = .ok (.slice (some ⟨w.heap.size, 0, none⟩) n n) (w.alloc (.cells cs' el)) := by
    rfl
  by_cases h0 : n * y.size = 0
  · have e0 : (Array.range (n * y.size)).map ((#[] : Array Value)[· % (#[] : Array Value).size]!) = (Array.range (n * y.size)).map (y.zero.cells[· % y.zero.cells.size]!) := by rw [h0]; simp
    simp only [h0, if_true, if_false, Sem.run_bind, Sem.run_pure, Result.andThen_ok]
    rw [h0] at h1' e0
    rw [e0, h1']
    exact hnew
  · simp only [h0, if_false, Sem.run_bind, Sem.run_pure, Result.andThen_ok, hz0]
    rw [h1']
    exact hnew

def kill : Option Nat → List Root → List Root
  | some r, rs => rs.set r .dead
  | none, rs => rs
/-- The new root of a row that the frame has just made, or of one that it has added to; the elder root r, if there was one, is dead. -/
theorem R.row (h : R T N av0 w0 sp s a w E) {el sz n : Nat} {get : Nat → Nat → I} {w' : World} {hd : Value} {xs : List Value} {row : Option Nat} {dead : Option Nat}
    (hg : w.grownBy w' row) (hown : w'.ownsRow w0.heap.size el sz hd n xs)
    (hrow : ∀ k, row = some k → w0.heap.size ≤ k ∧ ∃ r x q, dead = some r ∧ s.rs[r]? = some x ∧ x.live ∧ atRoot E r k q)
    (hblk : ∀ k, hd.ownBlock = some k → some k = row ∨ w.heap.size ≤ k)
    (hcells : ∀ i, i < n → ∀ j, j < sz → ∃ x, xs[i * sz + j]? = some x ∧ IRel (AV av0 s.rs E) w (get i j) x) :
    R T N av0 w0 sp { s with rs := kill dead s.rs ++ [.arr el sz n get] } a w' (E ++ [(hd.ownBlock, hd, sz)]) := by
  have hle := h.size_le
  let rs1 := kill dead s.rs
  have hlen1 : rs1.length = s.rs.length := by
    simp only [rs1]; cases dead <;> simp [kill]
  have old : ∀ (q : Nat) (y : Root), rs1[q]? = some y → y.live → s.rs[q]? = some y ∧ dead ≠ some q := by
    intro q y h1 h2
    simp only [rs1] at h1
    cases dead with
    | some r =>
      simp only [kill] at h1
      rw [List.getElem?_set] at h1
      split at h1
      · rename_i hq
        subst hq
        split at h1
        · cases h1; exact h2.elim
        · simp at h1
      · rename_i hq
        exact ⟨h1, fun e => hq (by simpa using e)⟩
    | none => exact ⟨h1, by simp⟩
  have hk : Keeps (AV av0 s.rs E) w w' := ⟨hg.size, fun k hk hn => hg.block k hk fun e => by
    obtain ⟨_, r, x, q, _, h2, h3, h4⟩ := hrow k e.symm
    exact hn (.inr ⟨r, x, q, h2, h3, h4⟩)⟩
  have hE := Env.le_append E [(hd.ownBlock, hd, sz)]
  have hownlt : ∀ k, hd.ownBlock = some k → w0.heap.size ≤ k ∧ k < w'.heap.size := by
    intro k hk
    rcases hown.2 with ⟨h1, _⟩ | ⟨g, cap, cur, h1, h2, h3, _⟩
    · rw [h1] at hk; simp [Value.ownBlock] at hk
    · rw [h1] at hk
      simp only [Value.ownBlock, Option.some.injEq] at hk
      subst hk
      exact ⟨h2, (Array.getElem?_eq_some_iff.1 h3).1⟩
  have key : ∀ (q : Nat) (y : Root) (b z : Nat), (rs1 ++ [.arr el sz n get])[q]? = some y → y.live → atRoot (E ++ [(hd.ownBlock, hd, sz)]) q b z →
      (s.rs[q]? = some y ∧ dead ≠ some q ∧ atRoot E q b z) ∨ (q = E.length ∧ hd.ownBlock = some b) := by
    intro q y b z h1 h2 h3
    rcases atRoot_append h3 with h4 | ⟨h4, h5, _⟩
    · obtain ⟨hh, h4⟩ := h4
      have := (List.getElem?_eq_some_iff.1 h4).1
      rw [h.len, ← hlen1] at this
      rw [List.getElem?_append_left this] at h1
      obtain ⟨h5, h6⟩ := old q y h1 h2
      exact .inl ⟨h5, h6, hh, h4⟩
    · exact .inr ⟨h4, h5⟩
  have hav : ∀ b, b < w.heap.size → AV av0 (rs1 ++ [.arr el sz n get]) (E ++ [(hd.ownBlock, hd, sz)]) b → AV av0 s.rs E b := by
    refine AV_mono fun q y b z h1 h2 h3 h4 => ?_
    rcases key q y b z h1 h2 h3 with ⟨h5, _, h6⟩ | ⟨_, h6⟩
    · exact .inr ⟨q, y, z, h5, h2, h6⟩
    · rcases hblk b h6 with h7 | h7
      · obtain ⟨_, r, x, q, _, h8, h9, h10⟩ := hrow b h7.symm
        exact .inr ⟨r, x, q, h8, h9, h10⟩
      · omega
  have apart : ∀ (q : Nat) (y : Root) (b z : Nat), s.rs[q]? = some y → y.live → dead ≠ some q → atRoot E q b z → hd.ownBlock ≠ some b ∧ row ≠ some b := by
    intro q y b z h1 h2 h3 h4
    have hb := h.blk q y b z h1 h2 h4
    have hr : row ≠ some b := by
      intro e
      obtain ⟨_, r, x, q', h5, h6, h7, h8⟩ := hrow b e
      have := h.inj q r y x b z q' h1 h6 h2 h7 h4 h8
      subst this
      exact h3 h5
    refine ⟨fun e => ?_, hr⟩
    rcases hblk b e with h5 | h5
    · exact hr h5.symm
    · omega
  refine h.upd (rs' := rs1 ++ [.arr el sz n get]) hE hk ⟨hg.os.trans h.below.os, hg.tape.trans h.below.tape, hg.output.trans h.below.output, by have := hg.size; omega, fun k hk' => ?_⟩ hav (by simp [hlen1, h.len]) ?_ ?_ ?_
  · rw [hg.block k (by omega) fun e => by have := (hrow k e.symm).1; omega]
    exact h.below.block k hk'
  · intro q y e h1 h2
    rcases Nat.lt_trichotomy q E.length with hr | hr | hr
    · rw [List.getElem?_append_left (by rw [hlen1, ← h.len]; exact hr)] at h1
      rw [List.getElem?_append_left hr] at h2
      by_cases hl : y.live
      · obtain ⟨h3, h4⟩ := old q y h1 hl
        refine RootRel.mono (av := AV av0 s.rs E) hE hk hav (fun hl b hb => ?_) (h.roots q y e h3 h2)
        obtain ⟨e1, e2, e3⟩ := e
        have hb : e1 = some b := hb
        subst hb
        have hat : atRoot E q b e3 := ⟨e2, h2⟩
        exact hg.block b (h.blk q y b e3 h3 hl hat).2 fun e => (apart q y b e3 h3 hl h4 hat).2 e.symm
      · cases y with
        | dead => trivial
        | _ => exact (hl trivial).elim
    · subst hr
      rw [h.len, ← hlen1, List.getElem?_append_right (Nat.le_refl _)] at h1
      rw [List.getElem?_append_right (Nat.le_refl _)] at h2
      simp at h1 h2
      subst h1 h2
      refine ⟨rfl, rfl, xs, hown, fun i hi j hj => ?_⟩
      obtain ⟨x, h3, h4⟩ := hcells i hi j hj
      exact ⟨x, h3, IRel.mono hk hav h4⟩
    · rw [List.getElem?_eq_none (by simp; omega)] at h2
      simp at h2
  · intro q y b z h1 h2 h3
    rcases key q y b z h1 h2 h3 with ⟨h5, _, h6⟩ | ⟨_, h6⟩
    · have := h.blk q y b z h5 h2 h6; have := hg.size; omega
    · exact hownlt b h6
  · intro q q' y y' b z z' h1 h1' h2 h2' h3 h3'
    rcases key q y b z h1 h2 h3 with ⟨h5, h6, h7⟩ | ⟨h6, h7⟩ <;> rcases key q' y' b z' h1' h2' h3' with ⟨h5', h6', h7'⟩ | ⟨h6', h7'⟩
    · exact h.inj q q' y y' b z z' h5 h5' h2 h2' h7 h7'
    · exact ((apart q y b z h5 h2 h6 h7).1 h7').elim
    · exact ((apart q' y' b z' h5' h2' h6' h7').1 h7).elim
    · omega

/-- What an append reads. -/
theorem src_cells (h : R T N av0 w0 sp s a w E) {src : D} {vs : Value} {sz k : Nat} {get' : Nat → Nat → I} (hs : srcD s.rs src = some (sz, k, get')) (hr : DRel E (AV av0 s.rs E) w src vs) :
    ∃ ao cap, vs = .slice ao k cap ∧ (ao = none → k = 0) ∧ ∃ news : List Value, news.length = k * sz ∧ (∀ ad, ao = some ad → ∀ j u, news[j]? = some u → w.cell? (ad.add j) = some u) ∧ (∀ u ∈ news, u.oneCell' = true) ∧
      ∀ i, i < k → ∀ j, j < sz → ∃ x, news[i * sz + j]? = some x ∧ IRel (AV av0 s.rs E) w (get' i j) x := by
  unfold srcD at hs
  split at hs
  · rename_i sz' k' g'
    simp only [Option.some.injEq, Prod.mk.injEq] at hs
    obtain ⟨rfl, rfl, rfl⟩ := hs
    obtain ⟨ao, cap, rfl, hn, hm, hc⟩ := hr
    rcases Nat.eq_zero_or_pos k' with h0 | h0
    · subst h0
      exact ⟨ao, cap, rfl, fun _ => rfl, [], by simp, fun _ _ j u hj => (by simp at hj), fun u hu => (by cases hu), fun i hi => by omega⟩
    · obtain ⟨ad, rfl, hsp, h1, h2, hc⟩ := hc h0
      rcases Nat.eq_zero_or_pos sz' with hz | hz
      · subst hz
        exact ⟨_, cap, rfl, fun e => (by simp at e), [], by simp, fun _ _ j u hj => (by simp at hj), fun u hu => (by cases hu), fun i hi j hj => by omega⟩
      · obtain ⟨f, hf⟩ := pick_cells (n := k' * sz') (Q := fun q x => w.cell? (ad.add q) = some x ∧ IRel (AV av0 s.rs E) w (g' (q / sz') (q % sz')) x) (fun q hq => by
          obtain ⟨x, h3, h4⟩ := hc (q / sz') (Nat.div_lt_of_lt_mul (by rw [Nat.mul_comm]; exact hq)) (q % sz') (Nat.mod_lt _ hz)
          refine ⟨x, ?_, h4⟩
          have e1 : q / sz' * sz' + q % sz' = q := by rw [Nat.mul_comm]; exact Nat.div_add_mod q sz'
          rw [e1] at h3
          exact h3)
        have hget : ∀ j u, ((List.range (k' * sz')).map f)[j]? = some u → j < k' * sz' ∧ u = f j := by
          intro j u hj
          have hjl : j < k' * sz' := by
            have := (List.getElem?_eq_some_iff.1 hj).1
            simpa using this
          simp [hjl] at hj
          exact ⟨hjl, hj.symm⟩
        refine ⟨some ad, cap, rfl, fun e => (by simp at e), (List.range (k' * sz')).map f, by simp, ?_, ?_, ?_⟩
        · intro ad' he j u hj
          simp only [Option.some.injEq] at he
          subst he
          obtain ⟨h3, rfl⟩ := hget j u hj
          exact (hf j h3).1
        · intro u hu
          obtain ⟨q, hq, rfl⟩ := List.mem_map.1 hu
          exact IRel.one (hf q (List.mem_range.1 hq)).2
        · intro i hi j hj
          have hlt : i * sz' + j < k' * sz' := by
            have := Nat.mul_le_mul_right sz' (show i + 1 ≤ k' by omega)
            rw [Nat.add_mul, Nat.one_mul] at this
            omega
          refine ⟨f (i * sz' + j), by simp [hlt], ?_⟩
          have h3 := (hf _ hlt).2
          have e1 : (i * sz' + j) / sz' = i := by rw [Nat.mul_comm, Nat.mul_add_div hz, Nat.div_eq_of_lt hj, Nat.add_zero]
          have e2 : (i * sz' + j) % sz' = j := by rw [Nat.mul_comm, Nat.mul_add_mod, Nat.mod_eq_of_lt hj]
          rwa [e1, e2] at h3
  · rename_i q k'
    split at hs
    case h_2 => simp at hs
    rename_i el sz' n g' hl
    rw [nth_eq] at hl
    simp only [Option.some.injEq, Prod.mk.injEq] at hs
    obtain ⟨rfl, rfl, rfl⟩ := hs
    obtain ⟨e, ao, n', cap, h1, h2, h3, rfl⟩ := hr
    obtain ⟨q1, q2, xs, q3, q4⟩ := h.roots q _ _ hl h1
    have hxl := q3.1
    rcases q3.2 with ⟨q5, q6⟩ | ⟨g, cap', cur, q5, q6, q7, q8, q9, q10, q11⟩
    · rw [h2] at q5
      simp only [Value.slice.injEq] at q5
      obtain ⟨rfl, rfl, rfl⟩ := q5
      have : k' = 0 := by omega
      subst this
      exact ⟨none, 0, rfl, fun _ => rfl, [], by simp, fun _ _ j u hj => (by simp at hj), fun u hu => (by cases hu), fun i hi => by omega⟩
    · rw [h2] at q5
      simp only [Value.slice.injEq] at q5
      obtain ⟨rfl, rfl, rfl⟩ := q5
      have hkn : k' * sz' ≤ n' * sz' := Nat.mul_le_mul_right _ h3
      refine ⟨_, cap, rfl, fun e => (by simp at e), xs.take (k' * sz'), by rw [List.length_take, hxl]; exact Nat.min_eq_left hkn, ?_, ?_, ?_⟩
      · intro ad he j u hj
        simp only [Option.some.injEq] at he
        subst he
        have hj' : j < k' * sz' := by
          have := (List.getElem?_eq_some_iff.1 hj).1
          simp at this; omega
        rw [List.getElem?_take, if_pos hj', ← q11, List.getElem?_take, if_pos (by omega)] at hj
        rw [Addr.add_mid, getElem?_lit q7]
        simpa using hj
      · intro u hu
        obtain ⟨j, hj⟩ := List.mem_iff_getElem?.1 hu
        have hj' : j < k' * sz' := by
          have := (List.getElem?_eq_some_iff.1 hj).1
          simp at this; omega
        have hz : 0 < sz' := by
          rcases Nat.eq_zero_or_pos sz' with hz | hz
          · subst hz; simp at hj'
          · exact hz
        rw [List.getElem?_take, if_pos hj'] at hj
        obtain ⟨x, h5, h6⟩ := q4 (j / sz') (by have := Nat.div_lt_of_lt_mul (show j < sz' * k' by rw [Nat.mul_comm]; exact hj'); omega) (j % sz') (Nat.mod_lt _ hz)
        have e1 : j / sz' * sz' + j % sz' = j := by rw [Nat.mul_comm]; exact Nat.div_add_mod j sz'
        rw [e1, hj] at h5
        cases h5
        exact IRel.one h6
      · intro i hi j hj
        obtain ⟨x, h5, h6⟩ := q4 i (by omega) j hj
        have hlt : i * sz' + j < k' * sz' := by
          have := Nat.mul_le_mul_right sz' (show i + 1 ≤ k' by omega)
          rw [Nat.add_mul, Nat.one_mul] at this
          omega
        exact ⟨x, by rw [List.getElem?_take, if_pos hlt]; exact h5, h6⟩
  · simp at hs

/-- append's law in the form that is wanted here -/
theorem run_append_both {t el : TypeId} {y0 y : Ty} (hy0 : TyFact P t y0) (hk : y0.kd = .slice el) (hy : TyFact P el y) (hpos : 0 < y.size) {base n m : Nat} {v : Value} {xs news : List Value} (hown : w.ownsRow base el y.size v n xs) (hbase : base ≤ w.heap.size)
    {ao : Option Addr} {cap : Nat} (hno : ao = none → m = 0) (hl : news.length = m * y.size) (hc : ∀ ad, ao = some ad → ∀ j u, news[j]? = some u → w.cell? (ad.add j) = some u) (h1 : ∀ u ∈ news, u.oneCell' = true) (hr : room (n + m) y.bytes) (ty : TypeId) :
    ∃ v' w', (Builtin.append_ #[t, t] ty #[v, .slice ao m cap]).run P w = .ok v' w' ∧ w'.ownsRow base el y.size v' (n + m) (xs ++ news) ∧ w.grownBy w' v.ownBlock ∧ (∀ k, v'.ownBlock = some k → some k = v.ownBlock ∨ w.heap.size ≤ k) := by
  obtain ⟨i, hi, hisz, hib, hiz⟩ := hy.full
  cases ao with
  | none =>
    have hm := hno rfl
    subst hm
    have hn : news = [] := List.eq_nil_of_length_eq_zero (by simpa using hl)
    subst hn
    refine ⟨v, w, ?_, by simpa using hown, ⟨rfl, rfl, rfl, Nat.le_refl _, fun _ _ _ => rfl⟩, fun k hk => .inl hk.symm⟩
    rcases hown.2 with ⟨rfl, rfl⟩ | ⟨g, cap', cur, rfl, _, _, hnc, _⟩
    · simp [Builtin.append_, run_underlying (hy0.slice hk), sizeOf, typeInfo, hi, Builtin.lenOf, Builtin.firstCells]
    · simp [Builtin.append_, run_underlying (hy0.slice hk), sizeOf, typeInfo, hi, Builtin.lenOf, Builtin.firstCells, hnc, storeCells]
  | some ad =>
    obtain ⟨v', w', h2, h3, h4, _, h5⟩ := run_append_own_at (P := P) (w := w) base t ty el i y.zero y.size y.bytes (hy0.slice hk) hi hiz hisz hib hy.zs hpos v n xs hown ad m cap news hl (hc ad rfl) h1 hr.1 hr.2 hbase
    refine ⟨v', w', h2, h3, h4, ?_⟩
    intro k hk
    rcases h5 with h5 | h5
    · left; rw [← h5, hk]
    · right; rw [h5] at hk; simp at hk; omega

theorem append_sound (hty : TyOK P T) (h : R T N av0 w0 sp s a w E) {t : TypeId} {d src : D} {vd vs : Value} (hd : DRel E (AV av0 s.rs E) w d vd) (hs : DRel E (AV av0 s.rs E) w src vs) {dst : Option Tmp} {K : VS → Prop} (e : appendK T N s t d src dst K) (ty : TypeId) :
    ∃ rs' E' w' v d', (Builtin.append_ #[t, t] ty #[vd, vs]).run P w = .ok v w' ∧ R T N av0 w0 sp { s with rs := rs' } a w' E' ∧ DRel E' (AV av0 rs' E') w' d' v ∧ putK N { s with rs := rs' } dst d' [] K := by
  unfold appendK at e
  split at e
  case h_2 => exact e.elim
  rename_i size0 bytes0 zero0 el hy0
  have hy0 := hty.ty _ _ hy0
  split at e
  case h_2 => exact e.elim
  rename_i y hy
  have hy := hty.ty _ _ hy
  split at e
  case h_2 => exact e.elim
  rename_i sz k get' hsrc
  split at e
  case h_2 => exact e.elim
  rename_i hsz
  simp only [Bool.and_eq_true] at hsz
  obtain ⟨hsz, hpos⟩ := hsz
  have hsz := of_beq hsz
  have hpos := toNat_of_blt hpos
  subst hsz
  obtain ⟨ao, cap, rfl, hno, news, hl, hc, h1, hget⟩ := src_cells h hsrc hs
  split at e
  · -- a nil slice
    obtain ⟨rfl, _⟩ := hd
    obtain ⟨hroom, e⟩ := e
    obtain ⟨v', w', q1, q2, q3, q4⟩ := run_append_both hy0 rfl hy hpos (w.ownsRow_nil w0.heap.size el y.size) h.size_le hno hl hc h1 (by simpa using hroom) ty
    simp only [Nat.zero_add, List.nil_append] at q2
    refine ⟨_, _, w', v', _, q1, h.row (dead := none) (row := none) (n := k) (get := get') q3 q2 (fun k hk => by cases hk) (fun k hk => ?_) hget, ?_, e⟩
    · rcases q4 k hk with q5 | q5
      · simp [Value.ownBlock] at q5
      · exact .inr q5
    · rcases q2.2 with ⟨q5, q6⟩ | ⟨g, cap', cur, q5, _⟩
      · refine ⟨_, none, 0, 0, by rw [← h.len]; exact List.getElem?_concat_length, q5, by omega, by rw [q5, q6]⟩
      · exact ⟨_, _, k, cap', by rw [← h.len]; exact List.getElem?_concat_length, q5, Nat.le_refl _, q5⟩
  · -- a row
    rename_i r m
    split at e
    case h_2 => exact e.elim
    rename_i el' sz' n get hlr
    rw [nth_eq] at hlr
    split at e
    case h_2 => exact e.elim
    rename_i he
    simp only [Bool.and_eq_true] at he
    obtain ⟨he1, he2⟩ := he
    have he1 := of_beq he1
    have he2 := of_beq he2
    subst he1 he2
    obtain ⟨rfl, hroom, e⟩ := e
    obtain ⟨e', a', n', cap', h2, h3, h4, rfl⟩ := hd
    obtain ⟨q1, q2, xs, q3, q4⟩ := h.roots r _ _ hlr h2
    have hn' : n' = m := by
      rcases q3.2 with ⟨q5, q6⟩ | ⟨g, cap2, cur, q5, _⟩
      · rw [h3] at q5; simp only [Value.slice.injEq] at q5; omega
      · rw [h3] at q5; simp only [Value.slice.injEq] at q5; omega
    subst hn'
    rw [← h3]
    obtain ⟨v', w', p1, p2, p3, p4⟩ := run_append_both hy0 rfl hy hpos q3 h.size_le hno hl hc h1 hroom ty
    have hat : ∀ b, e'.2.1.ownBlock = some b → atRoot E r b e'.2.2 := by
      intro b hb
      obtain ⟨e1, e2, e3⟩ := e'
      have q2 : e1 = e2.ownBlock := q2
      have hb : e2.ownBlock = some b := hb
      rw [hb] at q2
      subst q2
      exact ⟨e2, h2⟩
    have hR := h.row (dead := some r) (row := e'.2.1.ownBlock) (n := n' + k) (get := app n' get get') p3 p2 (fun b hb => ⟨(h.blk r _ b _ hlr trivial (hat b hb)).1, r, _, _, rfl, hlr, trivial, hat b hb⟩) (fun b hb => p4 b hb) (by
      intro i hi j hj
      have hxl := q3.1
      by_cases hin : i < n'
      · obtain ⟨x, q5, q6⟩ := q4 i hin j hj
        have hlt : i * y.size + j < xs.length := (List.getElem?_eq_some_iff.1 q5).1
        exact ⟨x, by rw [List.getElem?_append_left hlt]; exact q5, by simp only [app, if_pos hin]; exact q6⟩
      · obtain ⟨x, q5, q6⟩ := hget (i - n') (by omega) j hj
        have hge : n' * y.size ≤ i * y.size := Nat.mul_le_mul_right _ (by omega)
        have hsub : (i - n') * y.size = i * y.size - n' * y.size := Nat.sub_mul ..
        exact ⟨x, by rw [List.getElem?_append_right (by omega), hxl, show i * y.size + j - n' * y.size = (i - n') * y.size + j by omega]; exact q5, by simp only [app, if_neg hin]; exact q6⟩)
    rw [setAt_eq] at e
    refine ⟨_, _, w', v', _, p1, hR, ?_, e⟩
    have hlen : (s.rs.set r Root.dead).length = s.rs.length := by simp
    rcases p2.2 with ⟨q5, q6⟩ | ⟨g, cap2, cur, q5, _⟩
    · refine ⟨_, none, 0, 0, by rw [← h.len]; exact List.getElem?_concat_length, q5, by omega, by rw [q5, q6]⟩
    · exact ⟨_, _, n' + k, cap2, by rw [← h.len]; exact List.getElem?_concat_length, q5, Nat.le_refl _, q5⟩
  · exact e.elim
end
end Go.V
