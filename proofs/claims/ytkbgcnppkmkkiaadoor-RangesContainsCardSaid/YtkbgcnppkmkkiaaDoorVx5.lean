/- The executor's other operations: memory. -/
import Derived.Test.YtkbgcnppkmkkiaaDoorVx4
set_option linter.unusedVariables false
namespace Go.V
open Go.RowKit

theorem place_end (x : Root) (rs : List Root) : place rs.length x rs = rs ++ [x] := by simp [place, Nat.beq_refl]
theorem place_at {b : Nat} (x : Root) {rs : List Root} (h : b < rs.length) : place b x rs = rs.set b x := by
  have : Nat.beq b rs.length = false := by
    cases hb : Nat.beq b rs.length with
    | false => rfl
    | true => have := Nat.eq_of_beq_eq_true hb; omega
  simp [place, this, setAt_eq]

section
variable {P : Program} {T : Tab} {N : Nat} {av0 : Nat → Prop} {w0 : World} {sp : List (D × Value)} {s : VS} {a : Act} {w : World} {E : Env}

/-- A place for a new root: one kept free, or the end. -/
def Free (s : VS) (E : Env) (b : Nat) : Prop := (s.rs[b]? = some .dead ∧ E[b]? = some hole) ∨ b = s.rs.length
/-- The environment has grown; of the places kept free only b may be taken. -/
structure Grew (b : Nat) (E E' : Env) : Prop where
  le : Env.le E E'
  free : ∀ q, q ≠ b → E[q]? = some hole → E'[q]? = some hole
theorem Grew.refl (b : Nat) (E : Env) : Grew b E E := ⟨Env.le_refl E, fun _ _ h => h⟩

/-- A new root. -/
theorem R.make (h : R T N av0 w0 sp s a w E) {b : Nat} (hf : Free s E b) {dead : Option Nat} {x : Root} {e : Option Nat × Value × Nat} {w' : World} {row : Option Nat}
    (hg : w.grownBy w' row)
    (hrow : ∀ k, row = some k → ∃ r y q, dead = some r ∧ s.rs[r]? = some y ∧ y.live ∧ atRoot E r k q)
    (hblk : ∀ k, e.1 = some k → some k = row ∨ w.heap.size ≤ k) (hlt : ∀ k, e.1 = some k → k < w'.heap.size)
    (hx : ∀ E' av', Env.le E E' → (∀ k, k < w.heap.size → av' k → AV av0 s.rs E k) → (∀ k, av' k → AV av0 s.rs E k ∨ e.1 = some k) → Keeps (AV av0 s.rs E) w w' → RootRel E' av' w0.heap.size w' e x) :
    ∃ E', R T N av0 w0 sp { s with rs := place b x (kill dead s.rs) } a w' E' ∧ E'[b]? = some e ∧ Grew b E E' ∧ (∀ k, k < w.heap.size → AV av0 (place b x (kill dead s.rs)) E' k → AV av0 s.rs E k) := by
  have hkl : (kill dead s.rs).length = s.rs.length := by cases dead <;> simp [kill]
  rcases hf with ⟨hb, hE⟩ | rfl
  · have hbl : b < (kill dead s.rs).length := by rw [hkl]; exact (List.getElem?_eq_some_iff.1 hb).1
    have hbE : b < E.length := (List.getElem?_eq_some_iff.1 hE).1
    obtain ⟨h1, h2⟩ := h.at (b := b) (dead := dead) (x := x) (e := e) (w' := w') (row := row) hb hE hg hrow hblk hlt (fun hav hav2 hk => hx _ _ (Env.le_set e hE) hav hav2 hk)
    rw [place_at x hbl]
    refine ⟨_, h1, by rw [List.getElem?_set]; simp [hbE], ⟨Env.le_set e hE, fun q hq h3 => ?_⟩, h2⟩
    rw [List.getElem?_set, if_neg (fun e => hq e.symm)]; exact h3
  · have h0 := h.holes 1
    have hle : Env.le E (E ++ List.replicate 1 hole) := Env.le_append _ _
    have hrs : (s.rs ++ List.replicate 1 Root.dead)[s.rs.length]? = some .dead := by simp
    have hEs : (E ++ List.replicate 1 hole)[s.rs.length]? = some hole := by rw [← h.len]; simp
    have hav0 : ∀ k, AV av0 (s.rs ++ List.replicate 1 .dead) (E ++ List.replicate 1 hole) k → AV av0 s.rs E k := by
      rintro k (q | ⟨r, y, sz, h1, h2, hh, h3⟩)
      · exact .inl q
      · rcases Nat.lt_or_ge r s.rs.length with hr | hr
        · rw [List.getElem?_append_left hr] at h1
          rw [List.getElem?_append_left (by rw [h.len]; exact hr)] at h3
          exact .inr ⟨r, y, sz, h1, h2, hh, h3⟩
        · rw [List.getElem?_append_right hr, List.getElem?_replicate] at h1
          split at h1
          · simp only [Option.some.injEq] at h1; subst h1; exact h2.elim
          · simp at h1
    have hav1 : ∀ k, AV av0 s.rs E k → AV av0 (s.rs ++ List.replicate 1 .dead) (E ++ List.replicate 1 hole) k := by
      rintro k (q | ⟨r, y, sz, h1, h2, h3⟩)
      · exact .inl q
      · exact .inr ⟨r, y, sz, by rw [List.getElem?_append_left (List.getElem?_eq_some_iff.1 h1).1]; exact h1, h2, hle.at_ h3⟩
    obtain ⟨h1, h2⟩ := h0.at (b := s.rs.length) (dead := dead) (x := x) (e := e) (w' := w') (row := row) hrs hEs hg (fun k hk => by
      obtain ⟨r, y, q, h3, h4, h5, h6⟩ := hrow k hk
      exact ⟨r, y, q, h3, by rw [List.getElem?_append_left (List.getElem?_eq_some_iff.1 h4).1]; exact h4, h5, hle.at_ h6⟩) hblk hlt
      (fun hav hav2 hk => hx _ _ (fun r e' q n => by
        have q' := hle r e' q n
        exact Env.le_set e hEs r e' q' n) (fun k hk' q => hav0 k (hav k hk' q)) (fun k q => (hav2 k q).imp (hav0 k) id) ⟨hk.size, fun k hk' hn => hk.same k hk' fun q => hn (hav0 k q)⟩)
    have hk2 : (kill dead (s.rs ++ List.replicate 1 .dead)).set s.rs.length x = place s.rs.length x (kill dead s.rs) := by
      rw [← hkl, place_end]
      cases dead with
      | none => simp [kill]
      | some r =>
        simp only [kill]
        rw [List.set_append]
        split
        · rename_i hr
          have : (s.rs.set r Root.dead ++ List.replicate 1 Root.dead).set (s.rs.set r Root.dead).length x = s.rs.set r Root.dead ++ [x] := by
            rw [List.set_append]; simp
          exact this
        · rename_i hr
          have h3 : s.rs.set r Root.dead = s.rs := List.set_eq_of_length_le (by omega)
          have h4 : (List.replicate 1 Root.dead).set (r - s.rs.length) Root.dead = List.replicate 1 Root.dead := by
            cases r - s.rs.length <;> rfl
          rw [h3, h4, List.set_append]
          simp
    simp only at h1 h2
    rw [hk2] at h1 h2
    refine ⟨_, h1, ?_, ⟨fun r e' q n => Env.le_set e hEs r e' (hle r e' q n) n, fun q hq h3 => ?_⟩, fun k hk q => hav0 k (h2 k hk q)⟩
    · rw [List.getElem?_set, if_pos rfl]
      simp [h.len]
    · rw [List.getElem?_set, if_neg (fun e => hq e.symm), List.getElem?_append_left (List.getElem?_eq_some_iff.1 h3).1]
      exact h3

def effD (e : Eff) : Option D := match e with
  | .val d => some d
  | .wr d _ => d
  | .all d _ => some d
  | .cold _ => none

/-- What is to be shown behind an operation: the value, the memory, the relation. -/
def After (T : Tab) (N : Nat) (av0 : Nat → Prop) (w0 : World) (sp : List (D × Value)) (s : VS) (a : Act) (w : World) (E : Env) (b : Nat) (e : Eff) (v : Value) (w' : World) (E' : Env) : Prop :=
  Grew b E E' ∧ R T N av0 w0 sp { s with rs := effR e s.rs } a w' E' ∧ ∀ d, effD e = some d → DRel E' (AV av0 (effR e s.rs) E') w' d v

theorem take_mid {α : Type} (l m : List α) (o k n : Nat) (hm : m.length = k) (h : o + k ≤ n) (hn : n ≤ l.length) : (l.take o ++ m ++ l.drop (o + k)).take n = (l.take n).take o ++ m ++ (l.take n).drop (o + k) := by
  apply List.ext_getElem?
  intro i
  have h1 : (l.take o).length = o := by simp; omega
  have h2 : ((l.take n).take o).length = o := by simp; omega
  rw [List.getElem?_take]
  rcases Nat.lt_or_ge i o with hi | hi
  · rw [if_pos (by omega), List.append_assoc, List.append_assoc, List.getElem?_append_left (by omega), List.getElem?_append_left (by omega)]
    rw [List.getElem?_take, List.getElem?_take, List.getElem?_take, if_pos hi, if_pos hi, if_pos (by omega)]
  · rcases Nat.lt_or_ge i (o + k) with hk | hk
    · have A : ∀ l1 l3 : List α, l1.length = o → (l1 ++ m ++ l3)[i]? = m[i - o]? := fun l1 l3 hl => by
        rw [List.append_assoc, List.getElem?_append_right (by omega), hl, List.getElem?_append_left (by omega)]
      rw [if_pos (by omega), A _ _ h1, A _ _ h2]
    · rw [List.getElem?_append_right (by simp; omega), List.getElem?_append_right (by simp; omega), List.getElem?_drop, List.getElem?_drop, List.getElem?_take]
      simp only [List.length_append, h1, h2, hm]
      rw [show o + k + (i - (o + k)) = i by omega]

theorem storeF_sound (hty : TyOK P T) (h : R T N av0 w0 sp s a w E) (hn : NilS s.sl) {dst : Option Tmp} {t : TypeId} {x v : Operand} {e : Eff} (ef : storeF T s dst t x v = some e) (b : Nat) :
    dst = none ∧ ∃ w', (Instr.storeAt t (a.eval x) (a.eval v)).run P w = .ok () w' ∧ After T N av0 w0 sp s a w E b e undef w' E := by
  unfold storeF at ef
  split at ef
  · simp at ef
  refine ⟨rfl, ?_⟩
  split at ef
  case h_2 => simp at ef
  rename_i y d hy hd
  have hv := h.evF hn hd
  split at ef
  case h_2 => simp at ef
  rename_i cs hcs
  obtain ⟨hsz, ef⟩ := Bool.rec_some ef
  split at ef
  case h_2 => simp at ef
  rename_i r i j hx
  have hx := h.evF hn (cellF_some hx)
  have hcv := cells_rel hv hcs
  unfold storeR at ef
  split at ef
  · rename_i l hl
    rw [nthF_eq] at hl
    split at ef
    case h_2 => simp at ef
    split at ef
    case h_2 => simp at ef
    rename_i l' hl'
    simp only [Option.some.injEq] at ef
    subst ef
    have hr : r < s.rs.length := by rw [nth_eq] at hl; exact (List.getElem?_eq_some_iff.1 hl).1
    obtain ⟨s', w', h1, h2, h3⟩ := store_sound (t := t) hty h hx hv (K := fun s' => s' = { s with rs := setAt s.rs r (.box l') }) (by
      simp only [storeK, hy, hcs, hsz, hl, hl'])
    subst h3
    refine ⟨w', h1, Grew.refl _ _, ?_, fun d hd => by simp [effD] at hd⟩
    show R T N av0 w0 sp { s with rs := place r (.box l') s.rs } a w' E
    rw [place_at _ hr, ← setAt_eq]
    exact h2
  · rename_i el asz n l hl
    rw [nthF_eq, nth_eq] at hl
    split at ef
    case h_2 => simp at ef
    rename_i l' hl'
    simp only [Option.some.injEq] at ef
    subst ef
    have hy := hty.ty _ _ hy
    simp only [Bool.and_eq_true] at hsz
    obtain ⟨hsz, hpos⟩ := hsz
    have hsz := of_beq hsz
    have hpos := toNat_of_blt hpos
    have hvs : (a.eval v).cells.size = y.size := by have := hcv.length; rw [hsz] at this; simpa using this.symm
    have hr : r < s.rs.length := (List.getElem?_eq_some_iff.1 hl).1
    obtain ⟨b', sz, ⟨hd', hE⟩, hpx⟩ := hx
    obtain ⟨q1, q2, xs, q3, q4⟩ := h.roots r _ _ hl hE
    have q1 : sz = asz := q1
    have q2 : some b' = hd'.ownBlock := q2
    subst q1
    obtain ⟨q5, q6⟩ := q3
    have q6 : (hd' = .slice none 0 0 ∧ n = 0) ∨ ∃ g cap cur, hd' = .slice (some ⟨g, 0, none⟩) n cap ∧ w0.heap.size ≤ g ∧ w.heap[g]? = some (.cells cur el (0, 0)) ∧ n ≤ cap ∧ cap ≤ maxLen ∧ cur.size = cap * sz ∧ cur.toList.take (n * sz) = xs := q6
    rcases q6 with ⟨q6, _⟩ | ⟨g', cap, cur, q6, q7, q8, q9, q10, q11, q12⟩
    · rw [q6] at q2; simp [Value.ownBlock] at q2
    rw [q6] at q2
    simp only [Value.ownBlock, Option.some.injEq] at q2
    subst q2
    have hfit0 : i * sz + j + y.size ≤ n * sz := by
      have hlen := q4.length
      rcases put_some hl' with h1 | h1
      · rw [hsz] at h1; omega
      · subst h1; simp at hsz; omega
    have hcap : n * sz ≤ cap * sz := Nat.mul_le_mul_right _ q9
    have hrun := run_storeAt_row (w := w) hy (o := i * sz + j) q8 hvs (by omega) (hcv.all_one)
    rw [hpx]
    refine ⟨_, hrun, Grew.refl _ _, ?_, fun d hd => by simp [effD] at hd⟩
    show R T N av0 w0 sp { s with rs := place r _ s.rs } a _ E
    rw [place_at _ hr]
    have hl2 : (a.eval v).cells.toList.length = y.size := by simpa using hvs
    have hk : Keeps (AV av0 s.rs E) w (w.setRow b' (cur.toList.take (i * sz + j) ++ (a.eval v).cells.toList ++ cur.toList.drop (i * sz + j + y.size)).toArray) :=
        ⟨by simp, fun k hk hn => setRow_other w _ k _ fun e => by subst e; exact hn (.inr ⟨r, _, sz, hl, trivial, hd', hE⟩)⟩
    have hp := putL hl' q4 hcv
    rw [hl2, ← q12, ← take_mid cur.toList _ (i * sz + j) y.size (n * sz) hl2 hfit0 (by simp; omega)] at hp
    refine h.turn hl trivial hE (by simp) (fun k hk => setRow_other w _ k _ hk) ⟨rfl, rfl, rfl⟩ ⟨rfl, by rw [q6]; rfl, _, ⟨?_, .inr ⟨b', cap, _, q6, q7, setRow_heap w b' cur _ el (0, 0) q8, q9, q10, ?_, rfl⟩⟩, ?_⟩
    · simp [hl2]
      omega
    · simp [hl2]
      omega
    · exact hp.mono fun _ _ q => CRel.mono (Env.le_refl E) hk (fun _ _ q => q) q
  · simp at ef

theorem R.makeBox (h : R T N av0 w0 sp s a w E) {b : Nat} (hf : Free s E b) {l : List C} {cs : Array Value} (hl : All2 (CRel E (AV av0 s.rs E) w) l cs.toList) (t : TypeId) :
    ∃ E', After T N av0 w0 sp s a w E b (.wr (some (.c (.rt b 0 0))) [(b, .box l)]) (.pointer (some ⟨w.heap.size, 0, none⟩)) (w.alloc (.cells cs t)) E' := by
  obtain ⟨E', h1, h2, h3, h4⟩ := h.make hf (dead := none) (x := .box l) (e := (some w.heap.size, undef, l.length)) (w' := w.alloc (.cells cs t)) (row := none) (World.grownBy_alloc w _ none) (fun k hk => by cases hk)
    (fun k hk => by simp at hk; omega) (fun k hk => by simp at hk ⊢; omega) (fun E' av' hE hav _ hk => ⟨w.heap.size, cs, t, rfl, rfl, heap_alloc_new w _, hl.mono fun _ _ q => CRel.mono hE hk hav q⟩)
  refine ⟨E', h3, h1, fun d hd => ?_⟩
  simp only [effD, Option.some.injEq] at hd
  subst hd
  exact ⟨w.heap.size, l.length, ⟨undef, h2⟩, by simp⟩

theorem boxF_sound (h : R T N av0 w0 sp s a w E) (hn : NilS s.sl) {b : Nat} (hf : Free s E b) {x : Operand} (t : TypeId) {e : Eff} (ef : boxF b s x = some e) :
    ∃ E', After T N av0 w0 sp s a w E b e (.pointer (some ⟨w.heap.size, 0, none⟩)) (w.alloc (.cells (a.eval x).cells t)) E' := by
  unfold boxF at ef
  split at ef
  case h_2 => simp at ef
  rename_i d hd
  split at ef
  case h_2 => simp at ef
  rename_i l hl
  simp only [Option.some.injEq] at ef
  subst ef
  exact h.makeBox hf (cells_rel (h.evF hn hd) hl) t

theorem allocF_sound (hty : TyOK P T) (h : R T N av0 w0 sp s a w E) {b : Nat} (hf : Free s E b) {t : TypeId} {e : Eff} (ef : allocF T b t = some e) :
    ∃ v w' E', (∀ o : Oper, o.op = .alloc t → (execOp a.eval o).run P w = .ok (.value v) w') ∧ After T N av0 w0 sp s a w E b e v w' E' := by
  unfold allocF at ef
  split at ef
  case h_2 => simp at ef
  rename_i y hy
  have hy := hty.ty _ _ hy
  split at ef
  case h_2 => simp at ef
  rename_i l hl
  simp only [Option.some.injEq] at ef
  subst ef
  obtain ⟨i, hi, _, _, hz⟩ := hy.full
  obtain ⟨E', h1⟩ := h.makeBox hf (cs := y.zero.cells) (oneV_rel hl) t
  refine ⟨_, _, E', fun o ho => ?_, h1⟩
  have hz0 : (zeroValue t).run P w = .ok y.zero w := by simp [zeroValue, typeInfo, hi, hz]
  simp only [execOp, ho, Instr.alloc, Sem.run_bind, hz0, Result.andThen_ok]
  rfl

theorem mkmapF_sound (h : R T N av0 w0 sp s a w E) {b : Nat} (hf : Free s E b) {t : TypeId} {r : Option Operand} {e : Eff} (ef : mkmapF T b t r = some e) :
    r = none ∧ ∃ E', After T N av0 w0 sp s a w E b e (.map (some w.heap.size)) (w.alloc (.map #[] 0)) E' := by
  unfold mkmapF at ef
  split at ef
  case h_2 => simp at ef
  simp only [Option.some.injEq] at ef
  subst ef
  refine ⟨rfl, ?_⟩
  obtain ⟨E', h1, h2, h3, h4⟩ := h.make hf (dead := none) (x := .set []) (e := (some w.heap.size, undef, 0)) (w' := w.alloc (.map #[] 0)) (row := none) (World.grownBy_alloc w _ none) (fun k hk => by cases hk)
    (fun k hk => by simp at hk; omega) (fun k hk => by simp at hk ⊢; omega) (fun E' av' hE hav _ hk => ⟨w.heap.size, #[], 0, rfl, heap_alloc_new w _, .nil⟩)
  refine ⟨E', h3, h1, fun d hd => ?_⟩
  simp only [effD, Option.some.injEq] at hd
  subst hd
  exact ⟨w.heap.size, 0, ⟨undef, h2⟩, rfl⟩

theorem mapuF_sound (hty : TyOK P T) (h : R T N av0 w0 sp s a w E) (hn : NilS s.sl) {dst : Option Tmp} {t : TypeId} {m k v : Operand} {e : Eff} (ef : mapuF T s dst t m k v = some e) (b : Nat) :
    dst = none ∧ ∃ w', (Instr.mapUpdate t (a.eval m) (a.eval k) (a.eval v)).run P w = .ok () w' ∧ After T N av0 w0 sp s a w E b e undef w' E := by
  unfold mapuF at ef
  split at ef
  · simp at ef
  refine ⟨rfl, ?_⟩
  obtain ⟨hk, ef⟩ := Bool.rec_some ef
  unfold mapK at hk
  split at hk
  case h_2 => simp at hk
  rename_i hyt
  have hyt := (hty.ty _ _ hyt).map rfl
  split at hk
  case h_2 => simp at hk
  rename_i hyk _
  have hyk := (hty.ty _ _ hyk).int rfl
  split at ef
  case h_2 => simp at ef
  rename_i r n hm hk hv
  obtain ⟨b', sz, ⟨hh, hE⟩, hm⟩ := h.evF hn (cellF_some hm)
  have hk := (h.evF hn (intF_some hk)).1
  have hv := (h.evF hn (boolF_some hv)).1
  split at ef
  case h_2 => simp at ef
  rename_i l hl
  rw [nthF_eq, nth_eq] at hl
  simp only [Option.some.injEq] at ef
  subst ef
  obtain ⟨w', h1, h2⟩ := set_sound h hl hE hyt hyk
  rw [hm, hk, hv]
  refine ⟨w', h1, Grew.refl _ _, ?_, fun d hd => by simp [effD] at hd⟩
  show R T N av0 w0 sp { s with rs := place r _ s.rs } a _ E
  rw [place_at _ (List.getElem?_eq_some_iff.1 hl).1]
  exact h2

/-- A new row. -/
theorem R.makeRow (h : R T N av0 w0 sp s a w E) {b : Nat} (hf : Free s E b) {el sz n : Nat} {l : List C} {w' : World} {hd : Value} {xs : List Value} {row : Option Nat} {dead : Option Nat}
    (hg : w.grownBy w' row) (hown : w'.ownsRow w0.heap.size el sz hd n xs)
    (hrow : ∀ k, row = some k → ∃ r x q, dead = some r ∧ s.rs[r]? = some x ∧ x.live ∧ atRoot E r k q)
    (hblk : ∀ k, hd.ownBlock = some k → some k = row ∨ w.heap.size ≤ k)
    (hl : All2 (CRel E (AV av0 s.rs E) w) l xs) :
    ∃ E', R T N av0 w0 sp { s with rs := place b (.row el sz n l) (kill dead s.rs) } a w' E' ∧ Grew b E E' ∧ DRel E' (AV av0 (place b (.row el sz n l) (kill dead s.rs)) E') w' (.c (.sa b n)) hd := by
  obtain ⟨E', h1, h2, h3, h4⟩ := h.make hf (dead := dead) (x := .row el sz n l) (e := (hd.ownBlock, hd, sz)) (w' := w') (row := row) hg hrow hblk (fun k hk => by
      rcases hown.2 with ⟨h1, _⟩ | ⟨g, cap, cur, h1, h2, h3, _⟩
      · have hk : hd.ownBlock = some k := hk
        rw [h1] at hk; simp [Value.ownBlock] at hk
      · have hk : hd.ownBlock = some k := hk
        rw [h1] at hk
        simp only [Value.ownBlock, Option.some.injEq] at hk
        subst hk
        exact (Array.getElem?_eq_some_iff.1 h3).1)
    (fun E' av' hE hav _ hk => ⟨rfl, rfl, xs, hown, hl.mono fun _ _ q => CRel.mono hE hk hav q⟩)
  refine ⟨E', h1, h3, ?_⟩
  rcases hown.2 with ⟨q5, q6⟩ | ⟨g, cap, cur, q5, _⟩
  · exact ⟨_, none, 0, 0, h2, q5, by omega, by rw [q5, q6]⟩
  · exact ⟨_, _, n, cap, h2, q5, Nat.le_refl _, q5⟩

theorem fillAF_fillA (hn : NilS s.sl) {sz : Nat} : ∀ {ps : List (Nat × Operand)} {l r : List C}, fillAF sz s.sl ps l = some r → fillA sz s [] ps l = some r
  | [], l, r, e => e
  | p :: ps, l, r, e => by
    obtain ⟨k, x⟩ := p
    have e : (match Go.V.evF s.sl x with
      | some d => match d.cells with
        | some cs => (Bool.rec none (match put l (k * sz) cs with
          | some l' => fillAF sz s.sl ps l'
          | none => none) (Nat.beq cs.length sz && Nat.blt 0 sz) : Option (List C))
        | none => none
      | none => none) = some r := e
    split at e
    case h_2 => simp at e
    rename_i d hd
    split at e
    case h_2 => simp at e
    rename_i cs hcs
    obtain ⟨h1, e⟩ := Bool.rec_some e
    split at e
    case h_2 => simp at e
    rename_i l' hl'
    simp only [fillA, evF_ev hn hd, hcs, h1, hl']
    exact fillAF_fillA hn e

theorem bsF_sound (hty : TyOK P T) (h : R T N av0 w0 sp s a w E) (hn : NilS s.sl) {b : Nat} (hf : Free s E b) {t n : Nat} {ps : Array (Nat × Operand)} {e : Eff} (ef : bsF T b s t n ps.toList = some e) :
    ∃ v w' E', (Instr.buildSlice t n (ps.map fun (i, x) => (i, a.eval x))).run P w = .ok v w' ∧ After T N av0 w0 sp s a w E b e v w' E' := by
  unfold bsF at ef
  split at ef
  case h_2 => simp at ef
  rename_i sz0 by0 z0 el hy0
  have hy0 := hty.ty _ _ hy0
  split at ef
  case h_2 => simp at ef
  rename_i y hy
  have hy := hty.ty _ _ hy
  split at ef
  case h_2 => simp at ef
  rename_i z hz
  split at ef
  case h_2 => simp at ef
  rename_i l hl
  obtain ⟨hb, ef⟩ := Bool.rec_some ef
  simp only [Option.some.injEq] at ef
  subst ef
  simp only [Bool.and_eq_true] at hb
  have hpos := toNat_of_blt hb.1
  have hbig := of_ble hb.2
  have hzl : z.length = y.size := by
    have := (oneV_rel (E := E) (av := AV av0 s.rs E) (w := w) hz).length
    rw [this]
    simpa using hy.zs
  obtain ⟨cs, h1, h2, h3⟩ := run_buildSlice hty h (CondsHold.nil a) hy0 rfl hy hz (fillAF_fillA hn hl) hzl hpos hbig
  have hm : n ≤ maxLen := by
    have : n ≤ n * y.size := Nat.le_mul_of_pos_right _ hpos
    simp only [maxLen]; omega
  have hown := World.ownsRow_lit (e := el) (size := y.size) (base := w0.heap.size) w cs n h.size_le hm (by rw [← h3, h2.length]; simp)
  obtain ⟨E', h4, h5, h6⟩ := h.makeRow hf (dead := none) (row := none) (n := n) (l := l) (World.grownBy_alloc w _ none) hown (fun k hk => by cases hk) (fun k hk => by simp [Value.ownBlock] at hk; right; omega) h2
  refine ⟨_, _, E', h1, h5, h4, fun d hd => ?_⟩
  simp only [effD, Option.some.injEq] at hd
  subst hd
  exact h6

theorem mkslF_sound (hty : TyOK P T) (h : R T N av0 w0 sp s a w E) (hn : NilS s.sl) {b : Nat} (hf : Free s E b) {t : TypeId} {l c : Operand} {e : Eff} (ef : mkslF T b s t l c = some e) :
    ∃ v w' E', (Instr.makeSlice t (a.eval l) (a.eval c)).run P w = .ok v w' ∧ After T N av0 w0 sp s a w E b e v w' E' := by
  unfold mkslF at ef
  split at ef
  case h_2 => simp at ef
  rename_i sz0 by0 z0 el hy0
  have hu := (hty.ty _ _ hy0).slice rfl
  split at ef
  case h_2 => simp at ef
  rename_i y hy
  have hy := hty.ty _ _ hy
  split at ef
  case h_2 => simp at ef
  rename_i z hz
  split at ef
  case h_2 => simp at ef
  rename_i n m hl hc
  obtain ⟨hb, ef⟩ := Bool.rec_some ef
  simp only [Option.some.injEq] at ef
  subst ef
  simp only [Bool.and_eq_true] at hb
  have h1 := of_beq hb.1
  subst h1
  have hpos := toNat_of_blt hb.2.1
  have hsm := of_ble hb.2.2.1
  have hby := of_ble hb.2.2.2
  have hl := (h.evF hn (intF_some hl)).1
  have hc := (h.evF hn (intF_some hc)).1
  have hzr := oneV_rel (E := E) (av := AV av0 s.rs E) (w := w) hz
  have hzl : z.length = y.size := by rw [hzr.length]; simpa using hy.zs
  obtain ⟨inf, hin, hsz, hbytes, hzero⟩ := hy.full
  have hm : n ≤ maxLen := by simp only [maxLen]; omega
  obtain ⟨w', hr, hown, hg⟩ := run_make_full w w0.heap.size t el inf y.zero y.size hu hin hzero hsz .i64 .i64 n (by rw [hbytes, Nat.mul_comm]; exact hby) hm h.size_le
  have hcells : All2 (CRel E (AV av0 s.rs E) w) (rep z n) (madeCells y.zero.cells (n * y.size)).toList := by
    refine All2.of_get (by rw [rep_length, hzl]; simp [size_madeCells]) fun i x v hx hv => ?_
    have hi : i < n * z.length := by
      have := (List.getElem?_eq_some_iff.1 hx).1
      rwa [rep_length] at this
    rw [rep_get z n i hi] at hx
    have hi' : i < n * y.size := by rw [← hzl]; exact hi
    have hcs : y.zero.cells.size = y.size := hy.zs
    have hmod : i % y.zero.cells.size < y.zero.cells.size := Nat.mod_lt _ (by rw [hcs]; exact hpos)
    have hv' : v = y.zero.cells[i % y.zero.cells.size]'hmod := by
      have : (madeCells y.zero.cells (n * y.size)).toList[i]? = some (y.zero.cells[i % y.zero.cells.size]!) := by
        simp [madeCells, hi']
      rw [this] at hv
      simp only [Option.some.injEq] at hv
      rw [← hv, getElem!_pos y.zero.cells _ hmod]
    refine All2.get hzr hx (i := i % z.length) ?_
    rw [hv', show i % z.length = i % y.zero.cells.size by rw [hzl, hcs]]
    simp [hmod]
  obtain ⟨E', h4, h5, h6⟩ := h.makeRow hf (dead := none) (row := none) (n := n) (l := rep z n) hg hown (fun k hk => by cases hk) (fun k hk => by simp [Value.ownBlock] at hk; right; omega) hcells
  refine ⟨.slice (some ⟨w.heap.size, 0, none⟩) n n, w', E', ?_, h5, h4, fun d hd => ?_⟩
  · rw [hl, hc]; exact hr
  · simp only [effD, Option.some.injEq] at hd
    subst hd
    exact h6

theorem cellsFrom_get (get : Nat → I) : ∀ (n o q : Nat), q < n → (cellsFrom get o n)[q]? = some (.im (get (o + q)))
  | 0, _, _, h => by omega
  | n + 1, o, 0, _ => by simp [cellsFrom]
  | n + 1, o, q + 1, h => by
    simp only [cellsFrom, List.getElem?_cons_succ]
    rw [cellsFrom_get get n (o + 1) q (by omega)]
    congr 3; omega
theorem cellsFrom_len (get : Nat → I) : ∀ (n o : Nat), (cellsFrom get o n).length = n
  | 0, _ => rfl
  | n + 1, o => by simp [cellsFrom, cellsFrom_len get n]
theorem tabF_succ (get : Nat → Nat → I) (sz i n : Nat) : tabF get sz i (n + 1) = cellsFrom (get i) 0 sz ++ tabF get sz (i + 1) n := rfl
theorem tabF_len (get : Nat → Nat → I) (sz : Nat) : ∀ (n i : Nat), (tabF get sz i n).length = n * sz
  | 0, _ => by simp; rfl
  | n + 1, i => by rw [tabF_succ, List.length_append, cellsFrom_len, tabF_len get sz n, Nat.add_mul, Nat.one_mul]; omega
theorem tabF_get (get : Nat → Nat → I) (sz : Nat) : ∀ (n i k j : Nat), k < n → j < sz → (tabF get sz i n)[k * sz + j]? = some (.im (get (i + k) j))
  | 0, _, _, _, h, _ => by omega
  | n + 1, i, 0, j, _, hj => by
    rw [tabF_succ, List.getElem?_append_left (by rw [cellsFrom_len]; omega), cellsFrom_get _ _ _ _ (by omega)]
    simp
  | n + 1, i, k + 1, j, h, hj => by
    have : (k + 1) * sz + j = sz + (k * sz + j) := by rw [Nat.add_mul, Nat.one_mul]; omega
    rw [tabF_succ, List.getElem?_append_right (by rw [cellsFrom_len]; omega), cellsFrom_len, show (k + 1) * sz + j - sz = k * sz + j by omega, tabF_get get sz n (i + 1) k j (by omega) hj]
    congr 3; omega

theorem All2.of_len {α β : Type} {Rr : α → β → Prop} : ∀ {l : List α} {m : List β}, l.length = m.length → (∀ (i : Nat) (x : α), l[i]? = some x → ∃ y, m[i]? = some y ∧ Rr x y) → All2 Rr l m
  | [], [], _, _ => .nil
  | x :: l, y :: m, h, k => by
    obtain ⟨y', h1, h2⟩ := k 0 x rfl
    simp only [List.getElem?_cons_zero, Option.some.injEq] at h1
    subst h1
    exact .cons h2 (All2.of_len (by simpa using h) fun i x hx => by simpa using k (i + 1) x (by simpa using hx))
  | [], _ :: _, h, _ => by simp at h
  | _ :: _, [], h, _ => by simp at h

/-- What an append reads. -/
theorem srcF_cells (h : R T N av0 w0 sp s a w E) {c : C} {vs : Value} {sz k : Nat} {l' : List C} (hs : srcF s.rs c = some (sz, k, l')) (hr : CRel E (AV av0 s.rs E) w c vs) :
    ∃ ao cap, vs = .slice ao k cap ∧ (ao = none → k = 0) ∧ ∃ news : List Value, news.length = k * sz ∧ (∀ ad, ao = some ad → ∀ j u, news[j]? = some u → w.cell? (ad.add j) = some u) ∧ (∀ u ∈ news, u.oneCell' = true) ∧
      All2 (CRel E (AV av0 s.rs E) w) l' news := by
  unfold srcF at hs
  split at hs
  · rename_i sz' k' get
    simp only [Option.some.injEq, Prod.mk.injEq] at hs
    obtain ⟨rfl, rfl, rfl⟩ := hs
    obtain ⟨ao, cap, h1, h2, news, h3, h4, h5, h6⟩ := src_cells h (src := .c (.im (.sl sz' k' get))) rfl hr
    refine ⟨ao, cap, h1, h2, news, h3, h4, h5, All2.of_len (by rw [tabF_len, h3]) fun q x hx => ?_⟩
    have hq : q < k' * sz' := by have := (List.getElem?_eq_some_iff.1 hx).1; rwa [tabF_len] at this
    have hz : 0 < sz' := by
      rcases Nat.eq_zero_or_pos sz' with e | e
      · subst e; simp at hq
      · exact e
    have e1 : q / sz' * sz' + q % sz' = q := by rw [Nat.mul_comm]; exact Nat.div_add_mod q sz'
    have hk : q / sz' < k' := Nat.div_lt_of_lt_mul (by rw [Nat.mul_comm]; exact hq)
    have hm : q % sz' < sz' := Nat.mod_lt _ hz
    obtain ⟨y, h7, h8⟩ := h6 (q / sz') hk (q % sz') hm
    have h9 := tabF_get get sz' k' 0 (q / sz') (q % sz') hk hm
    rw [e1] at h7 h9
    rw [hx] at h9
    simp only [Nat.zero_add, Option.some.injEq] at h9
    subst h9
    exact ⟨y, h7, h8⟩
  · obtain ⟨rfl, _⟩ := hr
    simp only [Option.some.injEq, Prod.mk.injEq] at hs
    obtain ⟨rfl, rfl, rfl⟩ := hs
    exact ⟨none, 0, rfl, fun _ => rfl, [], rfl, fun _ q => (by cases q), fun _ q => (by cases q), .nil⟩
  · rename_i q k'
    split at hs
    case h_2 => simp at hs
    rename_i el sz' n l hl
    rw [nthF_eq, nth_eq] at hl
    obtain ⟨hkn, hs⟩ := Bool.rec_some hs
    have hkn := of_ble hkn
    split at hs
    case h_2 => simp at hs
    rename_i l2 hl2
    obtain ⟨rfl, hlen⟩ := takeN_eq _ _ _ hl2
    simp only [Option.some.injEq, Prod.mk.injEq] at hs
    obtain ⟨rfl, rfl, rfl⟩ := hs
    obtain ⟨e, ao, n', cap, h1, h2, h3, rfl⟩ := hr
    obtain ⟨q1, q2, xs, q3, q4⟩ := h.roots q _ _ hl h1
    have hxl := q3.1
    have hxk : (xs.take (k' * sz')).length = k' * sz' := by rw [List.length_take, ← q4.length]; omega
    rcases q3.2 with ⟨q5, q6⟩ | ⟨g, cap', cur, q5, q6, q7, q8, q9, q10, q11⟩
    · rw [h2] at q5
      simp only [Value.slice.injEq] at q5
      obtain ⟨rfl, rfl, rfl⟩ := q5
      have : k' = 0 := by omega
      subst this
      exact ⟨none, 0, rfl, fun _ => rfl, [], by simp, fun _ _ j u hj => (by simp at hj), fun u hu => (by cases hu), by simp; exact .nil⟩
    · rw [h2] at q5
      simp only [Value.slice.injEq] at q5
      obtain ⟨rfl, rfl, rfl⟩ := q5
      refine ⟨_, cap, rfl, fun e => (by simp at e), xs.take (k' * sz'), hxk, ?_, ?_, q4.take _⟩
      · intro ad he j u hj
        simp only [Option.some.injEq] at he
        subst he
        rw [Addr.add_mid, getElem?_lit q7]
        rw [← q11, List.take_take, List.getElem?_take] at hj
        split at hj
        · simpa using hj
        · simp at hj
      · exact All2.all_one (q4.take _)
  · simp at hs

theorem append_nil_run {t el : TypeId} {y0 y : Ty} (hy0 : TyFact P t y0) (hk : y0.kd = .slice el) (hy : TyFact P el y) (ao : Option Addr) (cap : Nat) (ty : TypeId) :
    (Builtin.append_ #[t, t] ty #[.slice none 0 0, .slice ao 0 cap]).run P w = .ok (.slice none 0 0) w := by
  obtain ⟨i, hi, _⟩ := hy.full
  cases ao <;> simp [Builtin.append_, run_underlying (hy0.slice hk), sizeOf, typeInfo, hi, Builtin.lenOf, Builtin.firstCells, loadCells, loadCellsFrom]

theorem apd_sound (h : R T N av0 w0 sp s a w E) {b : Nat} (hf : Free s E b) {t el : TypeId} {y0 y : Ty} (hy0 : TyFact P t y0) (hk : y0.kd = .slice el) (hy : TyFact P el y) (hpos : 0 < y.size)
    {k : Nat} {l' : List C} {c : C} {v : Value} (hc : CRel E (AV av0 s.rs E) w c v) {ao : Option Addr} {cap : Nat} (hno : ao = none → k = 0) {news : List Value} (hl : news.length = k * y.size)
    (hcell : ∀ ad, ao = some ad → ∀ j u, news[j]? = some u → w.cell? (ad.add j) = some u) (h1 : ∀ u ∈ news, u.oneCell' = true) (hrel : All2 (CRel E (AV av0 s.rs E) w) l' news)
    {e : Eff} (ef : apd el y.size k l' y.bytes b s.rs c = some e) (ty : TypeId) :
    ∃ v' w' E', (Builtin.append_ #[t, t] ty #[v, .slice ao k cap]).run P w = .ok v' w' ∧ After T N av0 w0 sp s a w E b e v' w' E' := by
  unfold apd at ef
  split at ef
  · obtain ⟨rfl, _⟩ := hc
    split at ef
    · simp only [Option.some.injEq] at ef
      subst ef
      refine ⟨_, w, E, append_nil_run hy0 hk hy ao cap ty, Grew.refl _ _, h, fun d hd => ?_⟩
      simp only [effD, Option.some.injEq] at hd
      subst hd
      exact ⟨rfl, rfl⟩
    · obtain ⟨hroom, ef⟩ := Bool.rec_some ef
      simp only [Option.some.injEq] at ef
      subst ef
      rename_i k
      simp only [roomB, Bool.and_eq_true] at hroom
      have hroom : room (k + 1) y.bytes := ⟨of_ble hroom.1, of_ble hroom.2⟩
      obtain ⟨v', w', q1, q2, q3, q4⟩ := run_append_both hy0 hk hy hpos (w.ownsRow_nil w0.heap.size el y.size) h.size_le hno hl hcell h1 (by simpa using hroom) ty
      simp only [Nat.zero_add, List.nil_append] at q2
      obtain ⟨E', h4, h5, h6⟩ := h.makeRow hf (dead := none) (row := none) (n := k + 1) (l := l') q3 q2 (fun k hk => by cases hk) (fun k hk => by
        rcases q4 k hk with q5 | q5
        · simp [Value.ownBlock] at q5
        · exact .inr q5) hrel
      refine ⟨v', w', E', q1, h5, h4, fun d hd => ?_⟩
      simp only [effD, Option.some.injEq] at hd
      subst hd
      exact h6
  · rename_i r m
    split at ef
    case h_2 => simp at ef
    rename_i el' sz' n l hlr
    rw [nthF_eq, nth_eq] at hlr
    obtain ⟨he, ef⟩ := Bool.rec_some ef
    obtain ⟨hroom, ef⟩ := Bool.rec_some ef
    simp only [Option.some.injEq] at ef
    subst ef
    simp only [Bool.and_eq_true] at he hroom
    have he1 := of_beq he.1
    have he2 := of_beq he.2
    subst he1 he2
    have hmn := of_beq hroom.1
    subst hmn
    have hroom := hroom.2
    simp only [roomB, Bool.and_eq_true] at hroom
    have hroom : room (m + k) y.bytes := ⟨of_ble hroom.1, of_ble hroom.2⟩
    obtain ⟨e', a', n', cap', h2, h3, h4, rfl⟩ := hc
    obtain ⟨q1, q2, xs, q3, q4⟩ := h.roots r _ _ hlr h2
    have hn' : n' = m := by
      rcases q3.2 with ⟨q5, q6⟩ | ⟨g, cap2, cur, q5, _⟩
      · rw [h3] at q5; simp only [Value.slice.injEq] at q5; omega
      · rw [h3] at q5; simp only [Value.slice.injEq] at q5; omega
    subst hn'
    rw [← h3]
    obtain ⟨v', w', p1, p2, p3, p4⟩ := run_append_both hy0 hk hy hpos q3 h.size_le hno hl hcell h1 hroom ty
    have hat : ∀ b, e'.2.1.ownBlock = some b → atRoot E r b e'.2.2 := by
      intro b hb
      obtain ⟨e1, e2, e3⟩ := e'
      have q2 : e1 = e2.ownBlock := q2
      have hb : e2.ownBlock = some b := hb
      rw [hb] at q2
      subst q2
      exact ⟨e2, h2⟩
    obtain ⟨E', h5, h6, h7⟩ := h.makeRow hf (dead := some r) (row := e'.2.1.ownBlock) (n := n' + k) (l := l ++ l') p3 p2 (fun b hb => ⟨r, _, _, rfl, hlr, trivial, hat b hb⟩) (fun b hb => p4 b hb) (q4.append hrel)
    have hkill : kill (some r) s.rs = setAt s.rs r .dead := by rw [setAt_eq]; rfl
    rw [hkill] at h5 h7
    refine ⟨v', w', E', p1, h6, h5, fun d hd => ?_⟩
    simp only [effD, Option.some.injEq] at hd
    subst hd
    exact h7
  · simp at ef

theorem appF_sound (hty : TyOK P T) (h : R T N av0 w0 sp s a w E) (hn : NilS s.sl) {b : Nat} (hf : Free s E b) {ts : List TypeId} {xs : List Operand} {e : Eff} (ef : appF T b s ts xs = some e) (ty : TypeId) :
    ∃ v' w' E', (Builtin.append_ ts.toArray ty (xs.map a.eval).toArray).run P w = .ok v' w' ∧ After T N av0 w0 sp s a w E b e v' w' E' := by
  unfold appF at ef
  split at ef
  case h_2 => simp at ef
  rename_i t t' x y'
  replace ef := Bool.rec_some ef
  obtain ⟨ht, ef⟩ := ef
  have ht := of_beq ht
  subst ht
  split at ef
  case h_2 => simp at ef
  rename_i sz0 by0 z0 el hy0
  have hy0 := hty.ty _ _ hy0
  unfold apdF at ef
  split at ef
  case h_2 => simp at ef
  rename_i y hy
  have hy := hty.ty _ _ hy
  split at ef
  case h_2 => simp at ef
  rename_i src hsrc
  have hsrc := h.evF hn (cellF_some hsrc)
  split at ef
  case h_2 => simp at ef
  rename_i sz k l' hs
  obtain ⟨ao, cap, hv2, hno, news, hl, hcell, h1, hrel⟩ := srcF_cells h hs hsrc
  split at ef
  case h_2 => simp at ef
  rename_i c hc
  have hc := h.evF hn (cellF_some hc)
  simp only [List.map_cons, List.map_nil]
  rw [hv2]
  split at ef
  · -- nothing comes
    have hnews : news = [] := List.eq_nil_of_length_eq_zero (by simpa using hl)
    subst hnews
    replace ef := Bool.rec_some ef
    obtain ⟨hpos, ef⟩ := ef
    exact apd_sound h hf hy0 rfl hy (toNat_of_blt hpos) hc hno (by simp) (fun _ _ j u hj => by simp at hj) (fun u hu => by cases hu) .nil ef ty
  · replace ef := Bool.rec_some ef
    obtain ⟨hsz, ef⟩ := ef
    simp only [Bool.and_eq_true] at hsz
    have hsz1 := of_beq hsz.1
    subst hsz1
    exact apd_sound h hf hy0 rfl hy (toNat_of_blt hsz.2) hc hno hl hcell h1 hrel ef ty
end
end Go.V
