/- The operations of a statement, in the order of its text. -/
import Derived.Test.YtkbgcnppkmkkiaaDoorVx8
set_option linter.unusedVariables false
namespace Go.V
open Go.RowKit
section
variable {P : Program} {T : Tab} {lo : Lo} {hi : Hint} {N : Nat} {av0 : Nat → Prop} {w0 : World} {sp : List (D × Value)} {s : VS} {a : Act} {w : World} {E : Env} {ρ : Option Nat}

theorem NilS.free {sl : Slots} (h : NilS sl) (t : Tmp) : free t sl = true := by
  induction sl with
  | nil => rfl
  | cons x sl ih =>
    have hx := h x (List.mem_cons_self ..)
    simp only [Go.V.free, hx, condFree]
    exact ih fun y hy => h y (List.mem_cons_of_mem _ hy)

/-- A slot is written. -/
theorem putF_R (h : R T N av0 w0 sp s a w E) (hn : NilS s.sl) {dst : Option Tmp} {d : D} {s' : VS} (e : putF N s dst d = some s') {v : Value} (hv : DRel E (AV av0 s.rs E) w d v) : R T N av0 w0 sp s' (a.put dst v) w E ∧ NilS s'.sl := by
  unfold putF at e
  split at e
  · simp only [Option.some.injEq] at e; subst e; exact ⟨h, hn⟩
  · rename_i t
    obtain ⟨ht, e⟩ := Bool.rec_some e
    simp only [Option.some.injEq] at e
    subst e
    refine ⟨h.put (g := []) ?_ (fun _ => hv) (fun q => (q (CondsHold.nil a)).elim), hn.cons _ _⟩
    simp only [okDst, ht, hn.free t, condFree]

theorem stepF_R {b : Nat} {dst : Option Tmp} {e : Eff} {s' : VS} (hn : NilS s.sl) (hs : stepF N s dst e = some s') {v : Value} {w' : World} {E' : Env} (ha : After T N av0 w0 sp s a w E b e v w' E') (hd : effD e = none → dst = none) :
    R T N av0 w0 sp s' (a.put dst v) w' E' ∧ NilS s'.sl := by
  obtain ⟨_, h1, h2⟩ := ha
  unfold stepF at hs
  split at hs
  · exact putF_R h1 hn hs (h2 _ rfl)
  · rename_i d ws
    unfold putOF at hs
    split at hs
    · exact putF_R h1 hn hs (h2 _ rfl)
    · simp only [Option.some.injEq] at hs
      subst hs
      rw [hd rfl]
      exact ⟨h1, hn⟩
  · exact putF_R h1 hn hs (h2 _ rfl)
  · simp at hs

theorem ocallF_val {rs : List Root} {f : FuncId} {ds : List D} {b : Nat} {e : Eff} (ef : ocallF lo rs f ds b = some e) : (∃ l, e = .cold l) ∨ effD e ≠ none := by
  unfold ocallF at ef
  split at ef
  · simp only [Option.some.injEq] at ef; subst ef; exact .inr (by simp [effD])
  · rename_i d q el sz n l ho
    obtain ⟨is, q', n', rs', el', sz', l', hi, hc, hq, hp, hd, hws⟩ := ownF_row ho
    subst hd
    cases hpl : plainC l with
    | true => rw [hpl] at ef; simp only [Option.some.injEq] at ef; subst ef; exact .inr (by simp [effD])
    | false =>
      rw [hpl] at ef
      rcases coldF_some (show coldF rs ds _ = some e from ef) with hc' | ⟨rfl, hc'⟩
      · exact .inl hc'
      · exact .inr (by simp [effD])
  · simp at ef
theorem pcallF_val {rs : List Root} {f : FuncId} {ds : List D} {e : Eff} (ef : pcallF lo rs f ds = some e) : (∃ l, e = .cold l) ∨ effD e ≠ none := by
  unfold pcallF at ef
  split at ef
  case h_2 => simp at ef
  rename_i d hd
  cases hp : plainD d with
  | true => rw [hp] at ef; simp only [Option.some.injEq] at ef; subst ef; exact .inr (by simp [effD])
  | false =>
    rw [hp] at ef
    obtain ⟨h1, ef⟩ := Bool.rec_some (show (Bool.rec none (coldF rs ds (.val d)) (pureD d) : Option Eff) = some e from ef)
    rcases coldF_some ef with hc | ⟨rfl, hc⟩
    · exact .inl hc
    · exact .inr (by simp [effD])
theorem effF_val {rs : List Root} {f : FuncId} {ds : List D} {e : Eff} (ef : effF lo rs f ds = some e) : effD e ≠ none := by
  unfold effF at ef
  split at ef
  · simp only [Option.some.injEq] at ef; subst ef; simp [effD]
  · simp at ef

theorem effO_dst {b : Nat} {dst : Option Tmp} {op : Op} {e : Eff} (ef : effO T lo hi b s dst op = some e) : (∃ l, e = .cold l) ∨ effD e ≠ none ∨ dst = none := by
  unfold effO at ef
  split at ef
  · simp only [Option.some.injEq] at ef; subst ef; exact .inr (.inl (by simp [effD]))
  · cases op with
    | box t x =>
      have ef : boxF b s x = some e := ef
      unfold boxF at ef
      split at ef
      · split at ef
        · simp only [Option.some.injEq] at ef; subst ef; exact .inr (.inl (by simp [effD]))
        · simp at ef
      · simp at ef
    | alloc t =>
      have ef : allocF T b t = some e := ef
      unfold allocF at ef
      split at ef
      · split at ef
        · simp only [Option.some.injEq] at ef; subst ef; exact .inr (.inl (by simp [effD]))
        · simp at ef
      · simp at ef
    | store t x v =>
      have ef : storeF T s dst t x v = some e := ef
      unfold storeF at ef
      split at ef
      · simp at ef
      · exact .inr (.inr rfl)
    | mapUpdate t m k v =>
      have ef : mapuF T s dst t m k v = some e := ef
      unfold mapuF at ef
      split at ef
      · simp at ef
      · exact .inr (.inr rfl)
    | makeMap t r =>
      have ef : mkmapF T b t r = some e := ef
      unfold mkmapF at ef
      split at ef
      · simp only [Option.some.injEq] at ef; subst ef; exact .inr (.inl (by simp [effD]))
      · simp at ef
    | makeSlice t l c =>
      have ef : mkslF T b s t l c = some e := ef
      unfold mkslF at ef
      split at ef
      case h_2 => simp at ef
      split at ef
      case h_2 => simp at ef
      split at ef
      case h_2 => simp at ef
      split at ef
      case h_2 => simp at ef
      obtain ⟨_, ef⟩ := Bool.rec_some ef
      simp only [Option.some.injEq] at ef; subst ef; exact .inr (.inl (by simp [effD]))
    | buildSlice t n ps =>
      have ef : bsF T b s t n ps.toList = some e := ef
      unfold bsF at ef
      split at ef
      case h_2 => simp at ef
      split at ef
      case h_2 => simp at ef
      split at ef
      case h_2 => simp at ef
      split at ef
      case h_2 => simp at ef
      obtain ⟨_, ef⟩ := Bool.rec_some ef
      simp only [Option.some.injEq] at ef; subst ef; exact .inr (.inl (by simp [effD]))
    | call c =>
      have ef : callO T lo hi b s c = some e := ef
      unfold callO at ef
      split at ef
      · unfold appF at ef
        split at ef
        case h_2 => simp at ef
        replace ef := (Bool.rec_some ef).2
        split at ef
        case h_2 => simp at ef
        unfold apdF at ef
        have fin : ∀ {el sz k : Nat} {l' : List C} {by' : Nat} {c : C}, apd el sz k l' by' b s.rs c = some e → effD e ≠ none := by
          intro el sz k l' by' c q
          unfold apd at q
          split at q
          · split at q
            · simp only [Option.some.injEq] at q; subst q; simp [effD]
            · replace q := (Bool.rec_some q).2
              simp only [Option.some.injEq] at q; subst q; simp [effD]
          · split at q
            · replace q := (Bool.rec_some q).2
              replace q := (Bool.rec_some q).2
              simp only [Option.some.injEq] at q; subst q; simp [effD]
            · simp at q
          · simp at q
        split at ef
        case h_2 => simp at ef
        split at ef
        case h_2 => simp at ef
        split at ef
        case h_2 => simp at ef
        split at ef
        case h_2 => simp at ef
        split at ef
        · exact .inr (.inl (fin (Bool.rec_some ef).2))
        · exact .inr (.inl (fin (Bool.rec_some ef).2))
      · unfold valueF at ef
        split at ef
        case h_2 => simp at ef
        split at ef
        · unfold yldF at ef
          split at ef
          · simp only [Option.some.injEq] at ef; subst ef; exact .inr (.inl (by simp [effD]))
          · simp at ef
        · split at ef
          case h_2 => simp at ef
          unfold callF at ef
          split at ef
          · exact (pcallF_val ef).imp id .inl
          · exact .inr (.inl (effF_val ef))
          · exact (ocallF_val ef).imp id .inl
          · rename_i ds _ _ _ _ _ _ _ _
            revert ef
            generalize pureDs _ = p
            intro ef
            cases p with
            | true => exact (pcallF_val ef).imp id .inl
            | false => exact .inr (.inl (effF_val ef))
      · simp at ef
    | _ => simp [workO] at ef

theorem stepF_cold {dst : Option Tmp} {l : List Nat} {s' : VS} : stepF N s dst (.cold l) ≠ some s' := by simp [stepF]
theorem workF_sound (hty : TyOK P T) (hl : LoOK T P lo) (h : R T N av0 w0 sp s a w E) (hn : NilS s.sl) {o : Oper} {s' : VS} (e : workF T lo hi N s o.dst o.op = some s')
    {next : Act → World → Prop} (hnext : ∀ a' w' E', Kept E E' → R T N av0 w0 sp s' a' w' E' → NilS s'.sl → next a' w') : Op1 P true o a w next := by
  have one : ∀ {s : VS}, R T N av0 w0 sp s a w E → NilS s.sl → ∀ {ef : Eff}, effO T lo hi s.rs.length s o.dst o.op = some ef → stepF N s o.dst ef = some s' → Op1 P true o a w next := by
    intro s h hn ef h1 h2
    have hd := effO_dst h1
    rcases effO_sound hty hl h hn (.inr rfl) h1 (next := next) (fun v w' E' ha => by
      obtain ⟨h3, h4⟩ := stepF_R hn h2 ha (fun q => by
        rcases hd with ⟨l, rfl⟩ | hd | hd
        · exact (stepF_cold h2).elim
        · exact (hd q).elim
        · exact hd)
      exact hnext _ _ _ (Kept.of_grew ha.1 (Nat.le_of_eq h.len)) h3 h4) with ⟨l, rfl⟩ | h3
    · exact (stepF_cold h2).elim
    · exact h3
  unfold workF at e
  split at e
  · rename_i l _
    unfold coldW at e
    split at e
    case h_2 => simp at e
    rename_i s1 hs1
    obtain ⟨h1, h2⟩ := h.freezes hs1
    split at e
    case h_2 => simp at e
    rename_i ef hef
    exact one h1 (h2 hn) hef e
  · rename_i ef _ hef
    exact one h hn hef e
  · simp at e

/-- Whether an operation is wanted: as reckoned. -/
theorem wantF_spec (h : R T N av0 w0 sp s a w E) (hn : NilS s.sl) {ops : Array Oper} {o : Oper} {b : Bool} (e : wantF ops.toList s.sl o.guard = some b) : Region.wanted o (yielded ops a.tmps) = b := by
  unfold wantF at e
  unfold Region.wanted
  split at e
  · rename_i hg
    simp only [Option.some.injEq] at e
    subst e
    rw [hg]
  · rename_i j want hg
    rw [hg]
    split at e
    case h_2 => simp at e
    rename_i p hp
    rw [nthF_eq, nth_eq] at hp
    split at e
    case h_2 => simp at e
    rename_i t ht
    have hpo : ops[j]? = some p := by simpa using hp
    unfold wantC at e
    split at e
    · rename_i hl
      have hl := lookF_look hn hl
      simp only [Option.some.injEq] at e
      subst e
      obtain ⟨hN, h1, h2⟩ := h.slots t _ _ hl
      obtain ⟨vs, hv, hvs⟩ := h1 (CondsHold.nil a)
      have hsz : t < a.tmps.size := by rw [h.size]; exact hN
      have hv' : a.tmps[t]? = some (a.tmps.getD t undef) := by simp [hsz]
      have hy : yielded ops a.tmps j = none := by
        unfold yielded
        rw [hpo]
        simp only [Option.bind_some, ht, hv', hv]
      simp [hy]
    · split at e
      case h_2 => simp at e
      rename_i x hx
      have hl := lookF_look hn (boolF_some hx)
      simp only [Option.some.injEq] at e
      subst e
      obtain ⟨hN, h1, h2⟩ := h.slots t _ _ hl
      have hv := (h1 (CondsHold.nil a)).1
      have hsz : t < a.tmps.size := by rw [h.size]; exact hN
      have hv' : a.tmps[t]? = some (a.tmps.getD t undef) := by simp [hsz]
      have hy : yielded ops a.tmps j = some x := by
        unfold yielded
        rw [hpo]
        simp only [Option.bind_some, ht, hv', hv]
      simp only [hy]
      cases x <;> cases want <;> rfl

theorem undef_rel {E : Env} {av : Nat → Prop} {w : World} : DRel E av w (.t []) undef := ⟨#[], rfl, .nil⟩
theorem opsF_sound (hty : TyOK P T) (hl : LoOK T P lo) {ops : Array Oper} {Q : Exit → Act → World → Prop} {sF : VS} {E0 : Env} (hQ : ∀ a' w' E', Kept E0 E' → R T N av0 w0 sp sF a' w' E' → NilS sF.sl → Q .normal a' w') :
    ∀ {l : List Oper} {s : VS} {a : Act} {w : World} {E : Env}, opsF T lo hi N ops.toList l s = some sF → Kept E0 E → R T N av0 w0 sp s a w E → NilS s.sl → wpListIn (Fr ρ) 0 P ops Q l a w
  | [], s, a, w, E, e, hk, h, hn => by
    have e : some s = some sF := e
    simp only [Option.some.injEq] at e; subst e; exact hQ a w E hk h hn
  | o :: l, s, a, w, E, e, hk, h, hn => by
    have e : (match opF T lo hi N ops.toList s o with
      | some s' => opsF T lo hi N ops.toList l s'
      | none => none) = some sF := e
    split at e
    case h_2 => simp at e
    rename_i s' hs
    unfold opF at hs
    unfold wpListIn
    split at hs
    · rename_i hw
      rw [if_pos (wantF_spec h hn hw)]
      exact (workF_sound hty hl h hn hs fun a' w' E' hk' h' hn' => opsF_sound hty hl hQ e (hk.trans hk') h' hn').wpIn
    · rename_i hw
      rw [if_neg (by rw [wantF_spec h hn hw]; simp)]
      obtain ⟨h1, h2⟩ := putF_R h hn hs undef_rel
      exact ⟨fun _ _ => trivial, opsF_sound hty hl hQ e hk h1 h2⟩
    · simp at hs
end
end Go.V
