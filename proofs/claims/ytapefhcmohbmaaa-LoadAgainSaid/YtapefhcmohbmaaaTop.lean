/-
 'facsimilelaw19.LoadAgain' answers true whatever its input, and the input reads behind the call as it read before.
 CONDITIONS: none.
-/
import Derived.Test.YtapefhcmohbmaaaP11
import Derived.Test.YtapefhcmohbmaaaRows
import Derived.Laws.IdiomArrays
import Derived.WalkKit
import Derived.ProofKit
import Derived.OpenShut
import Derived.ChangeSlices
set_option linter.unusedSimpArgs false
set_option linter.unusedVariables false
namespace Go.Proofs.Ytapefhcmohbmaaa.loadAgain
open Go Go.V Go.ChangeShapes Go.WideShapes Go.ChangeAt Go.RowKit
theorem LM {W W':World} (hb:Below W.heap.size W W') (may:MemPlace->Prop):W.keptBut W' may:=by
 refine ⟨hb.os,hb.output,λi hi=>?_⟩
 rw [hb.block i hi]
 cases h:W.heap[i]? with
 | none=>trivial
 | some o=>cases o<;>simp
theorem EA {H:Type} {enc:TypeId×Value->H} {P:Program} {f:Func} {s:ChangeSpec} {apart fresh handsOn again:Bool} {W W':World} {args:Array Value} {v:Value} {ds gs:List (DataW H)} {before pa pv:List MemPlace}
  (hW:DataW.Whole enc P f.params.toList s.vars apart W args.toList ds gs before)
  (yE:∀ (b:Nat) (sp:Nat->Bool) (hd:Bool),DataW.TrodAll enc P W' b sp hd f.resultTypes.toList (v.resultList f.resultTypes.size) (s.fn H (ds++gs)).results [])
  (pF:∀ sp:Nat->Bool,(∀ p∈before,sp p.block=true)->DataW.TrodAll enc P W' 0 sp true f.params.toList args.toList (s.fn H (ds++gs)).args pa)
  (Uc:∀ sp:Nat->Bool,(∀ p∈before,sp p.block=true)->DataW.TrodVars enc P W' sp s.vars (s.fn H (ds++gs)).vars pv)
  (hps:before=pa++pv) (hb:Below W.heap.size W W')
  (yo:∀ (j:Nat) (t:TypeId) (r:Value),f.resultTypes[j]?=some t->(v.resultList f.resultTypes.size)[j]?=some r->Value.okWide P W' .any 0 t r) :
  s.post enc P f apart fresh handsOn again W args v W':=by
 have eG:∀ p∈before,p.block<W.heap.size:=λp hp=>hW.lt p hp
 have hold:∀ p∈before,(λb=>decide (b<W.heap.size)) p.block=true:=λp hp=>by simpa using eG p hp
 refine ⟨ds,gs,before,[],pa,pv,hW,yE _ _ _,pF _ hold,Uc _ hold,World.keptBut_mono (λp hp=>⟨hp,?_⟩) (LM hb (·∈before)),λ_=>?_⟩
 .rw [hps,List.mem_append] at hp
  exact Or.inr hp
 .obtain ⟨_,_,_,_,_,hz,hn⟩:=hW
  refine ⟨yo,_,_,([]++pa)++pv,⟨[]++pa,pv,trodAll_append (pF _ (λ_ _=>rfl)) (yE _ _ _),Uc _ (λ_ _=>rfl),rfl,?_,?_⟩,?_⟩
  .intro b off hp
   have hp':MemPlace.cell b off∈before:=by rw [hps]; simpa using hp
   have h1:=hz b off hp'
   have h2:=eG _ hp'
   rw [hb.frozen h2]
   exact h1
  .intro ha
   have:=hn ha
   rw [hps] at this
   simpa using this
  .intro p hp _
   rw [hps]
   simpa using hp
theorem own:ownKnob Try.prog.godebug=none:=by kernel_rfl
theorem Eb {f:FuncId} {ds:List D} (h:LC f ds [] (bool true) []) {vs:List Value} (w:World) (hv:az (aQ [] (λ_=>False) w) ds vs) :
  Calls Try.prog f vs.toArray w λe w'=>e=.returned (.bool true)/\Below w.heap.size w w':=by
 have hG:pG lE (λ_=>False) w:=λg x e=>by cases e
 refine (h.out.2 0 (λ_=>False) (Kp.of w) [] [] [] _ w [] vs (R.none (λ_ q=>q.elim) hG) (hv.mono λ_ _ q=>aQ.mono (Env.le_refl []) (aW.refl _ w) (λb _ q=>(sU b).1 q) q)).mono ?_
 rintro e w' ⟨v,E',rfl,_,hR,hd⟩
 exact ⟨by rw [hd.1],hR.below.below⟩
theorem Nb:Try.prog.cellsOf 3=1:=by kernel_rfl
theorem Pd {H:Type} {enc:TypeId×Value->H} {w:World} {base:Nat} {sp:Nat->Bool} {held:Bool}:DataW.Trod enc Try.prog w base sp held 22 (.slice none 0 0) .nil []:=
 ⟨1,by simp [DataW.trod,Value.cells,Try.underlying22]⟩
set_option maxRecDepth 100000 in
theorem lifted (os:Os) (started:os.Started) (H:Type) (enc:TypeId×Value->H) :
  ReturnsInHanded {} Try.checked os 3 .any (Rows.loadAgainSpec.pre6 enc Try.prog Try.f3 Rows.loadAgainRow.domain false) (Rows.loadAgainSpec.post enc Try.prog Try.f3 false true false false):=by
 refine returnsInHanded_of_change (C:=Try.checked) own started (by kernel_rfl) Try.func3
  (ChangeSpec.witness6 (enc:=enc) (C:=Try.checked) false ⟨#[],#[.slice none 0 0],[]⟩ 8 (by kernel_rfl) (by kernel_rfl) (by kernel_rfl) (by kernel_rfl)) ?_
 intro W base args ds gs before Uw hW hcnd _
 have hval:∀ (j:Nat) t v,Try.f3.params[j]?=some t->args[j]?=some v->Value.okWide Try.prog W .any base t v:=Uw
 have hW':=hW
 obtain ⟨p,q,hA0,hV,rfl,hfz,uS⟩:=hW
 have hA:DataW.TrodAll enc Try.prog W 0 (λ_=>true) true Try.f3.params.toList args.toList ds p:=hA0
 rw [Try.params3] at hA hval
 obtain ⟨v0,vs0,d0,ds0,p0,q0,pF,rfl,rfl,h0,r0⟩:=trodAll_cons hA
 obtain ⟨rfl,rfl,rfl⟩:=trodAll_nil r0
 obtain rfl:args = #[v0]:=by cases args; simp_all
 obtain ⟨rfl,rfl⟩:=trodVars_none hV
 have hv0:=hval 0 22 v0 rfl rfl
 obtain ⟨a0,len,cap,rfl⟩:=okWide_slice Try.underlying22 hv0
 obtain ⟨fuel,hf⟩:=h0
 have hf:DataW.trod enc Try.prog W 0 (λ_=>true) true fuel 22 [.slice a0 len cap]=some (d0,p0):=hf
 simp only [List.append_nil] at hW'
 clear hA0 Uw
 rcases open_ints Try.underlying22 Try.underlying3 Nb hf with ⟨hc,hx⟩|⟨a,len,cap,zs,hc,hb0,hlc,hcm,hz,hx,hcell,hwf⟩
 .simp only [List.cons.injEq,and_true] at hc
  simp only [bs] at hx
  obtain ⟨rfl,rfl⟩:=hx
  rw [hc] at hW' ⊢
  refine (Eb (ah5 ⟨0,λ_=>0⟩ (bn _)) W (vs:=[.slice none 0 0]) (.cons ⟨none,0,rfl,bl _,bn _,λh=>absurd h (Nat.not_lt_zero _)⟩ .nil)).mono λe W' ⟨he,hb⟩=>?_
  subst he
  exact ⟨_,rfl,EA (pa:=[]) (pv:=[]) hW' (λ_ _ _=>(trodAll_cons_mk (shut_bool Try.underlying4 _) trodAll_mk0)) (λsp _=>(trodAll_cons_mk Pd trodAll_mk0)) (λ_ _=>rfl) rfl
   hb (ok_one (by kernel_rfl) rfl (okWide_bool_mk Try.underlying4 _))⟩
 .simp only [List.cons.injEq,and_true] at hc
  simp only [bs] at hx
  obtain ⟨rfl,rfl⟩:=hx
  simp only [if_true] at hz
  have hsp:a.spot=none:=by
   rw [hc] at hv0
   have hv1:Cell.ok Try.prog W .any base 22 (.slice (some a) len cap):=by
    unfold Value.okWide at hv0
    rw [Try.underlying22] at hv0
    unfold Cell.okWide at hv0
    rw [Try.underlying22] at hv0
    exact hv0
   unfold Cell.ok at hv1
   rw [Try.underlying22] at hv1
   exact hv1.2.2.2.1
  have jg:0<cap->a.block<W.heap.size:=λh0=>by
   have hm:MemPlace.cell a.block (a.off+0)∈MemPlace.row a zs.length:=by
    rw [hz]
    exact List.mem_map.2 ⟨0,List.mem_range.2 h0,rfl⟩
   exact hW'.lt _ hm
  rw [hc] at hW' ⊢
  refine (Eb (ah5 ⟨len,λi=>zs.getD i 0⟩ (eA hlc hcm)) W (vs:=[.slice (some a) len cap]) (.cons ⟨some a,cap,rfl,hlc,eA hlc hcm,λh0=>⟨a,rfl,hsp,λq=>q,jg (Nat.lt_of_lt_of_le h0 hlc),λi hi j hj=>⟨.int .i64 (zs.getD i 0),?_,rfl,rfl⟩⟩⟩ .nil)).mono λe W' ⟨he,hb⟩=>?_
  .have hj:j=0:=by omega
   subst hj
   rw [show i*1+0=i by omega]
   exact hcell i (by rw [hz]; exact Nat.lt_of_lt_of_le hi hlc)
  subst he
  refine ⟨_,rfl,EA (pa:=MemPlace.row a zs.length) (pv:=[]) hW' (λ_ _ _=>(trodAll_cons_mk (shut_bool Try.underlying4 _) trodAll_mk0)) (λsp au5=>?_) (λ_ _=>rfl) (by simp)
   hb (ok_one (by kernel_rfl) rfl (okWide_bool_mk Try.underlying4 _))⟩
  have hcond:zs.length=(if sp a.block then cap else len):=by
   by_cases h0:0<cap
   .have hm:MemPlace.cell a.block (a.off+0)∈MemPlace.row a zs.length:=by
     rw [hz]
     exact List.mem_map.2 ⟨0,List.mem_range.2 h0,rfl⟩
    have h1:sp a.block=true:=au5 _ hm
    rw [if_pos h1]; exact hz
   .split<;>omega
  have ht:=shut_ints (H:=H) (enc:=enc) (held:=true) (spare:=sp) (w:=W') (base:=0) 0 Try.underlying22 Try.underlying3 Nb (bn _) hlc hcm hcond (λi hi=>by
   rw [sK (w:=W) (by rw [V.block_add]; exact hb.block _ (jg (by omega)))]
   exact hcell i hi) hwf
  have ht2:DataW.Trod enc Try.prog W' 0 sp true 22 (.slice (some a) len cap) (.slice (lits .i64 (zs.take len)) (lits .i64 (zs.drop len))) (MemPlace.row a zs.length):=⟨_,ht⟩
  have h3:=trodAll_cons_mk ht2 trodAll_mk0
  rw [List.append_nil] at h3
  exact h3
theorem over:Rows.loadAgainRow.holds Try.pinned (OpenSpec.ofChange Rows.loadAgainSpec):=
 OpenClaim.holds_of_wide 3 Try.f3 rfl rfl rfl rfl rfl rfl rfl ⟨rfl,rfl,rfl,rfl,rfl⟩ rfl rfl rfl rfl rfl (by kernel_rfl) Try.func3 (by kernel_rfl)
  (of_decide_eq_true (by kernel_rfl)) (by unfold Func.isWrapper; first|(rw [if_pos (by decide +kernel)]; kernel_rfl)|(rw [if_neg (by decide +kernel)]; exact ⟨rfl,rfl⟩))
  (λos started H enc _=>lifted os started H enc)
theorem proved:Rows.LoadAgainSaid:=
 over
#print axioms proved
end Go.Proofs.Ytapefhcmohbmaaa.loadAgain
