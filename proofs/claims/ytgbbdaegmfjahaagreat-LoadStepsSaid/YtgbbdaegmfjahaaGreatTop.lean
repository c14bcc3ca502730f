/-
 'facsimilelaw19.LoadSteps' answers true whatever its input, and the input reads behind the call as it read before.
 CONDITIONS: none.
-/
import Derived.Test.YtgbbdaegmfjahaaGreatP12
import Derived.Test.YtgbbdaegmfjahaaGreatRows
import Derived.Laws.IdiomArrays
import Derived.WalkKit
import Derived.ProofKit
import Derived.OpenShut
import Derived.ChangeSlices
set_option linter.unusedSimpArgs false
set_option linter.unusedVariables false
namespace Go.Proofs.YtgbbdaegmfjahaaGreat.loadSteps
open Go Go.V Go.ChangeShapes Go.WideShapes Go.ChangeAt Go.RowKit
section
variable {H:Type} {W W':World}
theorem U3 (hb:Below W.heap.size W W') (may:MemPlace->Prop):W.keptBut W' may:=by
 refine ⟨hb.os,hb.output,λi hi=>?_⟩
 rw [hb.block i hi]
 cases h:W.heap[i]? with
 | none=>trivial
 | some o=>cases o<;>simp
theorem HX {enc:TypeId×Value->H} {P:Program} {f:Func} {s:ChangeSpec} {apart fresh handsOn again:Bool} {args:Array Value} {v:Value} {ds gs:List (DataW H)} {before pa pv:List MemPlace} (hW:DataW.Whole enc P f.params.toList s.vars apart W args.toList ds gs before) (BX:∀ (b:Nat) (sp:Nat->Bool) (hd:Bool),DataW.TrodAll enc P W' b sp hd f.resultTypes.toList (v.resultList f.resultTypes.size) (s.fn H (ds++gs)).results []) (uF:∀ sp:Nat->Bool,(∀ p∈before,sp p.block=true)->DataW.TrodAll enc P W' 0 sp true f.params.toList args.toList (s.fn H (ds++gs)).args pa) (ai3:∀ sp:Nat->Bool,(∀ p∈before,sp p.block=true)->DataW.TrodVars enc P W' sp s.vars (s.fn H (ds++gs)).vars pv) (hps:before=pa++pv) (hb:Below W.heap.size W W') (BV:∀ (j:Nat) (t:TypeId) (r:Value),f.resultTypes[j]?=some t->(v.resultList f.resultTypes.size)[j]?=some r->Value.okWide P W' .any 0 t r) :
  s.post enc P f apart fresh handsOn again W args v W':=by
 have eW:∀ p∈before,p.block<W.heap.size:=λp hp=>hW.lt p hp
 have hold:∀ p∈before,(λb=>decide (b<W.heap.size)) p.block=true:=λp hp=>by simpa using eW p hp
 refine ⟨ds,gs,before,[],pa,pv,hW,BX _ _ _,uF _ hold,ai3 _ hold,World.keptBut_mono (λp hp=>⟨hp,?_⟩) (U3 hb (·∈before)),λ_=>?_⟩
 .rw [hps,List.mem_append] at hp
  exact Or.inr hp
 .obtain ⟨_,_,_,_,_,hz,hn⟩:=hW
  refine ⟨BV,_,_,([]++pa)++pv,⟨[]++pa,pv,trodAll_append (uF _ (λ_ _=>rfl)) (BX _ _ _),ai3 _ (λ_ _=>rfl),rfl,?_,?_⟩,?_⟩
  .intro b off hp
   have hp':MemPlace.cell b off∈before:=by rw [hps]; simpa using hp
   have h1:=hz b off hp'
   have h2:=eW _ hp'
   rw [hb.frozen h2]
   exact h1
  .intro ha
   have:=hn ha
   rw [hps] at this
   simpa using this
  .intro p hp _
   rw [hps]
   simpa using hp
theorem own:ownKnob Tryz.prog.godebug=none:=by kernel_rfl
theorem G6 {f:FuncId} {ds:List D} (h:LC f ds [] (bool true) []) {vs:List Value} (w:World) (hv:aF (bj [] (λ_=>False) w) ds vs) :
  Calls Tryz.prog f vs.toArray w λe w'=>e=.returned (.bool true)/\Below w.heap.size w w':=by
 have hG:sq nF (λ_=>False) w:=λg x e=>by cases e
 refine (h.out.2 0 (λ_=>False) (Kp.of w) [] [] [] _ w [] vs (R.none (λ_ q=>q.elim) hG) (hv.mono λ_ _ q=>bj.mono (Env.le_refl []) (bl.refl _ w) (λb _ q=>(vS b).1 q) q)).mono ?_
 rintro e w' ⟨v,E',rfl,_,hR,hd⟩
 exact ⟨by rw [hd.1],hR.below.below⟩
theorem V6:Tryz.prog.cellsOf 3=1:=by kernel_rfl
theorem NK (w:World) (z:Int):bj [] (λ_=>False) w (int z) (.int .i64 z):=⟨rfl,rfl⟩
theorem TD {enc:TypeId×Value->H} {w:World} {base:Nat} {sp:Nat->Bool} {held:Bool}:DataW.Trod enc Tryz.prog w base sp held 22 (.slice none 0 0) .nil []:=
 ⟨1,by simp [DataW.trod,Value.cells,Tryz.underlying22]⟩
set_option maxRecDepth 100000 in
theorem lifted (os:Os) (started:os.Started) (H:Type) (enc:TypeId×Value->H) :
  ReturnsInHanded {} Tryz.checked os 8 .any (Rows.loadStepsSpec.pre6 enc Tryz.prog Tryz.f8 Rows.loadStepsRow.domain false) (Rows.loadStepsSpec.post enc Tryz.prog Tryz.f8 false true false false):=by
 refine returnsInHanded_of_change (C:=Tryz.checked) own started (by kernel_rfl) Tryz.func8
  (ChangeSpec.witness6 (enc:=enc) (C:=Tryz.checked) false ⟨#[],#[.slice none 0 0,.int .i64 0],[]⟩ 8 (by kernel_rfl) (by kernel_rfl) (by kernel_rfl) (by kernel_rfl)) ?_
 intro W base args ds gs before al4 hW hcnd _
 have hval:∀ (j:Nat) t v,Tryz.f8.params[j]?=some t->args[j]?=some v->Value.okWide Tryz.prog W .any base t v:=al4
 have hW':=hW
 obtain ⟨p,q,hA0,hV,rfl,hfz,vp⟩:=hW
 have hA:DataW.TrodAll enc Tryz.prog W 0 (λ_=>true) true Tryz.f8.params.toList args.toList ds p:=hA0
 rw [Tryz.params8] at hA hval
 obtain ⟨v0,v1,d0,d1,p0,p1,rfl,rfl,rfl,h0,h1⟩:=trodAll_two hA
 obtain ⟨rfl,rfl⟩:=trodVars_none hV
 obtain ⟨q0,rfl,rfl,rfl,w0⟩:=open_int Tryz.underlying3 (hval 1 3 v1 rfl rfl) h1
 have hv0:=hval 0 22 v0 rfl rfl
 obtain ⟨a0,len,cap,rfl⟩:=okWide_slice Tryz.underlying22 hv0
 obtain ⟨fuel,hf⟩:=h0
 have hf:DataW.trod enc Tryz.prog W 0 (λ_=>true) true fuel 22 [.slice a0 len cap]=some (d0,p0):=hf
 simp only [List.append_nil] at hW'
 clear hA0 al4
 rcases open_ints Tryz.underlying22 Tryz.underlying3 V6 hf with ⟨hc,hx⟩|⟨a,len,cap,zs,hc,hb0,hlc,hcm,hz,hx,hcell,hwf⟩
 .simp only [List.cons.injEq,and_true] at hc
  simp only [bN] at hx
  obtain ⟨rfl,rfl⟩:=hx
  rw [hc] at hW' ⊢
  refine (G6 (bf7 ⟨0,λ_=>0⟩ q0 (bk _)) W (vs:=[.slice none 0 0,_]) (.cons ⟨none,0,rfl,bF _,bk _,λh=>absurd h (Nat.not_lt_zero _)⟩ (.cons (NK W q0) .nil))).mono λe W' ⟨he,hb⟩=>?_
  subst he
  exact ⟨_,rfl,HX (pa:=[]) (pv:=[]) hW' (λ_ _ _=>(trodAll_cons_mk (shut_bool Tryz.underlying4 _) trodAll_mk0)) (λsp _=>(trodAll_cons_mk TD (trodAll_cons_mk (shut_int Tryz.underlying3 w0) trodAll_mk0))) (λ_ _=>rfl) rfl
   hb (ok_one (by kernel_rfl) rfl (okWide_bool_mk Tryz.underlying4 _))⟩
 .simp only [List.cons.injEq,and_true] at hc
  simp only [bN] at hx
  obtain ⟨rfl,rfl⟩:=hx
  simp only [if_true] at hz
  have hsp:a.spot=none:=by
   rw [hc] at hv0
   have hv1:Cell.ok Tryz.prog W .any base 22 (.slice (some a) len cap):=by
    unfold Value.okWide at hv0
    rw [Tryz.underlying22] at hv0
    unfold Cell.okWide at hv0
    rw [Tryz.underlying22] at hv0
    exact hv0
   unfold Cell.ok at hv1
   rw [Tryz.underlying22] at hv1
   exact hv1.2.2.2.1
  have kh:0<cap->a.block<W.heap.size:=λh0=>by
   have hm:MemPlace.cell a.block (a.off+0)∈MemPlace.row a zs.length:=by
    rw [hz]
    exact List.mem_map.2 ⟨0,List.mem_range.2 h0,rfl⟩
   exact hW'.lt _ hm
  rw [hc] at hW' ⊢
  refine (G6 (bf7 ⟨len,λi=>zs.getD i 0⟩ q0 (cT hlc hcm)) W (vs:=[.slice (some a) len cap,_]) (.cons ⟨some a,cap,rfl,hlc,cT hlc hcm,λh0=>⟨a,rfl,hsp,λq=>q,kh (Nat.lt_of_lt_of_le h0 hlc),λi hi j hj=>⟨.int .i64 (zs.getD i 0),?_,rfl,rfl⟩⟩⟩ (.cons (NK W q0) .nil))).mono λe W' ⟨he,hb⟩=>?_
  .have hj:j=0:=by omega
   subst hj
   rw [show i*1+0=i by omega]
   exact hcell i (by rw [hz]; exact Nat.lt_of_lt_of_le hi hlc)
  subst he
  refine ⟨_,rfl,HX (pa:=MemPlace.row a zs.length) (pv:=[]) hW' (λ_ _ _=>(trodAll_cons_mk (shut_bool Tryz.underlying4 _) trodAll_mk0)) (λsp br1=>?_) (λ_ _=>rfl) (by simp)
   hb (ok_one (by kernel_rfl) rfl (okWide_bool_mk Tryz.underlying4 _))⟩
  have hcond:zs.length=(if sp a.block then cap else len):=by
   by_cases h0:0<cap
   .have hm:MemPlace.cell a.block (a.off+0)∈MemPlace.row a zs.length:=by
     rw [hz]
     exact List.mem_map.2 ⟨0,List.mem_range.2 h0,rfl⟩
    have h1:sp a.block=true:=br1 _ hm
    rw [if_pos h1]; exact hz
   .split<;>omega
  have ht:=shut_ints (H:=H) (enc:=enc) (held:=true) (spare:=sp) (w:=W') (base:=0) 0 Tryz.underlying22 Tryz.underlying3 V6 (bk _) hlc hcm hcond (λi hi=>by
   rw [wD (w:=W) (by rw [V.block_add]; exact hb.block _ (kh (by omega)))]
   exact hcell i hi) hwf
  have ht2:DataW.Trod enc Tryz.prog W' 0 sp true 22 (.slice (some a) len cap) (.slice (lits .i64 (zs.take len)) (lits .i64 (zs.drop len))) (MemPlace.row a zs.length):=⟨_,ht⟩
  have h3:=trodAll_cons_mk ht2 (trodAll_cons_mk (shut_int Tryz.underlying3 w0) trodAll_mk0)
  rw [List.append_nil,List.append_nil] at h3
  exact h3
theorem over:Rows.loadStepsRow.holds Tryz.pinned (OpenSpec.ofChange Rows.loadStepsSpec):=
 OpenClaim.holds_of_wide 8 Tryz.f8 rfl rfl rfl rfl rfl rfl rfl ⟨rfl,rfl,rfl,rfl,rfl⟩ rfl rfl rfl rfl rfl (by kernel_rfl) Tryz.func8 (by kernel_rfl)
  (of_decide_eq_true (by kernel_rfl)) (by unfold Func.isWrapper; first|(rw [if_pos (by decide +kernel)]; kernel_rfl)|(rw [if_neg (by decide +kernel)]; exact ⟨rfl,rfl⟩))
  (λos started H enc _=>lifted os started H enc)
theorem proved:Rows.LoadStepsSaid:=
 over
end
#print axioms proved
end Go.Proofs.YtgbbdaegmfjahaaGreat.loadSteps
