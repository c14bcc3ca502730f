/-
 'facsimilelaw19.LoadOwn' answers true whatever its input, and the input reads behind the call as it read before.
 CONDITIONS: none.
-/
import Derived.Test.YtgbbdaegmfjahaaP12
import Derived.Test.YtgbbdaegmfjahaaRows
import Derived.Laws.IdiomArrays
import Derived.WalkKit
import Derived.ProofKit
import Derived.OpenShut
import Derived.ChangeSlices
set_option linter.unusedSimpArgs false
set_option linter.unusedVariables false
namespace Go.Proofs.Ytgbbdaegmfjahaa.loadOwn
open Go Go.V Go.ChangeShapes Go.WideShapes Go.ChangeAt Go.RowKit
theorem NF {W W':World} (hb:Below W.heap.size W W') (may:MemPlace->Prop):W.keptBut W' may:=by
 refine ⟨hb.os,hb.output,λi hi=>?_⟩
 rw [hb.block i hi]
 cases h:W.heap[i]? with
 | none=>trivial
 | some o=>cases o<;>simp
theorem EA {H:Type} {enc:TypeId×Value->H} {P:Program} {f:Func} {s:ChangeSpec} {apart fresh handsOn again:Bool} {W W':World} {args:Array Value} {v:Value} {ds gs:List (DataW H)} {before pa pv:List MemPlace}
  (hW:DataW.Whole enc P f.params.toList s.vars apart W args.toList ds gs before)
  (zM:∀ (b:Nat) (sp:Nat->Bool) (hd:Bool),DataW.TrodAll enc P W' b sp hd f.resultTypes.toList (v.resultList f.resultTypes.size) (s.fn H (ds++gs)).results [])
  (qa:∀ sp:Nat->Bool,(∀ p∈before,sp p.block=true)->DataW.TrodAll enc P W' 0 sp true f.params.toList args.toList (s.fn H (ds++gs)).args pa)
  (Wx:∀ sp:Nat->Bool,(∀ p∈before,sp p.block=true)->DataW.TrodVars enc P W' sp s.vars (s.fn H (ds++gs)).vars pv)
  (hps:before=pa++pv) (hb:Below W.heap.size W W')
  (w5:∀ (j:Nat) (t:TypeId) (r:Value),f.resultTypes[j]?=some t->(v.resultList f.resultTypes.size)[j]?=some r->Value.okWide P W' .any 0 t r) :
  s.post enc P f apart fresh handsOn again W args v W':=by
 have dB:∀ p∈before,p.block<W.heap.size:=λp hp=>hW.lt p hp
 have hold:∀ p∈before,(λb=>decide (b<W.heap.size)) p.block=true:=λp hp=>by simpa using dB p hp
 refine ⟨ds,gs,before,[],pa,pv,hW,zM _ _ _,qa _ hold,Wx _ hold,World.keptBut_mono (λp hp=>⟨hp,?_⟩) (NF hb (·∈before)),λ_=>?_⟩
 .rw [hps,List.mem_append] at hp
  exact Or.inr hp
 .obtain ⟨_,_,_,_,_,hz,hn⟩:=hW
  refine ⟨w5,_,_,([]++pa)++pv,⟨[]++pa,pv,trodAll_append (qa _ (λ_ _=>rfl)) (zM _ _ _),Wx _ (λ_ _=>rfl),rfl,?_,?_⟩,?_⟩
  .intro b off hp
   have hp':MemPlace.cell b off∈before:=by rw [hps]; simpa using hp
   have h1:=hz b off hp'
   have h2:=dB _ hp'
   rw [hb.frozen h2]
   exact h1
  .intro ha
   have:=hn ha
   rw [hps] at this
   simpa using this
  .intro p hp _
   rw [hps]
   simpa using hp
theorem own:ownKnob Try.prog.godebug=none:=by kernel_rfl
theorem Eh {f:FuncId} {ds:List D} (h:LC f ds [] (bool true) []) {vs:List Value} (w:World) (hv:aB (aZ [] (λ_=>False) w) ds vs) :
  Calls Try.prog f vs.toArray w λe w'=>e=.returned (.bool true)/\Below w.heap.size w w':=by
 have hG:qx my (λ_=>False) w:=λg x e=>by cases e
 refine (h.out.2 0 (λ_=>False) (Kp.of w) [] [] [] _ w [] vs (R.none (λ_ q=>q.elim) hG) (hv.mono λ_ _ q=>aZ.mono (Env.le_refl []) (ba.refl _ w) (λb _ q=>(ur b).1 q) q)).mono ?_
 rintro e w' ⟨v,E',rfl,_,hR,hd⟩
 exact ⟨by rw [hd.1],hR.below.below⟩
theorem DT:Try.prog.cellsOf 3=1:=by kernel_rfl
theorem JV:Try.prog.cellsOf 23=3:=by kernel_rfl
theorem EV {cs:Array Value} (h:cs.size=3):∃ a b c,cs = #[a,b,c]:=by
 obtain ⟨l⟩:=cs
 match l,h with
 | [a,b,c],_=>exact ⟨a,b,c,rfl⟩
theorem CV {P:Program} {w:World} {r:Reach} {b:Nat} {t e:TypeId} {n:Nat} {v:Value} (ht:P.underlying t=some (.array n e)) (h:Value.okWide P w r b t v):∃ cs,v=.agg cs/\cs.size=P.cellsOf t:=by
 unfold Value.okWide at h
 rw [ht] at h
 obtain ⟨cs,h1,h2,_⟩:=h
 exact ⟨cs,h1,h2⟩
theorem Wb {z:Int} (h:(Lit.int .i64 z).wf=true):z<=9223372036854775807:=by
 simp [Lit.wf,IntKind.min,IntKind.max,IntKind.signed,IntKind.bits] at h
 omega
section
variable {H:Type} {enc:TypeId×Value->H} {w:World} {base:Nat} {sp:Nat->Bool} {held:Bool}
set_option maxRecDepth 100000 in
theorem ad3 {fuel:Nat} {c0 c1 c2:Value} {y:DataW H×List MemPlace} (h:DataW.trod enc Try.prog w base sp held fuel 23 [c0,c1,c2]=some y) :
  ∃ x0 x1 x2:Int,c0=.int .i64 x0/\c1=.int .i64 x1/\c2=.int .i64 x2/\y=(.agg [.lit (.int .i64 x0),.lit (.int .i64 x1),.lit (.int .i64 x2)],[])/\(Lit.int .i64 x0).wf=true/\(Lit.int .i64 x1).wf=true/\(Lit.int .i64 x2).wf=true:=by
 obtain ⟨y0,y1,y2,n,hx,h0,h1,h2⟩:=trod_array3 Try.underlying23 DT h
 obtain ⟨x,hc0,rfl,w0⟩:=DataW.trod_int Try.underlying3 h0
 obtain ⟨y,hc1,rfl,w1⟩:=DataW.trod_int Try.underlying3 h1
 obtain ⟨z,hc2,rfl,w2⟩:=DataW.trod_int Try.underlying3 h2
 simp only [List.cons.injEq,and_true] at hc0 hc1 hc2
 exact ⟨x,y,z,hc0,hc1,hc2,hx,w0,w1,w2⟩
set_option maxRecDepth 100000 in
theorem Iw {b0:Nat} {v:Value} {d:DataW H} {ps:List MemPlace} (hval:Value.okWide Try.prog w .any b0 23 v) (hd:DataW.Trod enc Try.prog w base sp held 23 v d ps) :
  ∃ a b c:Int,v=.agg #[.int .i64 a,.int .i64 b,.int .i64 c]/\d=.agg [.lit (.int .i64 a),.lit (.int .i64 b),.lit (.int .i64 c)]/\ps=[]/\
   (Lit.int .i64 a).wf=true/\(Lit.int .i64 b).wf=true/\(Lit.int .i64 c).wf=true:=by
 obtain ⟨cs,rfl,hs⟩:=CV Try.underlying23 hval
 rw [JV] at hs
 obtain ⟨c0,c1,c2,rfl⟩:=EV hs
 obtain ⟨fuel,hf⟩:=hd
 obtain ⟨a,b,c,rfl,rfl,rfl,hx,w0,w1,w2⟩:=ad3 (show DataW.trod enc Try.prog w base sp held fuel 23 [c0,c1,c2]=some (d,ps) from hf)
 simp only [bw] at hx
 exact ⟨a,b,c,rfl,hx.1,hx.2,w0,w1,w2⟩
set_option maxRecDepth 100000 in
theorem wS {a b c:Int} (w0:(Lit.int .i64 a).wf=true) (w1:(Lit.int .i64 b).wf=true) (w2:(Lit.int .i64 c).wf=true) :
  DataW.Trod enc Try.prog w base sp held 23 (.agg #[.int .i64 a,.int .i64 b,.int .i64 c]) (.agg [.lit (.int .i64 a),.lit (.int .i64 b),.lit (.int .i64 c)]) []:=by
 have r3:List.range 3=[0,1,2]:=rfl
 exact ⟨3,by simp [DataW.trod,Value.cells,Try.underlying23,Try.underlying3,JV,DT,r3,w0,w1,w2]⟩
end
theorem Bd (w:World) (a b c:Int):aZ [] (λ_=>False) w (.a [ci a,ci b,ci c]) (.agg #[.int .i64 a,.int .i64 b,.int .i64 c]):=
 ⟨_,rfl,.cons ⟨rfl,rfl⟩ (.cons ⟨rfl,rfl⟩ (.cons ⟨rfl,rfl⟩ .nil))⟩
theorem Pl {H:Type} {enc:TypeId×Value->H} {w:World} {base:Nat} {sp:Nat->Bool} {held:Bool}:DataW.Trod enc Try.prog w base sp held 22 (.slice none 0 0) .nil []:=
 ⟨1,by simp [DataW.trod,Value.cells,Try.underlying22]⟩
set_option maxRecDepth 100000 in
theorem lifted (os:Os) (started:os.Started) (H:Type) (enc:TypeId×Value->H) :
  ReturnsInHanded {} Try.checked os 3 .any (Rows.loadOwnSpec.pre6 enc Try.prog Try.f3 Rows.loadOwnRow.domain false) (Rows.loadOwnSpec.post enc Try.prog Try.f3 false true false false):=by
 refine returnsInHanded_of_change (C:=Try.checked) own started (by kernel_rfl) Try.func3
  (ChangeSpec.witness6 (enc:=enc) (C:=Try.checked) false ⟨#[],#[.slice none 0 0,.agg #[.int .i64 0,.int .i64 0,.int .i64 0]],[]⟩ 8 (by kernel_rfl) (by kernel_rfl) (by kernel_rfl) (by kernel_rfl)) ?_
 intro W base args ds gs before Xe hW hcnd _
 have hval:∀ (j:Nat) t v,Try.f3.params[j]?=some t->args[j]?=some v->Value.okWide Try.prog W .any base t v:=Xe
 have hW':=hW
 obtain ⟨p,q,hA0,hV,rfl,hfz,rO⟩:=hW
 have hA:DataW.TrodAll enc Try.prog W 0 (λ_=>true) true Try.f3.params.toList args.toList ds p:=hA0
 rw [Try.params3] at hA hval
 obtain ⟨v0,v1,d0,d1,p0,p1,rfl,rfl,rfl,h0,h1⟩:=trodAll_two hA
 obtain ⟨rfl,rfl⟩:=trodVars_none hV
 obtain ⟨q0,q1,q2,rfl,rfl,rfl,w0,w1,w2⟩:=Iw (hval 1 23 v1 rfl rfl) h1
 have hv0:=hval 0 22 v0 rfl rfl
 obtain ⟨a0,len,cap,rfl⟩:=okWide_slice Try.underlying22 hv0
 obtain ⟨fuel,hf⟩:=h0
 have hf:DataW.trod enc Try.prog W 0 (λ_=>true) true fuel 22 [.slice a0 len cap]=some (d0,p0):=hf
 simp only [List.append_nil] at hW'
 clear hA0 Xe
 rcases open_ints Try.underlying22 Try.underlying3 DT hf with ⟨hc,hx⟩|⟨a,len,cap,zs,hc,hb0,hlc,hcm,hz,hx,hcell,hwf⟩
 .simp only [List.cons.injEq,and_true] at hc
  simp only [bw] at hx
  obtain ⟨rfl,rfl⟩:=hx
  rw [hc] at hW' ⊢
  refine (Eh (ao9 ⟨0,λ_=>0⟩ q0 q1 q2 (bu _) (Wb w2)) W (vs:=[.slice none 0 0,_]) (.cons ⟨none,0,rfl,bG _,bu _,λh=>absurd h (Nat.not_lt_zero _)⟩ (.cons (Bd W q0 q1 q2) .nil))).mono λe W' ⟨he,hb⟩=>?_
  subst he
  exact ⟨_,rfl,EA (pa:=[]) (pv:=[]) hW' (λ_ _ _=>(trodAll_cons_mk (shut_bool Try.underlying4 _) trodAll_mk0)) (λsp _=>(trodAll_cons_mk Pl (trodAll_cons_mk (wS w0 w1 w2) trodAll_mk0))) (λ_ _=>rfl) rfl
   hb (ok_one (by kernel_rfl) rfl (okWide_bool_mk Try.underlying4 _))⟩
 .simp only [List.cons.injEq,and_true] at hc
  simp only [bw] at hx
  obtain ⟨rfl,rfl⟩:=hx
  simp only [if_true] at hz
  have hsp:a.spot=none:=by
   rw [hc] at hv0
   have hv1:Cell.ok Try.prog W .any base 22 (.slice (some a) len cap):=by
    unfold Value.okWide at hv0
    rw [Try.underlying22] at hv0
    unfold Cell.okWide at hv0
    rw [Try.underlying22] at hv0
    exact hv0
   unfold Cell.ok at hv1
   rw [Try.underlying22] at hv1
   exact hv1.2.2.2.1
  have iX:0<cap->a.block<W.heap.size:=λh0=>by
   have hm:MemPlace.cell a.block (a.off+0)∈MemPlace.row a zs.length:=by
    rw [hz]
    exact List.mem_map.2 ⟨0,List.mem_range.2 h0,rfl⟩
   exact hW'.lt _ hm
  rw [hc] at hW' ⊢
  refine (Eh (ao9 ⟨len,λi=>zs.getD i 0⟩ q0 q1 q2 (cW hlc hcm) (Wb w2)) W (vs:=[.slice (some a) len cap,_]) (.cons ⟨some a,cap,rfl,hlc,cW hlc hcm,λh0=>⟨a,rfl,hsp,λq=>q,iX (Nat.lt_of_lt_of_le h0 hlc),λi hi j hj=>⟨.int .i64 (zs.getD i 0),?_,rfl,rfl⟩⟩⟩ (.cons (Bd W q0 q1 q2) .nil))).mono λe W' ⟨he,hb⟩=>?_
  .have hj:j=0:=by omega
   subst hj
   rw [show i*1+0=i by omega]
   exact hcell i (by rw [hz]; exact Nat.lt_of_lt_of_le hi hlc)
  subst he
  refine ⟨_,rfl,EA (pa:=MemPlace.row a zs.length) (pv:=[]) hW' (λ_ _ _=>(trodAll_cons_mk (shut_bool Try.underlying4 _) trodAll_mk0)) (λsp ay8=>?_) (λ_ _=>rfl) (by simp)
   hb (ok_one (by kernel_rfl) rfl (okWide_bool_mk Try.underlying4 _))⟩
  have hcond:zs.length=(if sp a.block then cap else len):=by
   by_cases h0:0<cap
   .have hm:MemPlace.cell a.block (a.off+0)∈MemPlace.row a zs.length:=by
     rw [hz]
     exact List.mem_map.2 ⟨0,List.mem_range.2 h0,rfl⟩
    have h1:sp a.block=true:=ay8 _ hm
    rw [if_pos h1]; exact hz
   .split<;>omega
  have ht:=shut_ints (H:=H) (enc:=enc) (held:=true) (spare:=sp) (w:=W') (base:=0) 0 Try.underlying22 Try.underlying3 DT (bu _) hlc hcm hcond (λi hi=>by
   rw [uF (w:=W) (by rw [V.block_add]; exact hb.block _ (iX (by omega)))]
   exact hcell i hi) hwf
  have ht2:DataW.Trod enc Try.prog W' 0 sp true 22 (.slice (some a) len cap) (.slice (lits .i64 (zs.take len)) (lits .i64 (zs.drop len))) (MemPlace.row a zs.length):=⟨_,ht⟩
  have h3:=trodAll_cons_mk ht2 (trodAll_cons_mk (wS w0 w1 w2) trodAll_mk0)
  rw [List.append_nil,List.append_nil] at h3
  exact h3
theorem over:Rows.loadOwnRow.holds Try.pinned (OpenSpec.ofChange Rows.loadOwnSpec):=
 OpenClaim.holds_of_wide 3 Try.f3 rfl rfl rfl rfl rfl rfl rfl ⟨rfl,rfl,rfl,rfl,rfl⟩ rfl rfl rfl rfl rfl (by kernel_rfl) Try.func3 (by kernel_rfl)
  (of_decide_eq_true (by kernel_rfl)) (by unfold Func.isWrapper; first|(rw [if_pos (by decide +kernel)]; kernel_rfl)|(rw [if_neg (by decide +kernel)]; exact ⟨rfl,rfl⟩))
  (λos started H enc _=>lifted os started H enc)
theorem proved:Rows.LoadOwnSaid:=
 over
#print axioms proved
end Go.Proofs.Ytgbbdaegmfjahaa.loadOwn
