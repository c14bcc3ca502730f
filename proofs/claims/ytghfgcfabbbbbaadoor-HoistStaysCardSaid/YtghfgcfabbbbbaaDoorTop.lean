/-
 'facsimilelaw21.HoistStays' answers true whatever its input, and the input reads behind the call as it read before.
 CONDITIONS: the package's table holds what the card lists (tied to the program's text).
-/
import Derived.Test.YtghfgcfabbbbbaaDoorP11
import Derived.Test.YtghfgcfabbbbbaaDoorCards
import Derived.Test.YtghfgcfabbbbbaaDoorTie
import Derived.Laws.IdiomArrays
import Derived.WalkKit
import Derived.ProofKit
import Derived.OpenShut
import Derived.ChangeSlices
set_option linter.unusedSimpArgs false
set_option linter.unusedVariables false
namespace Go.Proofs.YtghfgcfabbbbbaaDoor.hoistStays
open Go Go.V Go.ChangeShapes Go.WideShapes Go.ChangeAt Go.RowKit
theorem Pd {W W':World} (hb:Below W.heap.size W W') (may:MemPlace→Prop):W.keptBut W' may:=by
 refine ⟨hb.os,hb.output,fun i hi=>?_⟩
 rw [hb.block i hi]
 cases h:W.heap[i]? with
 | none=>trivial
 | some o=>cases o<;>simp
theorem D6 {H:Type} {enc:TypeId×Value→H} {P:Program} {f:Func} {s:ChangeSpec} {apart fresh handsOn again:Bool} {W W':World} {args:Array Value} {v:Value} {ds gs:List (DataW H)} {before pa pv:List MemPlace}
  (hW:DataW.Whole enc P f.params.toList s.vars apart W args.toList ds gs before)
  (yG:∀ (b:Nat) (sp:Nat→Bool) (hd:Bool),DataW.TrodAll enc P W' b sp hd f.resultTypes.toList (v.resultList f.resultTypes.size) (s.fn H (ds++gs)).results [])
  (qa:∀ sp:Nat→Bool,(∀ p∈before,sp p.block=true)→DataW.TrodAll enc P W' 0 sp true f.params.toList args.toList (s.fn H (ds++gs)).args pa)
  (Ue:∀ sp:Nat→Bool,(∀ p∈before,sp p.block=true)→DataW.TrodVars enc P W' sp s.vars (s.fn H (ds++gs)).vars pv)
  (hps:before=pa++pv) (hb:Below W.heap.size W W')
  (xy:∀ (j:Nat) (t:TypeId) (r:Value),f.resultTypes[j]?=some t→(v.resultList f.resultTypes.size)[j]?=some r→Value.okWide P W' .any 0 t r) :
  s.post enc P f apart fresh handsOn again W args v W':=by
 have dD:∀ p∈before,p.block<W.heap.size:=fun p hp=>hW.lt p hp
 have hold:∀ p∈before,(fun b=>decide (b<W.heap.size)) p.block=true:=fun p hp=>by simpa using dD p hp
 refine ⟨ds,gs,before,[],pa,pv,hW,yG _ _ _,qa _ hold,Ue _ hold,World.keptBut_mono (fun p hp=>⟨hp,?_⟩) (Pd hb (·∈before)),fun _=>?_⟩
 ·rw [hps,List.mem_append] at hp
  exact Or.inr hp
 ·obtain ⟨_,_,_,_,_,hz,hn⟩:=hW
  refine ⟨xy,_,_,([]++pa)++pv,⟨[]++pa,pv,trodAll_append (qa _ (fun _ _=>rfl)) (yG _ _ _),Ue _ (fun _ _=>rfl),rfl,?_,?_⟩,?_⟩
  ·intro b off hp
   have hp':MemPlace.cell b off∈before:=by rw [hps]; simpa using hp
   have h1:=hz b off hp'
   have h2:=dD _ hp'
   rw [hb.frozen h2]
   exact h1
  ·intro ha
   have:=hn ha
   rw [hps] at this
   simpa using this
  ·intro p hp _
   rw [hps]
   simpa using hp
theorem own:ownKnob Tryd.prog.godebug=none:=by kernel_rfl
theorem DD {f:FuncId} {ds:List D} (h:LC f ds [] (bool true) []) {vs:List Value} (w:World) (hG:ov pN (fun _=>False) w) (hv:aB (a7 [] (fun _=>False) w) ds vs) :
  Calls Tryd.prog f vs.toArray w fun e w'=>e=.returned (.bool true)∧Below w.heap.size w w':=by
 refine (h.out.2 0 (fun _=>False) (Kp.of w) [] [] [] _ w [] vs (R.none (fun _ q=>q.elim) hG) (hv.mono fun _ _ q=>a7.mono (Env.le_refl []) (ba.refl _ w) (fun b _ q=>(tu b).1 q) q)).mono ?_
 rintro e w' ⟨v,E',rfl,_,hR,hd⟩
 exact ⟨by rw [hd.1],hR.below.below⟩
theorem Ce:Tryd.prog.cellsOf 3=1:=by kernel_rfl
theorem J1:Tryd.prog.cellsOf 23=3:=by kernel_rfl
theorem Jk:Tryd.prog.cellsOf 24=6:=by kernel_rfl
theorem Lu {cs:Array Value} (h:cs.size=6):∃ a b c x y z,cs = #[a,b,c,x,y,z]:=by
 obtain ⟨l⟩:=cs
 match l,h with
 | [a,b,c,x,y,z],_=>exact ⟨a,b,c,x,y,z,rfl⟩
theorem Br {P:Program} {w:World} {r:Reach} {b:Nat} {t e:TypeId} {n:Nat} {v:Value} (ht:P.underlying t=some (.array n e)) (h:Value.okWide P w r b t v):∃ cs,v=.agg cs∧cs.size=P.cellsOf t:=by
 unfold Value.okWide at h
 rw [ht] at h
 obtain ⟨cs,h1,h2,_⟩:=h
 exact ⟨cs,h1,h2⟩
theorem Ij {z:Int} (h:(Lit.int .i64 z).wf=true):z≤9223372036854775807:=by
 simp [Lit.wf,IntKind.min,IntKind.max,IntKind.signed,IntKind.bits] at h
 omega
section
variable {H:Type} {enc:TypeId×Value→H} {w:World} {base:Nat} {sp:Nat→Bool} {held:Bool}
set_option maxRecDepth 100000 in
theorem Ul {fuel:Nat} {c0 c1 c2:Value} {y:DataW H×List MemPlace} (h:DataW.trod enc Tryd.prog w base sp held fuel 23 [c0,c1,c2]=some y) :
  ∃ x0 x1 x2:Int,c0=.int .i64 x0∧c1=.int .i64 x1∧c2=.int .i64 x2∧y=(.agg [.lit (.int .i64 x0),.lit (.int .i64 x1),.lit (.int .i64 x2)],[])∧(Lit.int .i64 x0).wf=true∧(Lit.int .i64 x1).wf=true∧(Lit.int .i64 x2).wf=true:=by
 obtain ⟨y0,y1,y2,n,hx,h0,h1,h2⟩:=trod_array3 Tryd.underlying23 Ce h
 obtain ⟨x,hc0,rfl,w0⟩:=DataW.trod_int Tryd.underlying3 h0
 obtain ⟨y,hc1,rfl,w1⟩:=DataW.trod_int Tryd.underlying3 h1
 obtain ⟨z,hc2,rfl,w2⟩:=DataW.trod_int Tryd.underlying3 h2
 simp only [List.cons.injEq,and_true] at hc0 hc1 hc2
 exact ⟨x,y,z,hc0,hc1,hc2,hx,w0,w1,w2⟩
set_option maxRecDepth 100000 in
theorem OU {b0:Nat} {v:Value} {d:DataW H} {ps:List MemPlace} (hval:Value.okWide Tryd.prog w .any b0 24 v) (hd:DataW.Trod enc Tryd.prog w base sp held 24 v d ps) :
  ∃ a b c x y z:Int,v=.agg #[.int .i64 a,.int .i64 b,.int .i64 c,.int .i64 x,.int .i64 y,.int .i64 z]∧d=.agg [.agg [.lit (.int .i64 a),.lit (.int .i64 b),.lit (.int .i64 c)],.agg [.lit (.int .i64 x),.lit (.int .i64 y),.lit (.int .i64 z)]]∧ps=[]∧
   (Lit.int .i64 a).wf=true∧(Lit.int .i64 b).wf=true∧(Lit.int .i64 c).wf=true∧(Lit.int .i64 x).wf=true∧(Lit.int .i64 y).wf=true∧(Lit.int .i64 z).wf=true:=by
 obtain ⟨cs,rfl,hs⟩:=Br Tryd.underlying24 hval
 rw [Jk] at hs
 obtain ⟨c0,c1,c2,c3,c4,c5,rfl⟩:=Lu hs
 obtain ⟨fuel,hf⟩:=hd
 have hf:DataW.trod enc Tryd.prog w base sp held fuel 24 [c0,c1,c2,c3,c4,c5]=some (d,ps):=hf
 obtain ⟨xs,m,_,hx,_,hlen,hel⟩:=DataW.trod_array Tryd.underlying24 hf
 have h0:=hel 0 (by omega)
 have h1:=hel 1 (by omega)
 rw [J1] at h0 h1
 match xs,hlen with
 | [y0,y1],_=>
   obtain ⟨a,b,c,rfl,rfl,rfl,rfl,w0,w1,w2⟩:=Ul (show DataW.trod enc Tryd.prog w base sp held m 23 [c0,c1,c2]=some y0 from h0)
   obtain ⟨x,y,z,rfl,rfl,rfl,rfl,w3,w4,w5⟩:=Ul (show DataW.trod enc Tryd.prog w base sp held m 23 [c3,c4,c5]=some y1 from h1)
   simp only [bs] at hx
   exact ⟨a,b,c,x,y,z,rfl,hx.1,by simpa using hx.2,w0,w1,w2,w3,w4,w5⟩
set_option maxRecDepth 100000 in
theorem D7 {a b c x y z:Int} (w0:(Lit.int .i64 a).wf=true) (w1:(Lit.int .i64 b).wf=true) (w2:(Lit.int .i64 c).wf=true) (w3:(Lit.int .i64 x).wf=true) (w4:(Lit.int .i64 y).wf=true) (w5:(Lit.int .i64 z).wf=true) :
  DataW.Trod enc Tryd.prog w base sp held 24 (.agg #[.int .i64 a,.int .i64 b,.int .i64 c,.int .i64 x,.int .i64 y,.int .i64 z]) (.agg [.agg [.lit (.int .i64 a),.lit (.int .i64 b),.lit (.int .i64 c)],.agg [.lit (.int .i64 x),.lit (.int .i64 y),.lit (.int .i64 z)]]) []:=by
 have r3:List.range 3=[0,1,2]:=rfl
 have r2:List.range 2=[0,1]:=rfl
 exact ⟨3,by simp [DataW.trod,Value.cells,Tryd.underlying24,Tryd.underlying23,Tryd.underlying3,Jk,J1,Ce,r3,r2,w0,w1,w2,w3,w4,w5]⟩
theorem MM:DataW.Trod enc Tryd.prog w base sp held 22 (.slice none 0 0) .nil []:=
 ⟨1,by simp [DataW.trod,Value.cells,Tryd.underlying22]⟩
end
theorem Ih (w:World) (a b c x y z:Int):a7 [] (fun _=>False) w (.a [ci a,ci b,ci c,ci x,ci y,ci z]) (.agg #[.int .i64 a,.int .i64 b,.int .i64 c,.int .i64 x,.int .i64 y,.int .i64 z]):=
 ⟨_,rfl,.cons ⟨rfl,rfl⟩ (.cons ⟨rfl,rfl⟩ (.cons ⟨rfl,rfl⟩ (.cons ⟨rfl,rfl⟩ (.cons ⟨rfl,rfl⟩ (.cons ⟨rfl,rfl⟩ .nil)))))⟩
theorem O5 (os:Os) (args:Array Value):laidMetH Tryd.prog DN ((World.doorLaid Tryd.prog 600 os).forCall (fun _ _=>0) ⟨#[],args,[]⟩).memory:=
 laidMetH_of_parts3 (fuel:=8) (laidMet_of_run' 8 (by kernel_rfl) (by kernel_rfl)) (by kernel_rfl) (by kernel_rfl)
set_option maxRecDepth 100000 in
theorem lifted (os:Os) (started:os.Started) (H:Type) (enc:TypeId×Value→H) :
  ReturnsInHanded {} Tryd.checked os 3 .any (fun w args=>(Rows.hoistStaysSpec.pre enc Tryd.prog Tryd.f3 [] false w args∧laidMetH Tryd.prog DN w)∧sizedMet enc Tryd.prog Tryd.f3 (OpenSpec.ofChange Rows.hoistStaysSpec) false w args)
   (Rows.hoistStaysSpec.post enc Tryd.prog Tryd.f3 false true false false):=by
 refine returnsInHanded_of_change_and (C:=Tryd.checked) (X:=fun w _=>laidMetH Tryd.prog DN w) (fun _ _ _ hh h=>h.of_heap hh) own started (by kernel_rfl) Tryd.func3
  (ChangeSpec.witness_shaped (enc:=enc) (C:=Tryd.checked) (os:=os) (X:=fun w _=>laidMetH Tryd.prog DN w) false (World.doorLaid Tryd.prog 600 os) #[.slice none 0 0,.agg #[.int .i64 0,.int .i64 0,.int .i64 0,.int .i64 0,.int .i64 0,.int .i64 0]] 8 rfl (World.shaped_of_RefB (by kernel_rfl) (by kernel_rfl)) (by kernel_rfl) (by kernel_rfl) (by kernel_rfl) (O5 os _)) ?_
 intro W base args ds gs before T1 hW _ _ hL _
 have hval:∀ (j:Nat) t v,Tryd.f3.params[j]?=some t→args[j]?=some v→Value.okWide Tryd.prog W .any base t v:=T1
 have hW':=hW
 obtain ⟨p,q,hA0,hV,rfl,hfz,rz⟩:=hW
 have hA:DataW.TrodAll enc Tryd.prog W 0 (fun _=>true) true Tryd.f3.params.toList args.toList ds p:=hA0
 rw [Tryd.params3] at hA hval
 obtain ⟨v0,v1,d0,d1,p0,p1,rfl,rfl,rfl,h0,h1⟩:=trodAll_two hA
 obtain ⟨rfl,rfl⟩:=trodVars_none hV
 obtain ⟨q0,q1,q2,q3,q4,q5,rfl,rfl,rfl,w0,w1,w2,w3,w4,w5⟩:=OU (hval 1 24 v1 rfl rfl) h1
 have hG:=yM hL
 have hv0:=hval 0 22 v0 rfl rfl
 obtain ⟨a0,len,cap,rfl⟩:=okWide_slice Tryd.underlying22 hv0
 obtain ⟨fuel,hf⟩:=h0
 have hf:DataW.trod enc Tryd.prog W 0 (fun _=>true) true fuel 22 [.slice a0 len cap]=some (d0,p0):=hf
 simp only [List.append_nil] at hW'
 clear hA0 T1
 rcases open_ints Tryd.underlying22 Tryd.underlying3 Ce hf with ⟨hc,hx⟩|⟨a,len,cap,zs,hc,hb0,hlc,hcm,hz,hx,hcell,hwf⟩
 ·simp only [List.cons.injEq,and_true] at hc
  simp only [bs] at hx
  obtain ⟨rfl,rfl⟩:=hx
  rw [hc] at hW' ⊢
  refine (DD (YS ⟨0,fun _=>0⟩ q0 q1 q2 q3 q4 q5 (bu _) (Ij w2) (Ij w5)) W hG (vs:=[.slice none 0 0,_]) (.cons ⟨none,0,rfl,bk _,bu _,fun h=>absurd h (Nat.not_lt_zero _)⟩ (.cons (Ih W q0 q1 q2 q3 q4 q5) .nil))).mono fun e W' ⟨he,hb⟩=>?_
  subst he
  exact ⟨_,rfl,D6 (pa:=[]) (pv:=[]) hW' (fun _ _ _=>(trodAll_cons_mk (shut_bool Tryd.underlying4 _) trodAll_mk0)) (fun sp _=>(trodAll_cons_mk MM (trodAll_cons_mk (D7 w0 w1 w2 w3 w4 w5) trodAll_mk0))) (fun _ _=>rfl) rfl
   hb (ok_one (by kernel_rfl) rfl (okWide_bool_mk Tryd.underlying4 _))⟩
 ·simp only [List.cons.injEq,and_true] at hc
  simp only [bs] at hx
  obtain ⟨rfl,rfl⟩:=hx
  simp only [if_true] at hz
  have hsp:a.spot=none:=by
   rw [hc] at hv0
   have hv1:Cell.ok Tryd.prog W .any base 22 (.slice (some a) len cap):=by
    unfold Value.okWide at hv0
    rw [Tryd.underlying22] at hv0
    unfold Cell.okWide at hv0
    rw [Tryd.underlying22] at hv0
    exact hv0
   unfold Cell.ok at hv1
   rw [Tryd.underlying22] at hv1
   exact hv1.2.2.2.1
  have jd:0<cap→a.block<W.heap.size:=fun h0=>by
   have hm:MemPlace.cell a.block (a.off+0)∈MemPlace.row a zs.length:=by
    rw [hz]
    exact List.mem_map.2 ⟨0,List.mem_range.2 h0,rfl⟩
   exact hW'.lt _ hm
  rw [hc] at hW' ⊢
  refine (DD (YS ⟨len,fun i=>zs.getD i 0⟩ q0 q1 q2 q3 q4 q5 (cM hlc hcm) (Ij w2) (Ij w5)) W hG (vs:=[.slice (some a) len cap,_]) (.cons ⟨some a,cap,rfl,hlc,cM hlc hcm,fun h0=>⟨a,rfl,hsp,fun q=>q,jd (Nat.lt_of_lt_of_le h0 hlc),fun i hi j hj=>⟨.int .i64 (zs.getD i 0),?_,rfl,rfl⟩⟩⟩ (.cons (Ih W q0 q1 q2 q3 q4 q5) .nil))).mono fun e W' ⟨he,hb⟩=>?_
  ·have hj:j=0:=by omega
   subst hj
   rw [show i*1+0=i by omega]
   exact hcell i (by rw [hz]; exact Nat.lt_of_lt_of_le hi hlc)
  subst he
  refine ⟨_,rfl,D6 (pa:=MemPlace.row a zs.length) (pv:=[]) hW' (fun _ _ _=>(trodAll_cons_mk (shut_bool Tryd.underlying4 _) trodAll_mk0)) (fun sp an7=>?_) (fun _ _=>rfl) (by simp)
   hb (ok_one (by kernel_rfl) rfl (okWide_bool_mk Tryd.underlying4 _))⟩
  have hcond:zs.length=(if sp a.block then cap else len):=by
   by_cases h0:0<cap
   ·have hm:MemPlace.cell a.block (a.off+0)∈MemPlace.row a zs.length:=by
     rw [hz]
     exact List.mem_map.2 ⟨0,List.mem_range.2 h0,rfl⟩
    have h1:sp a.block=true:=an7 _ hm
    rw [if_pos h1]; exact hz
   ·split<;>omega
  have ht:=shut_ints (H:=H) (enc:=enc) (held:=true) (spare:=sp) (w:=W') (base:=0) 0 Tryd.underlying22 Tryd.underlying3 Ce (bu _) hlc hcm hcond (fun i hi=>by
   rw [tg (w:=W) (by rw [V.block_add]; exact hb.block _ (jd (by omega)))]
   exact hcell i hi) hwf
  have ht2:DataW.Trod enc Tryd.prog W' 0 sp true 22 (.slice (some a) len cap) (.slice (lits .i64 (zs.take len)) (lits .i64 (zs.drop len))) (MemPlace.row a zs.length):=⟨_,ht⟩
  have h3:=trodAll_cons_mk ht2 (trodAll_cons_mk (D7 w0 w1 w2 w3 w4 w5) trodAll_mk0)
  simp only [List.append_nil] at h3
  exact h3
theorem over:Rows.HoistStaysSaid:=
 OpenClaim.holds_of_wide 3 Tryd.f3 rfl rfl rfl rfl rfl rfl rfl ⟨rfl,rfl,rfl,rfl,rfl⟩ rfl rfl rfl rfl rfl (by kernel_rfl) Tryd.func3 (by kernel_rfl)
  (of_decide_eq_true (by kernel_rfl)) (by unfold Func.isWrapper; first|(rw [if_pos (by decide +kernel)]; kernel_rfl)|(rw [if_neg (by decide +kernel)]; exact ⟨rfl,rfl⟩))
  (fun os started H enc _=>lifted os started H enc)
theorem proved:Rows.HoistStaysCardSaid:=
 Claim7.holds_tied_plain_at .later [] [.funcs] true (true, "f754613156a72bc51dc0a70477b7d99f3df1cc1e62075d4986c884be226aac6f") false
  over (fun _ h=>by cases h) (by kernel_rfl) (fun _ h=>by cases h) hoistStays_row_tie rfl ⟨rfl,rfl⟩ (by kernel_rfl) rfl
  (fun f fn hf hfn=>by
   obtain rfl:f=3:=Option.some.inj ((show Tryd.prog.funcNamed "facsimile/facsimilelaw21.HoistStays" = some 3 by kernel_rfl).symm.trans hf) |>.symm
   obtain rfl:fn=Tryd.f3:=(Option.some.inj (Tryd.func3.symm.trans hfn)).symm
   exact ⟨by kernel_rfl,fun j t ht=>by
    rw [Tryd.params3] at ht
    have hm:t∈[22,24]:=by simpa using Array.mem_of_getElem? ht
    have hall:([22,24].all fun u => !Tryd.prog.wantsStandIn u)=true:=by kernel_rfl
    exact (show Tryd.prog.wantsStandIn t=false by simpa using List.all_eq_true.1 hall t hm)⟩)
  (by kernel_rfl)
#print axioms proved
end Go.Proofs.YtghfgcfabbbbbaaDoor.hoistStays
