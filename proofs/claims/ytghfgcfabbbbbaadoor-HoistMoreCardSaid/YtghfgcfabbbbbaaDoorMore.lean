/-
 'facsimilelaw21.HoistMore' answers true whatever its input, and the input reads behind the call as it read before.
 CONDITIONS: the package's table holds what the card lists (tied to the program's text).
-/
import Derived.Test.YtghfgcfabbbbbaaDoorQ10
import Derived.Test.YtghfgcfabbbbbaaDoorCards
import Derived.Test.YtghfgcfabbbbbaaDoorTie
import Derived.Laws.IdiomArrays
import Derived.WalkKit
import Derived.ProofKit
import Derived.OpenShut
import Derived.ChangeSlices
set_option linter.unusedSimpArgs false
set_option linter.unusedVariables false
namespace Go.Proofs.YtghfgcfabbbbbaaDoor.hoistMore
open Go Go.V Go.ChangeShapes Go.WideShapes Go.ChangeAt Go.RowKit
theorem Ji {W W':World} (hb:Below W.heap.size W W') (may:MemPlace→Prop):W.keptBut W' may:=by
 refine ⟨hb.os,hb.output,fun i hi=>?_⟩
 rw [hb.block i hi]
 cases h:W.heap[i]? with
 | none=>trivial
 | some o=>cases o<;>simp
theorem Cv {H:Type} {enc:TypeId×Value→H} {P:Program} {f:Func} {s:ChangeSpec} {apart fresh handsOn again:Bool} {W W':World} {args:Array Value} {v:Value} {ds gs:List (DataW H)} {before pa pv:List MemPlace}
  (hW:DataW.Whole enc P f.params.toList s.vars apart W args.toList ds gs before)
  (vX:∀ (b:Nat) (sp:Nat→Bool) (hd:Bool),DataW.TrodAll enc P W' b sp hd f.resultTypes.toList (v.resultList f.resultTypes.size) (s.fn H (ds++gs)).results [])
  (oh:∀ sp:Nat→Bool,(∀ p∈before,sp p.block=true)→DataW.TrodAll enc P W' 0 sp true f.params.toList args.toList (s.fn H (ds++gs)).args pa)
  (QH:∀ sp:Nat→Bool,(∀ p∈before,sp p.block=true)→DataW.TrodVars enc P W' sp s.vars (s.fn H (ds++gs)).vars pv)
  (Wt:before=pa++pv) (hb:Below W.heap.size W W')
  (vh:∀ (j:Nat) (t:TypeId) (r:Value),f.resultTypes[j]?=some t→(v.resultList f.resultTypes.size)[j]?=some r→Value.okWide P W' .any 0 t r) :
  s.post enc P f apart fresh handsOn again W args v W':=by
 have dp:∀ p∈before,p.block<W.heap.size:=fun p hp=>hW.lt p hp
 have hold:∀ p∈before,(fun b=>decide (b<W.heap.size)) p.block=true:=fun p hp=>by simpa using dp p hp
 refine ⟨ds,gs,before,[],pa,pv,hW,vX _ _ _,oh _ hold,QH _ hold,World.keptBut_mono (fun p hp=>⟨hp,?_⟩) (Ji hb (·∈before)),fun _=>?_⟩
 ·rw [Wt,List.mem_append] at hp
  exact Or.inr hp
 ·obtain ⟨_,_,_,_,_,hz,hn⟩:=hW
  refine ⟨vh,_,_,([]++pa)++pv,⟨[]++pa,pv,trodAll_append (oh _ (fun _ _=>rfl)) (vX _ _ _),QH _ (fun _ _=>rfl),rfl,?_,?_⟩,?_⟩
  ·intro b off hp
   have hp':MemPlace.cell b off∈before:=by rw [Wt]; simpa using hp
   have h1:=hz b off hp'
   have h2:=dp _ hp'
   rw [hb.frozen h2]
   exact h1
  ·intro ha
   have:=hn ha
   rw [Wt] at this
   simpa using this
  ·intro p hp _
   rw [Wt]
   simpa using hp
theorem own:ownKnob Tryd.prog.godebug=none:=by kernel_rfl
theorem A0 {f:FuncId} {ds:List D} (h:LC f ds [] (bool true) []) {vs:List Value} (w:World) (hG:mf mn (fun _=>False) w) (hv:az (aJ [] (fun _=>False) w) ds vs) :
  Calls Tryd.prog f vs.toArray w fun e w'=>e=.returned (.bool true)∧Below w.heap.size w w':=by
 refine (h.out.2 0 (fun _=>False) (Kp.of w) [] [] [] _ w [] vs (R.none (fun _ q=>q.elim) hG) (hv.mono fun _ _ q=>aJ.mono (Env.le_refl []) (aZ.refl _ w) (fun b _ q=>(qX b).1 q) q)).mono ?_
 rintro e w' ⟨v,E',rfl,_,hR,hd⟩
 exact ⟨by rw [hd.1],hR.below.below⟩
theorem Jm:Tryd.prog.cellsOf 3=1:=by kernel_rfl
section
variable {H:Type} {enc:TypeId×Value→H} {w:World} {base:Nat} {sp:Nat→Bool} {held:Bool}
theorem Lr:DataW.Trod enc Tryd.prog w base sp held 22 (.slice none 0 0) .nil []:=
 ⟨1,by simp [DataW.trod,Value.cells,Tryd.underlying22]⟩
end
theorem wf_u8 {z:Int} (h:(Lit.int .u8 z).wf=true):0≤z∧z≤255:=by
 simp [Lit.wf,IntKind.min,IntKind.max,IntKind.signed,IntKind.bits] at h
 omega
theorem K2 (w:World) (z:Int):aJ [] (fun _=>False) w (.c (.im (.v (.int .u8 z)))) (.int .u8 z):=⟨rfl,rfl⟩
theorem Ka (os:Os) (args:Array Value):laidMetH Tryd.prog A3 ((World.doorLaid Tryd.prog 600 os).forCall (fun _ _=>0) ⟨#[],args,[]⟩).memory:=
 laidMetH_of_parts3 (fuel:=8) (laidMet_of_run' 8 (by kernel_rfl) (by kernel_rfl)) (by kernel_rfl) (by kernel_rfl)
set_option maxRecDepth 100000 in
theorem lifted (os:Os) (started:os.Started) (H:Type) (enc:TypeId×Value→H) :
  ReturnsInHanded {} Tryd.checked os 4 .any (fun w args=>(Rows.hoistMoreSpec.pre enc Tryd.prog Tryd.f4 [] false w args∧laidMetH Tryd.prog A3 w)∧sizedMet enc Tryd.prog Tryd.f4 (OpenSpec.ofChange Rows.hoistMoreSpec) false w args)
   (Rows.hoistMoreSpec.post enc Tryd.prog Tryd.f4 false true false false):=by
 refine returnsInHanded_of_change_and (C:=Tryd.checked) (X:=fun w _=>laidMetH Tryd.prog A3 w) (fun _ _ _ hh h=>h.of_heap hh) own started (by kernel_rfl) Tryd.func4
  (ChangeSpec.witness_shaped (enc:=enc) (C:=Tryd.checked) (os:=os) (X:=fun w _=>laidMetH Tryd.prog A3 w) false (World.doorLaid Tryd.prog 600 os) #[.slice none 0 0,.int .u8 0] 8 rfl (World.shaped_of_RefB (by kernel_rfl) (by kernel_rfl)) (by kernel_rfl) (by kernel_rfl) (by kernel_rfl) (Ka os _)) ?_
 intro W base args ds gs before P4 hW _ _ hL _
 have hval:∀ (j:Nat) t v,Tryd.f4.params[j]?=some t→args[j]?=some v→Value.okWide Tryd.prog W .any base t v:=P4
 have hW':=hW
 obtain ⟨p,q,hA0,hV,rfl,hfz,rN⟩:=hW
 have hA:DataW.TrodAll enc Tryd.prog W 0 (fun _=>true) true Tryd.f4.params.toList args.toList ds p:=hA0
 rw [Tryd.params4] at hA hval
 obtain ⟨v0,v1,d0,d1,p0,p1,rfl,rfl,rfl,h0,h1⟩:=trodAll_two hA
 obtain ⟨rfl,rfl⟩:=trodVars_none hV
 obtain ⟨q0,rfl,rfl,rfl,w0⟩:=open_int Tryd.underlying5 (hval 1 5 v1 rfl rfl) h1
 have hq:=wf_u8 w0
 have hG:=wo hL
 have hv0:=hval 0 22 v0 rfl rfl
 obtain ⟨a0,len,cap,rfl⟩:=okWide_slice Tryd.underlying22 hv0
 obtain ⟨fuel,hf⟩:=h0
 have hf:DataW.trod enc Tryd.prog W 0 (fun _=>true) true fuel 22 [.slice a0 len cap]=some (d0,p0):=hf
 simp only [List.append_nil] at hW'
 clear hA0 P4
 rcases open_ints Tryd.underlying22 Tryd.underlying3 Jm hf with ⟨hc,hx⟩|⟨a,len,cap,zs,hc,hb0,hlc,hcm,hz,hx,hcell,hwf⟩
 ·simp only [List.cons.injEq,and_true] at hc
  simp only [a8] at hx
  obtain ⟨rfl,rfl⟩:=hx
  rw [hc] at hW' ⊢
  refine (A0 (Ul ⟨0,fun _=>0⟩ q0 hq.1 hq.2 (bB _)) W hG (vs:=[.slice none 0 0,_]) (.cons ⟨none,0,rfl,bf _,bB _,fun h=>absurd h (Nat.not_lt_zero _)⟩ (.cons (K2 W q0) .nil))).mono fun e W' ⟨he,hb⟩=>?_
  subst he
  exact ⟨_,rfl,Cv (pa:=[]) (pv:=[]) hW' (fun _ _ _=>(trodAll_cons_mk (shut_bool Tryd.underlying4 _) trodAll_mk0)) (fun sp _=>(trodAll_cons_mk Lr (trodAll_cons_mk (shut_int Tryd.underlying5 w0) trodAll_mk0))) (fun _ _=>rfl) rfl
   hb (ok_one (by kernel_rfl) rfl (okWide_bool_mk Tryd.underlying4 _))⟩
 ·simp only [List.cons.injEq,and_true] at hc
  simp only [a8] at hx
  obtain ⟨rfl,rfl⟩:=hx
  simp only [if_true] at hz
  have Wj:a.spot=none:=by
   rw [hc] at hv0
   have hv1:Cell.ok Tryd.prog W .any base 22 (.slice (some a) len cap):=by
    unfold Value.okWide at hv0
    rw [Tryd.underlying22] at hv0
    unfold Cell.okWide at hv0
    rw [Tryd.underlying22] at hv0
    exact hv0
   unfold Cell.ok at hv1
   rw [Tryd.underlying22] at hv1
   exact hv1.2.2.2.1
  have ik:0<cap→a.block<W.heap.size:=fun h0=>by
   have hm:MemPlace.cell a.block (a.off+0)∈MemPlace.row a zs.length:=by
    rw [hz]
    exact List.mem_map.2 ⟨0,List.mem_range.2 h0,rfl⟩
   exact hW'.lt _ hm
  rw [hc] at hW' ⊢
  refine (A0 (Ul ⟨len,fun i=>zs.getD i 0⟩ q0 hq.1 hq.2 (bU hlc hcm)) W hG (vs:=[.slice (some a) len cap,_]) (.cons ⟨some a,cap,rfl,hlc,bU hlc hcm,fun h0=>⟨a,rfl,Wj,fun q=>q,ik (Nat.lt_of_lt_of_le h0 hlc),fun i hi j hj=>⟨.int .i64 (zs.getD i 0),?_,rfl,rfl⟩⟩⟩ (.cons (K2 W q0) .nil))).mono fun e W' ⟨he,hb⟩=>?_
  ·have hj:j=0:=by omega
   subst hj
   rw [show i*1+0=i by omega]
   exact hcell i (by rw [hz]; exact Nat.lt_of_lt_of_le hi hlc)
  subst he
  refine ⟨_,rfl,Cv (pa:=MemPlace.row a zs.length) (pv:=[]) hW' (fun _ _ _=>(trodAll_cons_mk (shut_bool Tryd.underlying4 _) trodAll_mk0)) (fun sp Yc=>?_) (fun _ _=>rfl) (by simp)
   hb (ok_one (by kernel_rfl) rfl (okWide_bool_mk Tryd.underlying4 _))⟩
  have hcond:zs.length=(if sp a.block then cap else len):=by
   by_cases h0:0<cap
   ·have hm:MemPlace.cell a.block (a.off+0)∈MemPlace.row a zs.length:=by
     rw [hz]
     exact List.mem_map.2 ⟨0,List.mem_range.2 h0,rfl⟩
    have h1:sp a.block=true:=Yc _ hm
    rw [if_pos h1]; exact hz
   ·split<;>omega
  have ht:=shut_ints (H:=H) (enc:=enc) (held:=true) (spare:=sp) (w:=W') (base:=0) 0 Tryd.underlying22 Tryd.underlying3 Jm (bB _) hlc hcm hcond (fun i hi=>by
   rw [ru (w:=W) (by rw [V.block_add]; exact hb.block _ (ik (by omega)))]
   exact hcell i hi) hwf
  have ht2:DataW.Trod enc Tryd.prog W' 0 sp true 22 (.slice (some a) len cap) (.slice (lits .i64 (zs.take len)) (lits .i64 (zs.drop len))) (MemPlace.row a zs.length):=⟨_,ht⟩
  have h3:=trodAll_cons_mk ht2 (trodAll_cons_mk (shut_int Tryd.underlying5 w0) trodAll_mk0)
  simp only [List.append_nil] at h3
  exact h3
theorem over:Rows.HoistMoreSaid:=
 OpenClaim.holds_of_wide 4 Tryd.f4 rfl rfl rfl rfl rfl rfl rfl ⟨rfl,rfl,rfl,rfl,rfl⟩ rfl rfl rfl rfl rfl (by kernel_rfl) Tryd.func4 (by kernel_rfl)
  (of_decide_eq_true (by kernel_rfl)) (by unfold Func.isWrapper; first|(rw [if_pos (by decide +kernel)]; kernel_rfl)|(rw [if_neg (by decide +kernel)]; exact ⟨rfl,rfl⟩))
  (fun os started H enc _=>lifted os started H enc)
theorem proved:Rows.HoistMoreCardSaid:=
 Claim7.holds_tied_plain_at .later [] [.funcs] true (true, "f754613156a72bc51dc0a70477b7d99f3df1cc1e62075d4986c884be226aac6f") false
  over (fun _ h=>by cases h) (by kernel_rfl) (fun _ h=>by cases h) hoistMore_row_tie rfl ⟨rfl,rfl⟩ (by kernel_rfl) rfl
  (fun f fn hf Xx=>by
   obtain rfl:f=4:=Option.some.inj ((show Tryd.prog.funcNamed "facsimile/facsimilelaw21.HoistMore" = some 4 by kernel_rfl).symm.trans hf) |>.symm
   obtain rfl:fn=Tryd.f4:=(Option.some.inj (Tryd.func4.symm.trans Xx)).symm
   exact ⟨by kernel_rfl,fun j t ht=>by
    rw [Tryd.params4] at ht
    have hm:t∈[22,5]:=by simpa using Array.mem_of_getElem? ht
    have hall:([22,5].all fun u => !Tryd.prog.wantsStandIn u)=true:=by kernel_rfl
    exact (show Tryd.prog.wantsStandIn t=false by simpa using List.all_eq_true.1 hall t hm)⟩)
  (by kernel_rfl)
#print axioms proved
end Go.Proofs.YtghfgcfabbbbbaaDoor.hoistMore
