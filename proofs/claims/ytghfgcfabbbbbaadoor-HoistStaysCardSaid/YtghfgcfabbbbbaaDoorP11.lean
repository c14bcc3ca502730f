/- Loops: what is to be shown. -/
import Derived.Test.YtghfgcfabbbbbaaDoorP9
import Derived.Test.YtghfgcfabbbbbaaDoorP10
import Derived.Test.YtghfgcfabbbbbaaDoorRows
import Derived.ProofKit
import Derived.LaidMore
import Derived.Stop.Joined
import Derived.OpenShut
import Derived.ChangeSame
set_option linter.unusedVariables false
set_option linter.unusedSimpArgs false
set_option maxRecDepth 1000000
namespace Go.Proofs.YtghfgcfabbbbbaaDoor
open Go Go.V
noncomputable section
section
def XG (v w:Sq Bool) (a b:Sq Nat):hX:={ F:=ext FH [(10,fun _ _=>(eT 1 eB v,[],[])),(27,fun _ _=>(eT 1 eB w,[],[])),(18,fun _ _=>(eT 6 BL a,[],[])),(28,fun _ _=>(eT 6 BL b,[],[])),(16,fun _ _=>(bool true,[],[])),(17,fun _ _=>(bool true,[],[]))] }
def A7 (bl:ae→Int→Int→Int→ae) (ds:List D):D:=match ds with
 | [d,.a [.im (.v (.int _ x)),.im (.v (.int _ y)),.im (.v (.int _ z))]]=>bc (bl (gj [d] 0) x y z)
 | _=>.t []
def X3 (t:ae) (bl:ae→Int→Int→Int→ae):hX:={ F:=ext FH [(5,fun _ _=>(bool true,[],[])),(6,fun _ _=>(bc t,[],[])),(8,fun _ _=>(bool true,[],[])),(7,fun ds _=>(A7 bl ds,[],[]))] }
end
theorem Wg (t:ae):(nF t).n≤t.ins.n:=by
 unfold nF
 cases eO t != 0 with
 | true=>exact bu _
 | false=>cases (jx t).op != 20 with
   | true=>exact bk _
   | false=>exact bk _
def Ze:Nat→Bool:=cw
theorem ai5:Fn 8:=⟨by kernel_rfl,by kernel_rfl⟩
theorem aj6 (L:LP) (QD:D→Prop) (v w:Sq Bool) (a b:Sq Nat) (t:ae) (h:(LC 10 [(dw t)] [] (gZ v) []∧(LC 27 [(dw t)] [] (gZ w) []∧(LC 16 [(gZ v),(gZ w)] [] (bool true) []∧(LC 18 [(dw t)] [] (nJ a) []∧(LC 28 [(dw t)] [] (nJ b) []∧(LC 17 [(nJ a),(nJ b)] [] (bool true) []∧QD (bool true)))))))):fS (XG v w a b) 8 Ze L (aZ QD) [bc t] []:=Eq.mp (by kernel_rfl) h
theorem TT (t:ae) (hS:ed t) (hN:t.ins.n≤1000) (hn:∀ k,k<t.ins.n→(t.ins.get k).n≤9223372036854775807):LC 8 [bc t] [] (bool true) []:=by
 have hr:=Mm t hn
 obtain ⟨e1,e2⟩:=inv_eq hr
 have c10:=XC t hS hr
 have c27:=Wi t hS
 have hL:=Wg t
 have hR:(ri t).n≤t.ins.n:=e1▸hL
 have es:mv (j9 t (nF t)) (nF t).n=mv (j9 t (ri t)) (ri t).n:=by
  rw [← e1]
  refine zX _ fun i hi=>?_
  unfold j9
  rw [show (nF t).get i=(ri t).get i from e2 i hi]
 exact aU (X:=XG (nF t) (ri t) (mv (j9 t (nF t)) (nF t).n) (mv (j9 t (ri t)) (ri t).n)) (stop:=Ze) ai5 (bg (by kernel_rfl)) (aj6 _ _ _ _ _ _ t ⟨c10,c27,WN _ _ e1 e2,Wu t _ hL hN c10,VO t _ hR hN c27,V2 _ _ (congrArg Sq.n es) (fun i _=>by rw [es]),aX.refl _⟩)
def af1:Nat→Bool:=cw
theorem at4:Fn 3:=⟨by kernel_rfl,by kernel_rfl⟩
theorem am3 (L:LP) (QD:D→Prop) (t:ae) (bl:ae→Int→Int→Int→ae) (l:Sq Int) (q0 q1 q2 q3 q4 q5:Int) (h:(LC 5 [] [] (bool true) []∧(LC 6 [(mE l)] [] (dw t) []∧(LC 7 [(dw t),(.a [(ci q0),(ci q1),(ci q2)])] [] (.a (lift (cB (bl t q0 q1 q2)))) []∧(LC 8 [(dw t)] [] (bool true) []∧(LC 8 [(.a (lift (cB (bl t q0 q1 q2))))] [] (bool true) []∧br (decide ((↑(bl t q0 q1 q2).2.1:Int)>0)) ((LC 7 [(.a (lift (cB (bl t q0 q1 q2)))),(.a [(ci q3),(ci q4),(ci q5)])] [] (.a (lift (cB (bl (bl t q0 q1 q2) q3 q4 q5)))) []∧(LC 8 [(.a (lift (cB (bl (bl t q0 q1 q2) q3 q4 q5))))] [] (bool true) []∧(LC 8 [(.a Fy)] [] (bool true) []∧QD (bool true))))) ((LC 8 [(.a Fy)] [] (bool true) []∧QD (bool true))))))))):fS (X3 t bl) 3 af1 L (aZ QD) [eT 1 b8 l,.a [ci q0,ci q1,ci q2,ci q3,ci q4,ci q5]] []:=Eq.mp (by kernel_rfl) h
def Z1:aj:=⟨0,0,0,0,0,dx 0,⟨0,0,ByteArray.mk ⟨[]⟩⟩,dx (ByteArray.mk ⟨[]⟩),⟨0,0⟩,0,false⟩
def N3:ae:=⟨⟨0,0⟩,dx Z1,dx ⟨dx ⟨0,0,dx 0⟩,dx ⟨0,0,dx (ByteArray.mk ⟨[]⟩),dx 0⟩,0⟩⟩
theorem Zr {l l':List C} (h:aB ei l l'):aX (.a l) (.a l'):=by
 rintro E av w v ⟨cs,rfl,hv⟩
 exact ⟨cs,rfl,aB.cle h hv⟩
theorem Nv:aX (.a [(.im (.v (.int .i64 0))),(.im (.v (.int .i64 0))),(.im (.v (.slice .none 0 0))),(.im (.v (.slice .none 0 0)))]) (bc N3):=
 Zr (.cons (ei.refl _) (.cons (ei.refl _) (.cons (ei.nil 14 _) (.cons (ei.nil 3 _) .nil))))
theorem C7:ed N3:=⟨by decide,by decide,fun k hk=>absurd hk (Nat.not_lt_zero k),fun k hk=>absurd hk (Nat.not_lt_zero k),fun k hk=>absurd hk (Nat.not_lt_zero k),fun k hk=>absurd hk (Nat.not_lt_zero k)⟩
theorem Ov:LC 8 [.a [(.im (.v (.int .i64 0))),(.im (.v (.int .i64 0))),(.im (.v (.slice .none 0 0))),(.im (.v (.slice .none 0 0)))]] [] (bool true) []:=
 cu.pre (TT N3 C7 (bu _) fun k hk=>absurd hk (Nat.not_lt_zero k)) (.cons Nv .nil)
theorem FP {m:Nat} {t:ae} (h:yu m t) (hm:m≤1000):LC 8 [bc t] [] (bool true) []:=
 TT t (h.small hm) (cM h.ins hm) h.num
theorem yu.ad3 {m:Nat} {t:ae} (h:yu m t) (hm:m≤1000) (hn:0<t.ins.n) (q0 q1 q2:Int):LC 7 [bc t,.a [ci q0,ci q1,ci q2]] [] (bc (bP t q0 q1 q2)) []:=
 YF t q0 q1 q2 (h.small hm) hn fun e he=>(h.ge e he).pos
theorem YS (l:Sq Int) (q0 q1 q2 q3 q4 q5:Int) (hl:l.n≤maxLen) (h2:q2≤9223372036854775807) (h5:q5≤9223372036854775807):LC 3 [eT 1 b8 l,.a [ci q0,ci q1,ci q2,ci q3,ci q4,ci q5]] [] (bool true) []:=by
 have b0:=PU l
 have p0:=L2 l
 have b1:=Fb b0 (by omega) (by omega) p0 q0 q1 q2 h2
 refine aU (X:=X3 (made l) bP) (stop:=af1) at4 (bg (by kernel_rfl)) (am3 _ _ (made l) bP l q0 q1 q2 q3 q4 q5 ⟨al5,ZC l hl,b0.ad3 (by omega) p0 q0 q1 q2,FP b0 (by omega),FP b1 (by omega),ak (fun h=>?_) (fun h=>⟨Ov,aX.refl _⟩)⟩)
 have p1:0<(bP (made l) q0 q1 q2).ins.n:=by
  have:=of_decide_eq_true h
  exact Int.ofNat_lt.1 this
 exact ⟨b1.ad3 (by omega) p1 q3 q4 q5,FP (Fb b1 (by omega) (by omega) p1 q3 q4 q5 h5) (by omega),Ov,aX.refl _⟩
open Go Go.V Go.RowKit Go.WideShapes Go.ChangeShapes
def nameBytes (P:Program) (f:FuncId):List UInt8:=match P.funcs[f]? with
 | some fn=>fn.name.toUTF8.data.toList
 | none=>[]
def Jw (P:Program) (f:FuncId):Bool:=match nameBytes P f with
 | []=>false
 | b::r=>((List.range P.funcs.size).filter fun f=>(P.funcs[f]?).any (·.name.toUTF8.data.toList==b::r))==[f]
def NN (P:Program) (p:Int×Option FuncId):DataW (List UInt8):=match p.2 with
 | none=>.agg [.lit (.int .i64 p.1),.nil]
 | some f=>.agg [.lit (.int .i64 p.1),.held (nameBytes P f)]
def as1 (o:Option FuncId):Value:=match o with
 | none=>.nilFunc
 | some f=>.func (.func f) #[] #[]
theorem Nu {P:Program} {w:World} {fuel:Nat} {t:TypeId} {ps rs:Array TypeId} {va:Bool} {v:Value} {q:List MemPlace}
  (ht:P.underlying t=some (.func ps rs va)) (h:DataW.trod (funcToken P) P w 0 (fun _=>true) true fuel t [v]=some (.nil,q)):v=.nilFunc:=by
 cases fuel with
 | zero=>simp [DataW.trod] at h
 | succ n=>cases v<;>simp [DataW.trod,ht] at h<;>rfl
theorem SF {P:Program} {w:World} {n:String} {d:DataW Unit} {g:Nat} {t e k h:TypeId} {N:Nat} {f0 f1:Field} {ps rs:Array TypeId} {va:Bool} {L:List (Int×Option FuncId)}
  (hA:funcsAt P w n d) (hd:d.funcsOut=.agg (L.map (NN P))) (hg:P.globalNamed n=some g) (ht:(P.globals[g]?).map (·.type)=some t)
  (hu:P.underlying t=some (.array N e)) (hN:L.length=N) (hs:P.underlying e=some (.struct #[f0,f1])) (o0:f0.offset=0) (o1:f1.offset=1) (t0:f0.type=k) (t1:f1.type=h)
  (hk:P.underlying k=some (.int .i64)) (hh:P.underlying h=some (.func ps rs va)) (ck:P.cellsOf k=1) (ch:P.cellsOf h=1) (ce:P.cellsOf e=2) (hr:L.all (fun x=>match x.2 with|some f=>Jw P f|none=>true)=true) :
  ∀ i p,L[i]?=some p→w.cell? ⟨g,2*i,none⟩=some (.int .i64 p.1)∧w.cell? ⟨g,2*i+1,none⟩=some (as1 p.2):=by
 obtain ⟨g',t',cs,fuel,p,hg',Ua,hv,h1⟩:=hA
 obtain rfl:=Option.some.inj (hg.symm.trans hg')
 obtain rfl:=Option.some.inj (ht.symm.trans Ua)
 have hcell:∀ j,w.cell? ⟨g,j,none⟩=cs[j]?:=World.var?_cell hg hv
 rw [hd] at h1
 obtain ⟨xs,m,_,hx,_,hlen,hel⟩:=DataW.trod_array hu h1
 simp only [bs,DataW.agg.injEq] at hx
 intro i q hq
 have hi:i<N:=by
  rw [← hN]
  exact (List.getElem?_eq_some_iff.1 hq).1
 have hxi:(xs.map (·.1))[i]?=some (NN P q):=by rw [← hx.1,List.getElem?_map,hq]; rfl
 obtain ⟨y,hy,hyd⟩:∃ y,xs[i]?=some y∧y.1=NN P q:=by
  rw [List.getElem?_map] at hxi
  cases hc:xs[i]? with
  | none=>rw [hc] at hxi; cases hxi
  | some y=>rw [hc] at hxi; exact ⟨y,rfl,Option.some.inj hxi⟩
 have h2:=hel i hi
 rw [hy,ce] at h2
 obtain ⟨y0,y1,z,hyx,hl2,h3,h4⟩:=trod_struct2 hs h2
 rw [o0,t0,ck] at h3
 rw [o1,t1,ch] at h4
 rw [ce] at hl2
 have Fx:∃ a b,(cs.toList.drop (i*2)).take 2=[a,b]:=by
  match hm:(cs.toList.drop (i*2)).take 2,hl2 with
  | [a,b],_=>exact ⟨a,b,rfl⟩
 obtain ⟨a,b,hab⟩:=Fx
 rw [hab] at h3 h4
 have ga:cs[2*i]?=some a:=by
  have:((cs.toList.drop (i*2)).take 2)[0]?=some a:=by rw [hab]; rfl
  rw [dy] at this
  simpa [Nat.mul_comm] using this
 have gb:cs[2*i+1]?=some b:=by
  have:((cs.toList.drop (i*2)).take 2)[1]?=some b:=by rw [hab]; rfl
  rw [dy] at this
  simpa [Nat.mul_comm] using this
 have hone:=List.all_eq_true.1 hr q (List.mem_of_getElem? hq)
 rw [hcell,hcell,ga,gb]
 have h3:DataW.trod (funcToken P) P w 0 (fun _=>true) true z k [a]=some y0:=h3
 have h4:DataW.trod (funcToken P) P w 0 (fun _=>true) true z h [b]=some y1:=h4
 obtain ⟨x,hc0,Yq,_⟩:=DataW.trod_int hk h3
 rw [hyx] at hyd
 obtain ⟨u,o⟩:=q
 cases o with
 | none=>
   simp only [NN,DataW.agg.injEq,List.cons.injEq,and_true] at hyd
   obtain ⟨e0,e1⟩:=hyd
   rw [Yq] at e0
   simp only [DataW.lit.injEq,Lit.int.injEq,true_and] at e0
   obtain ⟨y1a,y1b⟩:=y1
   simp only at e1
   rw [e1] at h4
   simp only [List.cons.injEq,and_true] at hc0
   exact ⟨by rw [hc0,e0],by rw [Nu hh h4]; rfl⟩
 | some f=>
   simp only [NN,DataW.agg.injEq,List.cons.injEq,and_true] at hyd
   obtain ⟨e0,e1⟩:=hyd
   rw [Yq] at e0
   simp only [DataW.lit.injEq,Lit.int.injEq,true_and] at e0
   obtain ⟨y1a,y1b⟩:=y1
   simp only at e1 hone
   unfold Jw at hone
   split at hone
   ·cases hone
   rename_i c r hc
   rw [e1,hc] at h4
   simp only [List.cons.injEq,and_true] at hc0
   exact ⟨by rw [hc0,e0],by rw [func_of_trod hh (eq_of_beq hone) h4]; rfl⟩
def aq6:List (Int×Option FuncId):=[(0,none),(0,none),(0,some 123),(1,some 123),(2,some 123),(1,some 123),(1,some 123),(1,some 123),(1,some 123),(2,some 123),(1,some 124),(0,none),(2,some 126),(0,none),(1,some 123)]
def DN:List (String×DataW Unit):=[("facsimile/hoist.table", Rows.laid_facsimile_hoist_table)]
def Q1:DataW Unit→DataW Unit
 | .iface _ d=>d
 | d=>d
theorem Ss {w:World} (f:FuncId):dm (fun _=>False) w (LK f) (.func (.func f) #[] #[]):=⟨#[],rfl,rfl,fun j hj=>absurd hj (Nat.not_lt_zero j)⟩
theorem yM {W:World} (h:laidMetH Tryd.prog DN W):ov pN (fun _=>False) W:=by
 have h0:funcsAt Tryd.prog W "facsimile/hoist.table" (Q1 Rows.laid_facsimile_hoist_table):=h.funcs (List.mem_singleton.2 rfl)
 have key:=SF (L:=aq6) (g:=0) (t:=84) (e:=83) (k:=3) (h:=81) (N:=15) h0 (by kernel_rfl) (by kernel_rfl) (by kernel_rfl) Tryd.underlying84 rfl Tryd.underlying83 rfl rfl rfl rfl Tryd.underlying3 Tryd.underlying81 (by kernel_rfl) (by kernel_rfl) (by kernel_rfl) (by kernel_rfl)
 intro g x hg
 have hg0:g=0∧x=(30,Yv):=by
  match g,hg with
  | 0,hg=>exact ⟨rfl,(Option.some.inj hg).symm⟩
 obtain ⟨rfl,rfl⟩:=hg0
 refine ⟨⟨0,0,none⟩,rfl,rfl,id,World.block_lt_of_cell? W ⟨0,0,none⟩ (key 0 _ rfl).1,fun j hj=>?_⟩
 rw [show (⟨0,0,none⟩:Addr).add j=⟨0,j,none⟩ by simp [Addr.add]; exact fun h=>h.symm]
 have hj:j<30:=hj
 obtain ⟨i,hi,hij⟩:∃ i,i<15∧(j=2*i∨j=2*i+1):=⟨j/2,by omega,by omega⟩
 have jD:i=0∨i=1∨i=2∨i=3∨i=4∨i=5∨i=6∨i=7∨i=8∨i=9∨i=10∨i=11∨i=12∨i=13∨i=14:=by omega
 rcases hij with rfl|rfl
 ·rcases jD with rfl|rfl|rfl|rfl|rfl|rfl|rfl|rfl|rfl|rfl|rfl|rfl|rfl|rfl|rfl<;>exact ⟨_,(key _ _ rfl).1,rfl,rfl⟩
 ·rcases jD with rfl|rfl|rfl|rfl|rfl|rfl|rfl|rfl|rfl|rfl|rfl|rfl|rfl|rfl|rfl<;>refine ⟨_,(key _ _ rfl).2,?_⟩<;>first|exact Ss _|exact ⟨rfl,rfl⟩
end
end Go.Proofs.YtghfgcfabbbbbaaDoor
