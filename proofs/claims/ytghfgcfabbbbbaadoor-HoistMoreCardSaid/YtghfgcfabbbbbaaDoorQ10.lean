/- Loops: what is to be shown. -/
import Derived.Test.YtghfgcfabbbbbaaDoorQ8
import Derived.Test.YtghfgcfabbbbbaaDoorQ9
import Derived.Test.YtghfgcfabbbbbaaDoorRows
import Derived.ProofKit
import Derived.LaidMore
import Derived.Stop.Joined
import Derived.OpenShut
import Derived.ChangeSame
import Derived.Test.YtghfgcfabbbbbaaDoorQ7
import Derived.Test.YtghfgcfabbbbbaaDoorQ6
set_option linter.unusedVariables false
set_option linter.unusedSimpArgs false
set_option maxRecDepth 1000000
namespace Go.Proofs.YtghfgcfabbbbbaaDoor
open Go Go.V
noncomputable section
section
end
open Go Go.V Go.RowKit Go.WideShapes Go.ChangeShapes
def nameBytes (P:Program) (f:FuncId):List UInt8:=match P.funcs[f]? with
 | some fn=>fn.name.toUTF8.data.toList
 | none=>[]
def Fa (P:Program) (f:FuncId):Bool:=match nameBytes P f with
 | []=>false
 | b::r=>((List.range P.funcs.size).filter fun f=>(P.funcs[f]?).any (·.name.toUTF8.data.toList==b::r))==[f]
def IU (P:Program) (p:Int×Option FuncId):DataW (List UInt8):=match p.2 with
 | none=>.agg [.lit (.int .i64 p.1),.nil]
 | some f=>.agg [.lit (.int .i64 p.1),.held (nameBytes P f)]
def W3 (o:Option FuncId):Value:=match o with
 | none=>.nilFunc
 | some f=>.func (.func f) #[] #[]
theorem Jx {P:Program} {w:World} {fuel:Nat} {t:TypeId} {ps rs:Array TypeId} {va:Bool} {v:Value} {q:List MemPlace}
  (ht:P.underlying t=some (.func ps rs va)) (h:DataW.trod (funcToken P) P w 0 (fun _=>true) true fuel t [v]=some (.nil,q)):v=.nilFunc:=by
 cases fuel with
 | zero=>simp [DataW.trod] at h
 | succ n=>cases v<;>simp [DataW.trod,ht] at h<;>rfl
theorem Pg {P:Program} {w:World} {n:String} {d:DataW Unit} {g:Nat} {t e k h:TypeId} {N:Nat} {f0 f1:Field} {ps rs:Array TypeId} {va:Bool} {L:List (Int×Option FuncId)}
  (hA:funcsAt P w n d) (hd:d.funcsOut=.agg (L.map (IU P))) (hg:P.globalNamed n=some g) (ht:(P.globals[g]?).map (·.type)=some t)
  (hu:P.underlying t=some (.array N e)) (hN:L.length=N) (hs:P.underlying e=some (.struct #[f0,f1])) (o0:f0.offset=0) (o1:f1.offset=1) (t0:f0.type=k) (t1:f1.type=h)
  (hk:P.underlying k=some (.int .i64)) (hh:P.underlying h=some (.func ps rs va)) (ck:P.cellsOf k=1) (ch:P.cellsOf h=1) (ce:P.cellsOf e=2) (hr:L.all (fun x=>match x.2 with|some f=>Fa P f|none=>true)=true) :
  ∀ i p,L[i]?=some p→w.cell? ⟨g,2*i,none⟩=some (.int .i64 p.1)∧w.cell? ⟨g,2*i+1,none⟩=some (W3 p.2):=by
 obtain ⟨g',t',cs,fuel,p,hg',PX,hv,h1⟩:=hA
 obtain rfl:=Option.some.inj (hg.symm.trans hg')
 obtain rfl:=Option.some.inj (ht.symm.trans PX)
 have hcell:∀ j,w.cell? ⟨g,j,none⟩=cs[j]?:=World.var?_cell hg hv
 rw [hd] at h1
 obtain ⟨xs,m,_,hx,_,hlen,hel⟩:=DataW.trod_array hu h1
 simp only [a8,DataW.agg.injEq] at hx
 intro i q hq
 have hi:i<N:=by
  rw [← hN]
  exact (List.getElem?_eq_some_iff.1 hq).1
 have hxi:(xs.map (·.1))[i]?=some (IU P q):=by rw [← hx.1,List.getElem?_map,hq]; rfl
 obtain ⟨y,hy,hyd⟩:∃ y,xs[i]?=some y∧y.1=IU P q:=by
  rw [List.getElem?_map] at hxi
  cases hc:xs[i]? with
  | none=>rw [hc] at hxi; cases hxi
  | some y=>rw [hc] at hxi; exact ⟨y,rfl,Option.some.inj hxi⟩
 have h2:=hel i hi
 rw [hy,ce] at h2
 obtain ⟨y0,y1,z,hyx,hl2,h3,h4⟩:=trod_struct2 hs h2
 rw [o0,t0,ck] at h3
 rw [o1,t1,ch] at h4
 rw [ce] at hl2
 have FO:∃ a b,(cs.toList.drop (i*2)).take 2=[a,b]:=by
  match hm:(cs.toList.drop (i*2)).take 2,hl2 with
  | [a,b],_=>exact ⟨a,b,rfl⟩
 obtain ⟨a,b,hab⟩:=FO
 rw [hab] at h3 h4
 have ga:cs[2*i]?=some a:=by
  have:((cs.toList.drop (i*2)).take 2)[0]?=some a:=by rw [hab]; rfl
  rw [cN] at this
  simpa [Nat.mul_comm] using this
 have gb:cs[2*i+1]?=some b:=by
  have:((cs.toList.drop (i*2)).take 2)[1]?=some b:=by rw [hab]; rfl
  rw [cN] at this
  simpa [Nat.mul_comm] using this
 have hone:=List.all_eq_true.1 hr q (List.mem_of_getElem? hq)
 rw [hcell,hcell,ga,gb]
 have h3:DataW.trod (funcToken P) P w 0 (fun _=>true) true z k [a]=some y0:=h3
 have h4:DataW.trod (funcToken P) P w 0 (fun _=>true) true z h [b]=some y1:=h4
 obtain ⟨x,hc0,VJ,_⟩:=DataW.trod_int hk h3
 rw [hyx] at hyd
 obtain ⟨u,o⟩:=q
 cases o with
 | none=>
   simp only [IU,DataW.agg.injEq,List.cons.injEq,and_true] at hyd
   obtain ⟨e0,e1⟩:=hyd
   rw [VJ] at e0
   simp only [DataW.lit.injEq,Lit.int.injEq,true_and] at e0
   obtain ⟨y1a,y1b⟩:=y1
   simp only at e1
   rw [e1] at h4
   simp only [List.cons.injEq,and_true] at hc0
   exact ⟨by rw [hc0,e0],by rw [Jx hh h4]; rfl⟩
 | some f=>
   simp only [IU,DataW.agg.injEq,List.cons.injEq,and_true] at hyd
   obtain ⟨e0,e1⟩:=hyd
   rw [VJ] at e0
   simp only [DataW.lit.injEq,Lit.int.injEq,true_and] at e0
   obtain ⟨y1a,y1b⟩:=y1
   simp only at e1 hone
   unfold Fa at hone
   split at hone
   ·cases hone
   rename_i c r hc
   rw [e1,hc] at h4
   simp only [List.cons.injEq,and_true] at hc0
   exact ⟨by rw [hc0,e0],by rw [func_of_trod hh (eq_of_beq hone) h4]; rfl⟩
def WH:List (Int×Option FuncId):=[(0,none),(0,none),(0,some 123),(1,some 123),(2,some 123),(1,some 123),(1,some 123),(1,some 123),(1,some 123),(2,some 123),(1,some 124),(0,none),(2,some 126),(0,none),(1,some 123)]
def A3:List (String×DataW Unit):=[("facsimile/hoist.table", Rows.laid_facsimile_hoist_table)]
def Nf:DataW Unit→DataW Unit
 | .iface _ d=>d
 | d=>d
theorem MX {w:World} (f:FuncId):cA (fun _=>False) w (Ic f) (.func (.func f) #[] #[]):=⟨#[],rfl,rfl,fun j hj=>absurd hj (Nat.not_lt_zero j)⟩
theorem wo {W:World} (h:laidMetH Tryd.prog A3 W):mf mn (fun _=>False) W:=by
 have h0:funcsAt Tryd.prog W "facsimile/hoist.table" (Nf Rows.laid_facsimile_hoist_table):=h.funcs (List.mem_singleton.2 rfl)
 have key:=Pg (L:=WH) (g:=0) (t:=84) (e:=83) (k:=3) (h:=81) (N:=15) h0 (by kernel_rfl) (by kernel_rfl) (by kernel_rfl) Tryd.underlying84 rfl Tryd.underlying83 rfl rfl rfl rfl Tryd.underlying3 Tryd.underlying81 (by kernel_rfl) (by kernel_rfl) (by kernel_rfl) (by kernel_rfl)
 intro g x hg
 have hg0:g=0∧x=(30,TX):=by
  match g,hg with
  | 0,hg=>exact ⟨rfl,(Option.some.inj hg).symm⟩
 obtain ⟨rfl,rfl⟩:=hg0
 refine ⟨⟨0,0,none⟩,rfl,rfl,id,World.block_lt_of_cell? W ⟨0,0,none⟩ (key 0 _ rfl).1,fun j hj=>?_⟩
 rw [show (⟨0,0,none⟩:Addr).add j=⟨0,j,none⟩ by simp [Addr.add]; exact fun h=>h.symm]
 have hj:j<30:=hj
 obtain ⟨i,hi,hij⟩:∃ i,i<15∧(j=2*i∨j=2*i+1):=⟨j/2,by omega,by omega⟩
 have iq:i=0∨i=1∨i=2∨i=3∨i=4∨i=5∨i=6∨i=7∨i=8∨i=9∨i=10∨i=11∨i=12∨i=13∨i=14:=by omega
 rcases hij with rfl|rfl
 ·rcases iq with rfl|rfl|rfl|rfl|rfl|rfl|rfl|rfl|rfl|rfl|rfl|rfl|rfl|rfl|rfl<;>exact ⟨_,(key _ _ rfl).1,rfl,rfl⟩
 ·rcases iq with rfl|rfl|rfl|rfl|rfl|rfl|rfl|rfl|rfl|rfl|rfl|rfl|rfl|rfl|rfl<;>refine ⟨_,(key _ _ rfl).2,?_⟩<;>first|exact MX _|exact ⟨rfl,rfl⟩
open Go Go.V
section
def XC:iZ:={ F:=If }
end
def oq:Nat→Bool:=fun i=>Nat.beq i 1||Nat.beq i 3
theorem TM:Fn 45:=⟨by kernel_rfl,by kernel_rfl⟩
theorem U2 (L:LP) (QD:D→Prop) (x:Sq Int) (h:L (aj 45 1) ⟨[(0,((nY x),[]))],[],[]⟩):gL XC 45 oq L (bF QD) [eR 1 cg x] []:=Eq.mp (by kernel_rfl) h
def B2 (n:Nat) (g:Nat→Int)  : VS:=⟨[(0,(.c (.im (.sl 1 n.succ (fun i=>cg (g i))))),[])],[],[]⟩
abbrev oY:jr:=(4,((bool false),[]))
theorem IY (L:LP) (QD:D→Prop) (n:Nat) (g:Nat→Int)  (h:L (aj 45 3) ⟨[(0,((.c (.im (.sl 1 n.succ (fun i=>cg (g i))))),[])),oY],[],[]⟩):dh XC 45 oq L (bF QD) 1 (B2 n g ):=Eq.mp (by kernel_rfl) h
abbrev wQ (ax:Nat):VS:=⟨[(0,(.c (.im (.v (.slice .none 0 ax)))),[])],[],[]⟩
def Cu (cap:Nat)  : VS:=(wQ cap)
theorem LU (L:LP) (QD:D→Prop) (cap:Nat)  (h:QD (.c dS)):dh XC 45 oq L (bF QD) 1 (Cu cap ):=Eq.mp (by kernel_rfl) h
abbrev xv (ax:Addr) (aX:Nat):VS:=⟨[(0,(.c (.im (.v (.slice (.some ax) 0 aX)))),[])],[],[]⟩
def B7 (a:Addr) (cap:Nat)  : VS:=(xv a cap)
abbrev wI (ax:Addr) (aX:Nat):VS:=⟨[(0,((.c (.im (.v (.slice (.some ax) 0 aX)))),[])),oY],[],[]⟩
theorem IZ (L:LP) (QD:D→Prop) (a:Addr) (cap:Nat)  (h:L (aj 45 3) (wI a cap)):dh XC 45 oq L (bF QD) 1 (B7 a cap ):=Eq.mp (by kernel_rfl) h
def qC (n:Nat) (g:Nat→Nat→Go.V.I)  : VS:=⟨[(0,.c (.im (.sl 1 n g)),[])],[],[]⟩
theorem Iw (L:LP) (QD:D→Prop) (n:Nat) (g:Nat→Nat→Go.V.I)  (h:nd (dX (0+n) 8) (QD (.c (.im (.sl 1 (0+n) (j0 0 lJ g)))))):dh XC 45 oq L (bF QD) 3 (qC n g ):=Eq.mp (by kernel_rfl) h
theorem ah.Ap {f:FuncId} {n0:Nat} {Q:D→List ae→Prop} {todo:List Item} {s:VS} {t:Tmp} {sz:Nat} {get:Nat→Nat→Go.V.I} (ht:eb s.sl t=some (.c (.im (.sl sz 0 get)))) (g:∀ (ad:Option Addr) (cap:Nat),ah f n0 Q todo ⟨(t,.c (.im (.v (.slice ad 0 cap))),[])::s.sl,s.rs,s.df⟩):ah f n0 Q todo s:=
 fun b cs hb=>Goal.Ap ht fun ad cap=>g ad cap b cs hb
theorem nD {f:FuncId} (hf:Fn f) {ds:List D} {rs:List ae} {d:D} {aE:List ae} (hl:ds.length≤(wS f).ntmps) (h:ah f rs.length (Go.V.nj rs d aE) [.code (nV f)] ⟨cH 0 ds,rs,[]⟩):LC f ds rs d aE:=by
 obtain ⟨h1,h2⟩:=xp f _ hf.mn
 exact Kw rY h1 h2 hf.body hl h
theorem FR (n:Nat) (g:Nat→Int) (hx:n≤1000):ah 45 0 (cf (eR 1 cg ⟨n,g⟩)) (aj 45 3) (qC n fun i=>cg (g i)):=by
 refine bD (X:=XC) (stop:=oq) (Iw _ _ n _ ?_)
 refine aA (ez (by omega) (by omega)) ?_
 rw [Nat.zero_add]
 exact kM (dP.sl fun i _ j _=>dP.refl _)
theorem PA (n:Nat) (g:Nat→Int) (hx:n≤1000):ah 45 0 (cf (eR 1 cg ⟨n,g⟩)) (aj 45 1) ⟨[(0,eR 1 cg ⟨n,g⟩,[])],[],[]⟩:=by
 cases n with
 | zero=>
   refine ah.Ap (t:=0) rfl fun ad cap=>?_
   cases ad with
   | none=>
     refine ah.le (Cu cap) (by repeat' (first|exact trivial|refine cR rfl ?_)) .nil rfl ((bD (X:=XC) (stop:=oq) (LU _ _ cap ?_)))
     exact fun E av w v q=>eN.nil 1 _ E av w v q
   | some a=>
     refine ah.le (B7 a cap) (by repeat' (first|exact trivial|refine cR rfl ?_)) .nil rfl (bD (X:=XC) (stop:=oq) (IZ _ _ a cap ?_))
     exact ah.le (qC 0 fun i=>cg (g i)) ⟨⟨rfl,_,rfl,kM mv⟩,trivial⟩ .nil rfl (FR 0 g (by omega))
 | succ n=>
   refine ah.le (B2 n g) (by repeat' (first|exact trivial|refine cR rfl ?_)) .nil rfl (bD (X:=XC) (stop:=oq) (IY _ _ n g ?_))
   exact ah.le (qC (n+1) fun i=>cg (g i)) (by repeat' (first|exact trivial|refine cR rfl ?_)) .nil rfl (FR (n+1) g hx)
theorem ux (x:Sq Int) (hx:x.n≤1000):LC 45 [eR 1 cg x] [] (eR 1 cg x) []:=
 bw (X:=XC) (stop:=oq) TM (aP (by kernel_rfl)) (U2 _ _ x (PA x.n x.get hx))
def n9:Nat→Bool:=fun i=>Nat.beq i 1||Nat.beq i 3
theorem Vt:Fn 46:=⟨by kernel_rfl,by kernel_rfl⟩
theorem Vd (L:LP) (QD:D→Prop) (x:Sq ByteArray) (h:L (aj 46 1) ⟨[(o8 x)],[],[]⟩):gL XC 46 n9 L (bF QD) [eR 1 ff x] []:=Eq.mp (by kernel_rfl) h
def Av (n:Nat) (g:Nat→ByteArray)  : VS:=⟨[(0,(.c (.im (.sl 1 n.succ (fun i=>ff (g i))))),[])],[],[]⟩
theorem J2 (L:LP) (QD:D→Prop) (n:Nat) (g:Nat→ByteArray)  (h:L (aj 46 3) ⟨[(0,((.c (.im (.sl 1 n.succ (fun i=>ff (g i))))),[])),oY],[],[]⟩):dh XC 46 n9 L (bF QD) 1 (Av n g ):=Eq.mp (by kernel_rfl) h
def BI (cap:Nat)  : VS:=(wQ cap)
theorem Lu (L:LP) (QD:D→Prop) (cap:Nat)  (h:QD (.c dS)):dh XC 46 n9 L (bF QD) 1 (BI cap ):=Eq.mp (by kernel_rfl) h
def Bg (a:Addr) (cap:Nat)  : VS:=(xv a cap)
theorem Kl (L:LP) (QD:D→Prop) (a:Addr) (cap:Nat)  (h:L (aj 46 3) (wI a cap)):dh XC 46 n9 L (bF QD) 1 (Bg a cap ):=Eq.mp (by kernel_rfl) h
def pY (n:Nat) (g:Nat→Nat→Go.V.I)  : VS:=⟨[(0,.c (.im (.sl 1 n g)),[])],[],[]⟩
theorem Lt (L:LP) (QD:D→Prop) (n:Nat) (g:Nat→Nat→Go.V.I)  (h:nd (dX (0+n) 16) (QD (.c (.im (.sl 1 (0+n) (j0 0 lJ g)))))):dh XC 46 n9 L (bF QD) 3 (pY n g ):=Eq.mp (by kernel_rfl) h
theorem Gh (n:Nat) (g:Nat→ByteArray) (hx:n≤1000):ah 46 0 (cf (eR 1 ff ⟨n,g⟩)) (aj 46 3) (pY n fun i=>ff (g i)):=by
 refine bD (X:=XC) (stop:=n9) (Lt _ _ n _ ?_)
 refine aA (ez (by omega) (by omega)) ?_
 rw [Nat.zero_add]
 exact kM (dP.sl fun i _ j _=>dP.refl _)
theorem Nc (n:Nat) (g:Nat→ByteArray) (hx:n≤1000):ah 46 0 (cf (eR 1 ff ⟨n,g⟩)) (aj 46 1) ⟨[(0,eR 1 ff ⟨n,g⟩,[])],[],[]⟩:=by
 cases n with
 | zero=>
   refine ah.Ap (t:=0) rfl fun ad cap=>?_
   cases ad with
   | none=>
     refine ah.le (BI cap) (by repeat' (first|exact trivial|refine cR rfl ?_)) .nil rfl ((bD (X:=XC) (stop:=n9) (Lu _ _ cap ?_)))
     exact fun E av w v q=>eN.nil 1 _ E av w v q
   | some a=>
     refine ah.le (Bg a cap) (by repeat' (first|exact trivial|refine cR rfl ?_)) .nil rfl (bD (X:=XC) (stop:=n9) (Kl _ _ a cap ?_))
     exact ah.le (pY 0 fun i=>ff (g i)) ⟨⟨rfl,_,rfl,kM mv⟩,trivial⟩ .nil rfl (Gh 0 g (by omega))
 | succ n=>
   refine ah.le (Av n g) (by repeat' (first|exact trivial|refine cR rfl ?_)) .nil rfl (bD (X:=XC) (stop:=n9) (J2 _ _ n g ?_))
   exact ah.le (pY (n+1) fun i=>ff (g i)) (by repeat' (first|exact trivial|refine cR rfl ?_)) .nil rfl (Gh (n+1) g hx)
theorem zw (x:Sq ByteArray) (hx:x.n≤1000):LC 46 [eR 1 ff x] [] (eR 1 ff x) []:=
 bw (X:=XC) (stop:=n9) Vt (aP (by kernel_rfl)) (Vd _ _ x (Nc x.n x.get hx))
def od:Nat→Bool:=fun i=>Nat.beq i 1||Nat.beq i 3
theorem Vz:Fn 43:=⟨by kernel_rfl,by kernel_rfl⟩
theorem VA (L:LP) (QE:D→List ae→Prop) (x:Sq af) (h:L (aj 43 1) ⟨[(oL x)],[],[]⟩):gL XC 43 od L QE [eR 14 bn x] []:=Eq.mp (by kernel_rfl) h
def Bw (n:Nat) (g:Nat→af)  : VS:=⟨[(0,(.c (.im (.sl 14 n.succ (fun i=>bn (g i))))),[])],[],[]⟩
theorem Lz (L:LP) (QE:D→List ae→Prop) (n:Nat) (g:Nat→af)  (h:L (aj 43 3) ⟨[(0,((.c (.im (.sl 14 n.succ (fun i=>bn (g i))))),[])),oY],[],[]⟩):dh XC 43 od L QE 1 (Bw n g ):=Eq.mp (by kernel_rfl) h
def BT (cap:Nat)  : VS:=(wQ cap)
theorem Lk (L:LP) (QE:D→List ae→Prop) (cap:Nat)  (h:QE (.c (.im (.v (.slice .none 0 0)))) []):dh XC 43 od L QE 1 (BT cap ):=Eq.mp (by kernel_rfl) h
def Bk (a:Addr) (cap:Nat)  : VS:=(xv a cap)
theorem JI (L:LP) (QE:D→List ae→Prop) (a:Addr) (cap:Nat)  (h:L (aj 43 3) (wI a cap)):dh XC 43 od L QE 1 (Bk a cap ):=Eq.mp (by kernel_rfl) h
def qL (n:Nat) (g:Nat→Nat→Go.V.I)  : VS:=⟨[(0,.c (.im (.sl 14 n g)),[])],[],[]⟩
theorem KY (L:LP) (QE:D→List ae→Prop) (n:Nat) (g:Nat→Nat→Go.V.I)  (h:nd (dX (0+n) 152) (QE (.c (.sa 1 (0+n))) [.dead,(.arr 40 14 (0+n) (j0 0 lJ g))])):dh XC 43 od L QE 3 (qL n g ):=Eq.mp (by kernel_rfl) h
theorem GD (n:Nat) (g:Nat→af) (hx:n≤1000):ah 43 0 (nj [] (.c (.sa 0 (n))) [.arr 40 14 (n) (fun i=>bn (g i))]) (aj 43 3) (qL n fun i=>bn (g i)):=by
 refine aH (X:=XC) (stop:=od) (KY _ _ n _ ?_)
 refine aA (ez (by omega) (by omega)) ?_
 refine .inl ?_
 rw [Nat.zero_add]
 exact ⟨[1],.c (.sa 0 n),_,_,rfl,(.cons (cw.arr fun i _ j _=>dP.refl _) .nil),⟨1,aP rfl,aP rfl,rfl,rfl,bp.refl _,⟨rfl,trivial⟩⟩⟩
theorem Ok (n:Nat) (g:Nat→af) (hx:n≤1000):ah 43 0 (nj [] (.c (.sa 0 (n))) [.arr 40 14 (n) (fun i=>bn (g i))]) (aj 43 1) ⟨[(0,eR 14 bn ⟨n,g⟩,[])],[],[]⟩:=by
 cases n with
 | zero=>
   refine ah.Ap (t:=0) rfl fun ad cap=>?_
   cases ad with
   | none=>
     refine ah.le (BT cap) (by repeat' (first|exact trivial|refine cR rfl ?_)) .nil rfl ((aH (X:=XC) (stop:=od) (Lk _ _ cap ?_)))
     exact .inr ⟨rfl,rfl,rfl,_,_,_,rfl⟩
   | some a=>
     refine ah.le (Bk a cap) (by repeat' (first|exact trivial|refine cR rfl ?_)) .nil rfl (aH (X:=XC) (stop:=od) (JI _ _ a cap ?_))
     exact ah.le (qL 0 fun i=>bn (g i)) ⟨⟨rfl,_,rfl,kM mv⟩,trivial⟩ .nil rfl (GD 0 g (by omega))
 | succ n=>
   refine ah.le (Bw n g) (by repeat' (first|exact trivial|refine cR rfl ?_)) .nil rfl (aH (X:=XC) (stop:=od) (Lz _ _ n g ?_))
   exact ah.le (qL (n+1) fun i=>bn (g i)) (by repeat' (first|exact trivial|refine cR rfl ?_)) .nil rfl (GD (n+1) g hx)
theorem Iv (x:Sq af) (hx:x.n≤1000):LC 43 [eR 14 bn x] [] (.c (.sa 0 x.n)) [.arr 40 14 x.n (fun i=>bn (x.get i))]:=
 nD Vz (aP (by kernel_rfl)) (fp (X:=XC) (stop:=od) (VA _ _ x (Ok x.n x.get hx)))
def og:Nat→Bool:=fun i=>Nat.beq i 1||Nat.beq i 3
theorem Vq:Fn 44:=⟨by kernel_rfl,by kernel_rfl⟩
theorem Vr (L:LP) (QE:D→List ae→Prop) (x:Sq ag) (h:L (aj 44 1) ⟨[(0,((.c (.im (.sl 3 x.1 (fun i=>bq (x.2 i))))),[]))],[],[]⟩):gL XC 44 og L QE [eR 3 bq x] []:=Eq.mp (by kernel_rfl) h
def AZ (n:Nat) (g:Nat→ag)  : VS:=⟨[(0,(.c (.im (.sl 3 n.succ (fun i=>bq (g i))))),[])],[],[]⟩
theorem LV (L:LP) (QE:D→List ae→Prop) (n:Nat) (g:Nat→ag)  (h:L (aj 44 3) ⟨[(0,((.c (.im (.sl 3 n.succ (fun i=>bq (g i))))),[])),oY],[],[]⟩):dh XC 44 og L QE 1 (AZ n g ):=Eq.mp (by kernel_rfl) h
def Ch (cap:Nat)  : VS:=(wQ cap)
theorem La (L:LP) (QE:D→List ae→Prop) (cap:Nat)  (h:QE (.c (.im (.v (.slice .none 0 0)))) []):dh XC 44 og L QE 1 (Ch cap ):=Eq.mp (by kernel_rfl) h
def Br (a:Addr) (cap:Nat)  : VS:=(xv a cap)
theorem JG (L:LP) (QE:D→List ae→Prop) (a:Addr) (cap:Nat)  (h:L (aj 44 3) (wI a cap)):dh XC 44 og L QE 1 (Br a cap ):=Eq.mp (by kernel_rfl) h
def qp (n:Nat) (g:Nat→Nat→Go.V.I)  : VS:=⟨[(0,.c (.im (.sl 3 n g)),[])],[],[]⟩
theorem Jq (L:LP) (QE:D→List ae→Prop) (n:Nat) (g:Nat→Nat→Go.V.I)  (h:nd (dX (0+n) 56) (QE (.c (.sa 1 (0+n))) [.dead,(.arr 73 3 (0+n) (j0 0 lJ g))])):dh XC 44 og L QE 3 (qp n g ):=Eq.mp (by kernel_rfl) h
theorem EO (n:Nat) (g:Nat→ag) (hx:n≤1000):ah 44 0 (nj [] (.c (.sa 0 (n))) [.arr 73 3 (n) (fun i=>bq (g i))]) (aj 44 3) (qp n fun i=>bq (g i)):=by
 refine aH (X:=XC) (stop:=og) (Jq _ _ n _ ?_)
 refine aA (ez (by omega) (by omega)) ?_
 refine .inl ?_
 rw [Nat.zero_add]
 exact ⟨[1],.c (.sa 0 n),_,_,rfl,(.cons (cw.arr fun i _ j _=>dP.refl _) .nil),⟨1,aP rfl,aP rfl,rfl,rfl,bp.refl _,⟨rfl,trivial⟩⟩⟩
theorem N2 (n:Nat) (g:Nat→ag) (hx:n≤1000):ah 44 0 (nj [] (.c (.sa 0 (n))) [.arr 73 3 (n) (fun i=>bq (g i))]) (aj 44 1) ⟨[(0,eR 3 bq ⟨n,g⟩,[])],[],[]⟩:=by
 cases n with
 | zero=>
   refine ah.Ap (t:=0) rfl fun ad cap=>?_
   cases ad with
   | none=>
     refine ah.le (Ch cap) (by repeat' (first|exact trivial|refine cR rfl ?_)) .nil rfl ((aH (X:=XC) (stop:=og) (La _ _ cap ?_)))
     exact .inr ⟨rfl,rfl,rfl,_,_,_,rfl⟩
   | some a=>
     refine ah.le (Br a cap) (by repeat' (first|exact trivial|refine cR rfl ?_)) .nil rfl (aH (X:=XC) (stop:=og) (JG _ _ a cap ?_))
     exact ah.le (qp 0 fun i=>bq (g i)) ⟨⟨rfl,_,rfl,kM mv⟩,trivial⟩ .nil rfl (EO 0 g (by omega))
 | succ n=>
   refine ah.le (AZ n g) (by repeat' (first|exact trivial|refine cR rfl ?_)) .nil rfl (aH (X:=XC) (stop:=og) (LV _ _ n g ?_))
   exact ah.le (qp (n+1) fun i=>bq (g i)) (by repeat' (first|exact trivial|refine cR rfl ?_)) .nil rfl (EO (n+1) g hx)
theorem KJ (x:Sq ag) (hx:x.n≤1000):LC 44 [eR 3 bq x] [] (.c (.sa 0 x.n)) [.arr 73 3 x.n (fun i=>bq (x.get i))]:=
 nD Vq (aP (by kernel_rfl)) (fp (X:=XC) (stop:=og) (Vr _ _ x (N2 x.n x.get hx)))
def ot:Nat→Bool:=fun i=>Nat.beq i 1||Nat.beq i 3
theorem TP:Fn 47:=⟨by kernel_rfl,by kernel_rfl⟩
theorem VV (L:LP) (QE:D→List ae→Prop) (x:Sq dD) (h:L (aj 47 1) ⟨[(0,((.c (.im (.sl 3 x.1 (fun i=>cK (x.2 i))))),[]))],[],[]⟩):gL XC 47 ot L QE [eR 3 cK x] []:=Eq.mp (by kernel_rfl) h
def Bz (n:Nat) (g:Nat→dD)  : VS:=⟨[(0,(.c (.im (.sl 3 n.succ (fun i=>cK (g i))))),[])],[],[]⟩
theorem Lw (L:LP) (QE:D→List ae→Prop) (n:Nat) (g:Nat→dD)  (h:L (aj 47 3) ⟨[(0,((.c (.im (.sl 3 n.succ (fun i=>cK (g i))))),[])),oY],[],[]⟩):dh XC 47 ot L QE 1 (Bz n g ):=Eq.mp (by kernel_rfl) h
def Bf (cap:Nat)  : VS:=(wQ cap)
theorem JM (L:LP) (QE:D→List ae→Prop) (cap:Nat)  (h:QE (.c (.im (.v (.slice .none 0 0)))) []):dh XC 47 ot L QE 1 (Bf cap ):=Eq.mp (by kernel_rfl) h
def B4 (a:Addr) (cap:Nat)  : VS:=(xv a cap)
theorem KG (L:LP) (QE:D→List ae→Prop) (a:Addr) (cap:Nat)  (h:L (aj 47 3) (wI a cap)):dh XC 47 ot L QE 1 (B4 a cap ):=Eq.mp (by kernel_rfl) h
def qe (n:Nat) (g:Nat→Nat→Go.V.I)  : VS:=⟨[(0,.c (.im (.sl 3 n g)),[])],[],[]⟩
theorem I4 (L:LP) (QE:D→List ae→Prop) (n:Nat) (g:Nat→Nat→Go.V.I)  (h:nd (dX (0+n) 40) (QE (.c (.sa 1 (0+n))) [.dead,(.arr 75 3 (0+n) (j0 0 lJ g))])):dh XC 47 ot L QE 3 (qe n g ):=Eq.mp (by kernel_rfl) h
theorem Fw (n:Nat) (g:Nat→dD) (hx:n≤1000):ah 47 0 (nj [] (.c (.sa 0 (n))) [.arr 75 3 (n) (fun i=>cK (g i))]) (aj 47 3) (qe n fun i=>cK (g i)):=by
 refine aH (X:=XC) (stop:=ot) (I4 _ _ n _ ?_)
 refine aA (ez (by omega) (by omega)) ?_
 refine .inl ?_
 rw [Nat.zero_add]
 exact ⟨[1],.c (.sa 0 n),_,_,rfl,(.cons (cw.arr fun i _ j _=>dP.refl _) .nil),⟨1,aP rfl,aP rfl,rfl,rfl,bp.refl _,⟨rfl,trivial⟩⟩⟩
theorem OZ (n:Nat) (g:Nat→dD) (hx:n≤1000):ah 47 0 (nj [] (.c (.sa 0 (n))) [.arr 75 3 (n) (fun i=>cK (g i))]) (aj 47 1) ⟨[(0,eR 3 cK ⟨n,g⟩,[])],[],[]⟩:=by
 cases n with
 | zero=>
   refine ah.Ap (t:=0) rfl fun ad cap=>?_
   cases ad with
   | none=>
     refine ah.le (Bf cap) (by repeat' (first|exact trivial|refine cR rfl ?_)) .nil rfl ((aH (X:=XC) (stop:=ot) (JM _ _ cap ?_)))
     exact .inr ⟨rfl,rfl,rfl,_,_,_,rfl⟩
   | some a=>
     refine ah.le (B4 a cap) (by repeat' (first|exact trivial|refine cR rfl ?_)) .nil rfl (aH (X:=XC) (stop:=ot) (KG _ _ a cap ?_))
     exact ah.le (qe 0 fun i=>cK (g i)) ⟨⟨rfl,_,rfl,kM mv⟩,trivial⟩ .nil rfl (Fw 0 g (by omega))
 | succ n=>
   refine ah.le (Bz n g) (by repeat' (first|exact trivial|refine cR rfl ?_)) .nil rfl (aH (X:=XC) (stop:=ot) (Lw _ _ n g ?_))
   exact ah.le (qe (n+1) fun i=>cK (g i)) (by repeat' (first|exact trivial|refine cR rfl ?_)) .nil rfl (Fw (n+1) g hx)
theorem IF (x:Sq dD) (hx:x.n≤1000):LC 47 [eR 3 cK x] [] (.c (.sa 0 x.n)) [.arr 75 3 x.n (fun i=>cK (x.get i))]:=
 nD TP (aP (by kernel_rfl)) (fp (X:=XC) (stop:=ot) (VV _ _ x (OZ x.n x.get hx)))
def ob:Nat→Bool:=fun i=>Nat.beq i 1||Nat.beq i 3
theorem Uk:Fn 48:=⟨by kernel_rfl,by kernel_rfl⟩
theorem UA (L:LP) (QE:D→List ae→Prop) (x:Sq iY) (h:L (aj 48 1) ⟨[(0,((.c (.im (.sl 4 x.1 (fun i=>e5 (x.2 i))))),[]))],[],[]⟩):gL XC 48 ob L QE [eR 4 e5 x] []:=Eq.mp (by kernel_rfl) h
def CD (n:Nat) (g:Nat→iY)  : VS:=⟨[(0,(.c (.im (.sl 4 n.succ (fun i=>e5 (g i))))),[])],[],[]⟩
theorem K7 (L:LP) (QE:D→List ae→Prop) (n:Nat) (g:Nat→iY)  (h:L (aj 48 3) ⟨[(0,((.c (.im (.sl 4 n.succ (fun i=>e5 (g i))))),[])),oY],[],[]⟩):dh XC 48 ob L QE 1 (CD n g ):=Eq.mp (by kernel_rfl) h
def Cl (cap:Nat)  : VS:=(wQ cap)
theorem Iu (L:LP) (QE:D→List ae→Prop) (cap:Nat)  (h:QE (.c (.im (.v (.slice .none 0 0)))) []):dh XC 48 ob L QE 1 (Cl cap ):=Eq.mp (by kernel_rfl) h
def Cw (a:Addr) (cap:Nat)  : VS:=(xv a cap)
theorem Mm (L:LP) (QE:D→List ae→Prop) (a:Addr) (cap:Nat)  (h:L (aj 48 3) (wI a cap)):dh XC 48 ob L QE 1 (Cw a cap ):=Eq.mp (by kernel_rfl) h
def pN (n:Nat) (g:Nat→Nat→Go.V.I)  : VS:=⟨[(0,.c (.im (.sl 4 n g)),[])],[],[]⟩
theorem Ki (L:LP) (QE:D→List ae→Prop) (n:Nat) (g:Nat→Nat→Go.V.I)  (h:nd (dX (0+n) 64) (QE (.c (.sa 1 (0+n))) [.dead,(.arr 78 4 (0+n) (j0 0 lJ g))])):dh XC 48 ob L QE 3 (pN n g ):=Eq.mp (by kernel_rfl) h
theorem GB (n:Nat) (g:Nat→iY) (hx:n≤1000):ah 48 0 (nj [] (.c (.sa 0 (n))) [.arr 78 4 (n) (fun i=>e5 (g i))]) (aj 48 3) (pN n fun i=>e5 (g i)):=by
 refine aH (X:=XC) (stop:=ob) (Ki _ _ n _ ?_)
 refine aA (ez (by omega) (by omega)) ?_
 refine .inl ?_
 rw [Nat.zero_add]
 exact ⟨[1],.c (.sa 0 n),_,_,rfl,(.cons (cw.arr fun i _ j _=>dP.refl _) .nil),⟨1,aP rfl,aP rfl,rfl,rfl,bp.refl _,⟨rfl,trivial⟩⟩⟩
theorem OY (n:Nat) (g:Nat→iY) (hx:n≤1000):ah 48 0 (nj [] (.c (.sa 0 (n))) [.arr 78 4 (n) (fun i=>e5 (g i))]) (aj 48 1) ⟨[(0,eR 4 e5 ⟨n,g⟩,[])],[],[]⟩:=by
 cases n with
 | zero=>
   refine ah.Ap (t:=0) rfl fun ad cap=>?_
   cases ad with
   | none=>
     refine ah.le (Cl cap) (by repeat' (first|exact trivial|refine cR rfl ?_)) .nil rfl ((aH (X:=XC) (stop:=ob) (Iu _ _ cap ?_)))
     exact .inr ⟨rfl,rfl,rfl,_,_,_,rfl⟩
   | some a=>
     refine ah.le (Cw a cap) (by repeat' (first|exact trivial|refine cR rfl ?_)) .nil rfl (aH (X:=XC) (stop:=ob) (Mm _ _ a cap ?_))
     exact ah.le (pN 0 fun i=>e5 (g i)) ⟨⟨rfl,_,rfl,kM mv⟩,trivial⟩ .nil rfl (GB 0 g (by omega))
 | succ n=>
   refine ah.le (CD n g) (by repeat' (first|exact trivial|refine cR rfl ?_)) .nil rfl (aH (X:=XC) (stop:=ob) (K7 _ _ n g ?_))
   exact ah.le (pN (n+1) fun i=>e5 (g i)) (by repeat' (first|exact trivial|refine cR rfl ?_)) .nil rfl (GB (n+1) g hx)
theorem JS (x:Sq iY) (hx:x.n≤1000):LC 48 [eR 4 e5 x] [] (.c (.sa 0 x.n)) [.arr 78 4 x.n (fun i=>e5 (x.get i))]:=
 nD Uk (aP (by kernel_rfl)) (fp (X:=XC) (stop:=ob) (UA _ _ x (OY x.n x.get hx)))
open Go Go.V
section
def N9 (el sz:Nat) (ds:List D):Out:=match ds with
 | [.c (.im (.sl _ n get))]=>(.c (.sa 0 n),[],[.arr el sz n get])
 | _=>qU
def Zh:FuncId→List D→List ae→Out:=ext If [(45,fun ds _=>(aD ds 0,[],[])),(46,fun ds _=>(aD ds 0,[],[])),(43,fun ds _=>N9 40 14 ds),(44,fun ds _=>N9 73 3 ds),(47,fun ds _=>N9 75 3 ds),(48,fun ds _=>N9 78 4 ds)]
def vT:iZ:={ F:=Zh }
def YM (t:ai):ae:=.box [.im (iI t.place.fn),.im (iI t.place.line),.sa 2 t.ins.n,.sa 3 t.aa.n]
def Zj (s:Sq dD):ae:=.arr 75 3 s.n (fun i=>cK (s.get i))
def ZE (s:Sq iY):ae:=.arr 78 4 s.n (fun i=>e5 (s.get i))
end
def fZ:Nat→Bool:=fun i=>Nat.beq i 2||Nat.beq i 3||Nat.beq i 8||Nat.beq i 11||Nat.beq i 12||Nat.beq i 17||Nat.beq i 21||Nat.beq i 23
theorem TT:Fn 30:=⟨by kernel_rfl,by kernel_rfl⟩
abbrev nX (ax:ai):ae:=.arr 40 14 ax.2.1 (fun i=>bn (ax.2.2 i))
abbrev Dn (ax:ai):C:=.im (.sl 3 ax.3.1 (fun i=>bq (ax.3.2 i)))
abbrev rV (ax:ai):ae:=.arr 73 3 ax.3.1 (fun i=>bq (ax.3.2 i))
abbrev lW:jr:=(2,((.c (.rt 1 0 0)),[]))
abbrev tT (ax:ai):ae:=.box [(ci ax.1.1),(ci ax.1.2),(.sa 2 ax.2.1),(.sa 3 ax.3.1)]
abbrev zK (ax:ai):List ae:=[(tT ax),fO,(nX ax),(rV ax)]
theorem UN (L:LP) (QE:D→List ae→Prop) (t:ai) (h:(LC 43 [(zE t)] [] (.c (.sa 0 t.2.1)) [(nX t)]∧nd (Nat.beq t.2.1 t.2.1) ((LC 44 [(.c (Dn t))] [] (.c (.sa 0 t.3.1)) [(rV t)]∧nd (Nat.beq t.3.1 t.3.1) ((LC 43 [(zE t)] [] (.c (.sa 0 t.2.1)) [(nX t)]∧nd (Nat.beq t.2.1 t.2.1) ((LC 44 [(.c (Dn t))] [] (.c (.sa 0 t.3.1)) [(rV t)]∧nd (Nat.beq t.3.1 t.3.1) (L (aj 30 2) ⟨[dV,lW],(zK t),[]⟩))))))))):gL vT 30 fZ L QE [dU t] []:=Eq.mp (by kernel_rfl) h
abbrev mX:jr:=(2,.c (.rt 1 0 0),[])
abbrev Fi (ax:ai):List ae:=[YM ax,.box [.im (iI 0),.im (iI 0),.im (.v (.slice none 0 0)),.im (.v (.slice none 0 0))],bV ax.ins,j8 ax.aa]
def za (t:ai)  : VS:=⟨[kr,mX],(Fi t),[]⟩
theorem M2 (L:LP) (QE:D→List ae→Prop) (t:ai)  (h:L (aj 30 3) ⟨[dV,lW,(22,((.c (.sa 2 t.2.1)),[])),(23,((j2 t),[])),(24,((int 0),[]))],(zK t),[]⟩):dh vT 30 fZ L QE 2 (za t ):=Eq.mp (by kernel_rfl) h
def tf (t:ai) (k:Nat):VS:=⟨[kr,mX,(22,.c (.sa 2 t.ins.n),[]),(23,int t.ins.n,[]),(24,int k,[])],(Fi t),[]⟩
abbrev zv (ax:ai) (aX:Nat):D:=.c (.im (.sl 1 ((ax.2.2 aX).6.1) (fun i=>cg ((ax.2.2 aX).6.2 i))))
abbrev zk (ax:ai) (aX:Nat):D:=.c (.im (.sl 1 ((ax.2.2 aX).8.1) (fun i=>ff ((ax.2.2 aX).8.2 i))))
abbrev lD (ax:ai):jr:=(47,((.c (.sa 3 ax.3.1)),[]))
abbrev lQ (ax:ai):jr:=(48,((int (↑ax.3.1:Int)),[]))
theorem Gk (L:LP) (QE:D→List ae→Prop) (t:ai) (k:Nat) (h:br (decide ((↑k:Int)<(↑t.2.1:Int))) (nd (cC (↑k:Int) t.2.1) (nd (k.blt t.2.1) ((LC 45 [(zv t k)] [] (zv t k) []∧(LC 46 [(zk t k)] [] (zk t k) []∧nd (cC (↑k:Int) t.2.1) (nd (k.blt t.2.1) (nd (cC (↑k:Int) t.2.1) (nd (k.blt t.2.1) ((LC 45 [(zv t k)] [] (zv t k) []∧(LC 46 [(zk t k)] [] (zk t k) []∧nd (cC (↑k:Int) t.2.1) (nd (k.blt t.2.1) (nd (cC (↑k:Int) t.2.1) (nd (k.blt t.2.1) (L (aj 30 3) ⟨[dV,lW,(22,((.c (.sa 2 t.2.1)),[])),(23,((j2 t),[])),(24,((int (IntKind.i64.wrap ((↑k:Int)+1))),[]))],[(tT t),fO,(.arr 40 14 t.2.1 (fE (fE (fun i=>bn (t.2.2 i)) k 5 [bn (t.2.2 k) 5]) k 9 [bn (t.2.2 k) 9])),(rV t),(rn t k),.dead,.dead],[]⟩))))))))))))))) (L (aj 30 8) ⟨[dV,lW,(lD t),(lQ t),(49,((int 0),[]))],(zK t),[]⟩)):dh vT 30 fZ L QE 3 (tf t k):=Eq.mp (by kernel_rfl) h
abbrev uW (ax:ai):jr:=(47,.c (.sa 3 ax.aa.n),[])
abbrev vd (ax:ai):jr:=(48,int ax.aa.n,[])
def km (t:ai) (k:Nat):VS:=⟨[kr,mX,(uW t),(vd t),(49,int k,[])],(Fi t),[]⟩
abbrev CA (ax:ai) (aX:Nat):ae:=.arr 75 3 ((ax.3.2 aX).1.1) (fun i=>cK ((ax.3.2 aX).1.2 i))
abbrev BH (ax:ai) (aX:Nat):ae:=.arr 78 4 ((ax.3.2 aX).2.1) (fun i=>e5 ((ax.3.2 aX).2.2 i))
abbrev pg (ax:Nat):jr:=(49,((mS ax),[]))
theorem GH (L:LP) (QE:D→List ae→Prop) (t:ai) (k:Nat) (h:br (decide ((↑k:Int)<(↑t.3.1:Int))) (nd (cC (↑k:Int) t.3.1) (nd (k.blt t.3.1) ((LC 47 [(.c (.im (.sl 3 ((t.3.2 k).1.1) (fun i=>cK ((t.3.2 k).1.2 i)))))] [] (.c (.sa 0 ((t.3.2 k).1.1))) [(CA t k)]∧nd (Nat.beq (t.3.2 k).1.1 (t.3.2 k).1.1) ((LC 48 [(.c (.im (.sl 4 ((t.3.2 k).2.1) (fun i=>e5 ((t.3.2 k).2.2 i)))))] [] (.c (.sa 0 ((t.3.2 k).2.1))) [(BH t k)]∧nd (Nat.beq (t.3.2 k).2.1 (t.3.2 k).2.1) ((LC 47 [(.c (.im (.sl 3 ((t.3.2 k).1.1) (fun i=>cK ((t.3.2 k).1.2 i)))))] [] (.c (.sa 0 ((t.3.2 k).1.1))) [(CA t k)]∧nd (Nat.beq (t.3.2 k).1.1 (t.3.2 k).1.1) ((LC 48 [(.c (.im (.sl 4 ((t.3.2 k).2.1) (fun i=>e5 ((t.3.2 k).2.2 i)))))] [] (.c (.sa 0 ((t.3.2 k).2.1))) [(BH t k)]∧nd (Nat.beq (t.3.2 k).2.1 (t.3.2 k).2.1) (L (aj 30 11) ⟨[dV,lW,(oz k),(7,((.c (.sa 5 ((t.3.2 k).1.1))),[])),(8,((.c (.sa 6 ((t.3.2 k).2.1))),[])),(lD t),(lQ t),(pg k)],[(tT t),fO,(nX t),(rV t),(.box (lift (ba (t.3.2 k)))),(CA t k),(BH t k)],[]⟩))))))))))) (L (aj 30 23) ⟨[dV,lW,(lD t),(lQ t),(pg k),(50,((bool false),[]))],(zK t),[]⟩)):dh vT 30 fZ L QE 8 (km t k):=Eq.mp (by kernel_rfl) h
abbrev K6 (ax:ai) (aX:Nat):List ae:=[YM ax,.box [.im (iI 0),.im (iI 0),.im (.v (.slice none 0 0)),.im (.v (.slice none 0 0))],bV ax.ins,j8 ax.aa,Zj (ax.aa.get aX).frames,ZE (ax.aa.get aX).aC]
def tG (t:ai) (k:Nat):VS:=⟨[kr,mX,(uW t),(vd t),(49,int k,[]),(5,int k,[]),(7,.c (.sa 4 (t.aa.get k).frames.n),[]),(8,.c (.sa 5 (t.aa.get k).aC.n),[])],(K6 t k),[]⟩
abbrev uR (ax:ai) (aX:Nat):jr:=(7,((.c (.sa 4 ((ax.3.2 aX).1.1))),[]))
abbrev mw (ax:ai) (aX:Nat):D:=.c (.sa 5 ((ax.3.2 aX).2.1))
abbrev CT (ax:ai) (aX:Nat):List ae:=[(tT ax),fO,(nX ax),(rV ax),(CA ax aX),(BH ax aX)]
theorem Mz (L:LP) (QE:D→List ae→Prop) (t:ai) (k:Nat) (h:L (aj 30 12) ⟨[dV,lW,(oz k),(uR t k),(8,((mw t k),[])),(lD t),(lQ t),(pg k),(60,((.c (.sa 4 ((t.3.2 k).1.1))),[])),(61,((int ((↑(t.3.2 k).1.1:Int))),[])),(62,((int 0),[]))],(CT t k),[]⟩):dh vT 30 fZ L QE 11 (tG t k):=Eq.mp (by kernel_rfl) h
def qg (t:ai) (k j:Nat):VS:=⟨[kr,mX,(uW t),(vd t),(49,int k,[]),(5,int k,[]),(7,.c (.sa 4 (t.aa.get k).frames.n),[]),(8,.c (.sa 5 (t.aa.get k).aC.n),[]),(60,.c (.sa 4 (t.aa.get k).frames.n),[]),(61,int (t.aa.get k).frames.n,[]),(62,int j,[])],(K6 t k),[]⟩
theorem BN (L:LP) (QE:D→List ae→Prop) (t:ai) (k j:Nat) (h:br (decide ((↑j:Int)<(↑(t.3.2 k).1.1:Int))) (nd (cC (↑j:Int) (t.3.2 k).1.1) (nd (j.blt (t.3.2 k).1.1) ((LC 45 [(.c (.im (.sl 1 (((t.3.2 k).1.2 j).3.1) (fun i=>cg (((t.3.2 k).1.2 j).3.2 i)))))] [] (.c (.im (.sl 1 (((t.3.2 k).1.2 j).3.1) (fun i=>cg (((t.3.2 k).1.2 j).3.2 i))))) []∧nd (cC (↑j:Int) (t.3.2 k).1.1) (nd (j.blt (t.3.2 k).1.1) (L (aj 30 12) ⟨[dV,lW,(oz k),(uR t k),(8,((mw t k),[])),(lD t),(lQ t),(pg k),(60,((.c (.sa 4 ((t.3.2 k).1.1))),[])),(61,((int ((↑(t.3.2 k).1.1:Int))),[])),(62,((int (IntKind.i64.wrap ((↑j:Int)+1))),[]))],[(tT t),fO,(nX t),(rV t),(.arr 75 3 ((t.3.2 k).1.1) (fE (fun i=>cK ((t.3.2 k).1.2 i)) j 2 [cK ((t.3.2 k).1.2 j) 2])),(BH t k),(.box (lift (jb ((t.3.2 k).1.2 j))))],[]⟩)))))) (L (aj 30 17) ⟨[dV,lW,(oz k),(uR t k),(8,((mw t k),[])),(lD t),(lQ t),(pg k),(75,((mw t k),[])),(76,((int ((↑(t.3.2 k).2.1:Int))),[])),(77,((int 0),[]))],(CT t k),[]⟩)):dh vT 30 fZ L QE 12 (qg t k j):=Eq.mp (by kernel_rfl) h
def qc (t:ai) (k j:Nat):VS:=⟨[kr,mX,(uW t),(vd t),(49,int k,[]),(5,int k,[]),(7,.c (.sa 4 (t.aa.get k).frames.n),[]),(8,.c (.sa 5 (t.aa.get k).aC.n),[]),(75,.c (.sa 5 (t.aa.get k).aC.n),[]),(76,int (t.aa.get k).aC.n,[]),(77,int j,[])],(K6 t k),[]⟩
abbrev xX (ax:ai) (aX aN:Nat):D:=.c (.im (.sl 1 (((ax.3.2 aX).2.2 aN).3.1) (fun i=>ff (((ax.3.2 aX).2.2 aN).3.2 i))))
abbrev xZ (ax:ai) (aX aN:Nat):D:=.c (.im (.sl 1 (((ax.3.2 aX).2.2 aN).4.1) (fun i=>cg (((ax.3.2 aX).2.2 aN).4.2 i))))
theorem AB (L:LP) (QE:D→List ae→Prop) (t:ai) (k j:Nat) (h:br (decide ((↑j:Int)<(↑(t.3.2 k).2.1:Int))) (nd (cC (↑j:Int) (t.3.2 k).2.1) (nd (j.blt (t.3.2 k).2.1) ((LC 46 [(xX t k j)] [] (xX t k j) []∧(LC 45 [(xZ t k j)] [] (xZ t k j) []∧nd (cC (↑j:Int) (t.3.2 k).2.1) (nd (j.blt (t.3.2 k).2.1) (nd (cC (↑j:Int) (t.3.2 k).2.1) (nd (j.blt (t.3.2 k).2.1) ((LC 46 [(xX t k j)] [] (xX t k j) []∧(LC 45 [(xZ t k j)] [] (xZ t k j) []∧nd (cC (↑j:Int) (t.3.2 k).2.1) (nd (j.blt (t.3.2 k).2.1) (nd (cC (↑j:Int) (t.3.2 k).2.1) (nd (j.blt (t.3.2 k).2.1) (L (aj 30 17) ⟨[dV,lW,(oz k),(uR t k),(8,((mw t k),[])),(lD t),(lQ t),(pg k),(75,((mw t k),[])),(76,((int ((↑(t.3.2 k).2.1:Int))),[])),(77,((int (IntKind.i64.wrap ((↑j:Int)+1))),[]))],[(tT t),fO,(nX t),(rV t),(CA t k),(.arr 78 4 ((t.3.2 k).2.1) (fE (fE (fun i=>e5 ((t.3.2 k).2.2 i)) j 2 [e5 ((t.3.2 k).2.2 j) 2]) j 3 [e5 ((t.3.2 k).2.2 j) 3])),(.box (lift (lZ ((t.3.2 k).2.2 j)))),.dead,.dead],[]⟩))))))))))))))) (L (aj 30 21) ⟨[dV,lW,(oz k),(uR t k),(8,((mw t k),[])),(lD t),(lQ t),(pg k),(75,((mw t k),[])),(76,((int ((↑(t.3.2 k).2.1:Int))),[])),(77,((int (↑j:Int)),[])),(78,((bool false),[]))],(CT t k),[]⟩)):dh vT 30 fZ L QE 17 (qc t k j):=Eq.mp (by kernel_rfl) h
def vN (t:ai) (k:Nat):VS:=⟨[kr,mX,(uW t),(vd t),(49,int k,[]),(5,int k,[]),(7,eR 3 cK (t.aa.get k).frames,[]),(8,eR 4 e5 (t.aa.get k).aC,[])],(Fi t),[]⟩
theorem J4 (L:LP) (QE:D→List ae→Prop) (t:ai) (k:Nat) (h:nd (cC (↑k:Int) t.3.1) (nd (k.blt t.3.1) (nd (cC (↑k:Int) t.3.1) (nd (k.blt t.3.1) (nd (cC (↑k:Int) t.3.1) (nd (k.blt t.3.1) (nd (cC (↑k:Int) t.3.1) (nd (k.blt t.3.1) (L (aj 30 8) ⟨[dV,lW,(lD t),(lQ t),(49,((int (IntKind.i64.wrap ((↑k:Int)+1))),[]))],[(tT t),fO,(nX t),(.arr 73 3 t.3.1 (fE (fE (fun i=>bq (t.3.2 i)) k 0 [j7 3 cK (t.3.2 k).1]) k 1 [j7 4 e5 (t.3.2 k).2]))],[]⟩))))))))):dh vT 30 fZ L QE 21 (vN t k):=Eq.mp (by kernel_rfl) h
def tu (t:ai)  : VS:=⟨[kr,mX],[.box [.im (iI t.place.fn),.im (iI t.place.line),.sa 2 t.ins.n,.im (j7 3 bq t.aa)],.box [.im (iI 0),.im (iI 0),.im (.v (.slice none 0 0)),.im (.v (.slice none 0 0))],bV t.ins,.dead],[]⟩
theorem LA (L:LP) (QE:D→List ae→Prop) (t:ai)  (h:QE (.a [(ci t.1.1),(ci t.1.2),(.sa 2 t.2.1),(.im (.sl 3 t.3.1 (fun i=>bq (t.3.2 i))))]) [(.box [(ci t.1.1),(ci t.1.2),(.sa 2 t.2.1),(.im (.sl 3 t.3.1 (fun i=>bq (t.3.2 i))))]),(.box [(ci t.1.1),(ci t.1.2),(.sa 2 t.2.1),(.im (.sl 3 t.3.1 (fun i=>bq (t.3.2 i))))]),(.arr 40 14 t.2.1 (fun i=>bn (t.2.2 i))),.dead]):dh vT 30 fZ L QE 23 (tu t ):=Eq.mp (by kernel_rfl) h
theorem lM {get g:Nat→Nat→Go.V.I} (i c:Nat) (x:Go.V.I) (h:∀ a b,dP (get a b) (g a b)) (hx:dP x (g i c)):∀ a b,dP (fE get i c [x] a b) (g a b):=by
 intro a b
 unfold fE
 cases hb:(Nat.beq a i&&(Nat.ble c b&&Nat.blt b (c+[x].length))) with
 | false=>exact h a b
 | true=>
   simp only [cG] at hb
   have h1:=Nat.eq_of_beq_eq_true hb.1
   have h2:=aP hb.2.1
   have h3:b<c+1:=by simpa [cX] using hb.2.2
   have h4:b=c:=by omega
   subst h1
   subst h4
   show dP (bu [x] (b-b)) _
   rw [Nat.sub_self]
   exact hx
theorem IW (t:ai):ah 30 0 (Go.V.gg [] (.a [.im (iI t.place.fn),.im (iI t.place.line),.sa 0 t.ins.n,.im (j7 3 bq t.aa)]) [bV t.ins]) (aj 30 23) (tu t):=by
 refine aH (X:=vT) (stop:=fZ) (LA _ _ t ?_)
 exact ⟨[2],.a [.im (iI t.place.fn),.im (iI t.place.line),.sa 0 t.ins.n,.im (j7 3 bq t.aa)],_,_,rfl,(rc .nil),⟨1,aP rfl,aP rfl,rfl,rfl,bp.refl _,⟨rfl,trivial⟩⟩⟩
theorem JT (t:ai) (hS:ed t) (k:Nat) (hk:k<t.aa.n) (ih:ah 30 0 (Go.V.gg [] (.a [.im (iI t.place.fn),.im (iI t.place.line),.sa 0 t.ins.n,.im (j7 3 bq t.aa)]) [bV t.ins]) (aj 30 8) (km t (k+1))):ah 30 0 (Go.V.gg [] (.a [.im (iI t.place.fn),.im (iI t.place.line),.sa 0 t.ins.n,.im (j7 3 bq t.aa)]) [bV t.ins]) (aj 30 21) (vN t k):=by
 have hN:=hS.aa
 refine aH (X:=vT) (stop:=fZ) (J4 _ _ t k ?_)
 have hW:=cd hk (by unfold maxLen; omega:_≤maxLen)
 refine aA (by first|exact au hk|exact aK hk|exact cB _) ?_
 refine aA (by first|exact au hk|exact aK hk|exact cB _) ?_
 refine aA (by first|exact au hk|exact aK hk|exact cB _) ?_
 refine aA (by first|exact au hk|exact aK hk|exact cB _) ?_
 refine aA (by first|exact au hk|exact aK hk|exact cB _) ?_
 refine aA (by first|exact au hk|exact aK hk|exact cB _) ?_
 refine aA (by first|exact au hk|exact aK hk|exact cB _) ?_
 refine aA (by first|exact au hk|exact aK hk|exact cB _) ?_
 rw [hW]
 exact ah.le (km t (k+1)) (by repeat' (first|exact trivial|refine cR rfl ?_)) (rc (rc (rc (.cons (cw.arr fun a _ b _=>lM k 1 _ (lM k 0 _ (fun a b=>dP.refl _) (dP.refl _)) (dP.refl _) a b) .nil)))) rfl ih
theorem Ma (t:ai) (hS:ed t) (k:Nat) (hk:k<t.aa.n) (g:ah 30 0 (Go.V.gg [] (.a [.im (iI t.place.fn),.im (iI t.place.line),.sa 0 t.ins.n,.im (j7 3 bq t.aa)]) [bV t.ins]) (aj 30 8) (km t (k+1))):∀ j,j≤(t.aa.get k).aC.n→ah 30 0 (Go.V.gg [] (.a [.im (iI t.place.fn),.im (iI t.place.line),.sa 0 t.ins.n,.im (j7 3 bq t.aa)]) [bV t.ins]) (aj 30 17) (qc t k j):=by
 have hB:(t.aa.get k).aC.n≤1000:=(hS.ex k hk).aC
 refine bo (fun j hj ih=>?_) ?_
 ·refine aH (X:=vT) (stop:=fZ) (AB _ _ t k j ?_)
  refine ay (fun h0=>?_) (fun h=>(dec_lt h hj).elim)
  have hW:=cd hj (by unfold maxLen; omega:_≤maxLen)
  refine aA (by first|exact au hj|exact aK hj|exact cB _|exact au hk|exact aK hk) ?_
  refine aA (by first|exact au hj|exact aK hj|exact cB _|exact au hk|exact aK hk) ?_
  refine ⟨zw ((t.aa.get k).aC.get j).names ((hS.ex k hk).names j hj),?_⟩
  refine ⟨ux ((t.aa.get k).aC.get j).items ((hS.ex k hk).items j hj),?_⟩
  refine aA (by first|exact au hj|exact aK hj|exact cB _|exact au hk|exact aK hk) ?_
  refine aA (by first|exact au hj|exact aK hj|exact cB _|exact au hk|exact aK hk) ?_
  refine aA (by first|exact au hj|exact aK hj|exact cB _|exact au hk|exact aK hk) ?_
  refine aA (by first|exact au hj|exact aK hj|exact cB _|exact au hk|exact aK hk) ?_
  refine ⟨zw ((t.aa.get k).aC.get j).names ((hS.ex k hk).names j hj),?_⟩
  refine ⟨ux ((t.aa.get k).aC.get j).items ((hS.ex k hk).items j hj),?_⟩
  refine aA (by first|exact au hj|exact aK hj|exact cB _|exact au hk|exact aK hk) ?_
  refine aA (by first|exact au hj|exact aK hj|exact cB _|exact au hk|exact aK hk) ?_
  refine aA (by first|exact au hj|exact aK hj|exact cB _|exact au hk|exact aK hk) ?_
  refine aA (by first|exact au hj|exact aK hj|exact cB _|exact au hk|exact aK hk) ?_
  rw [hW]
  exact ah.rename [0,1,2,3,4,5] rfl (ah.le (qc t k (j+1)) (by repeat' (first|exact trivial|refine cR rfl ?_)) (rc (rc (rc (rc (rc (.cons (cw.arr fun a _ b _=>lM j 3 _ (lM j 2 _ (fun a b=>dP.refl _) (dP.refl _)) (dP.refl _) a b) .nil)))))) rfl ih)
 ·refine aH (X:=vT) (stop:=fZ) (AB _ _ t k _ ?_)
  refine ay (fun h=>cE h) (fun h=>?_)
  exact ah.freeze 4 rfl (ah.freeze 5 rfl (ah.rename [0,1,2,3] rfl (ah.le (vN t k) (by repeat' (first|exact trivial|refine cR rfl ?_)) (rc (rc (rc (rc .nil)))) rfl (JT t hS k hk g))))
theorem IH (t:ai) (hS:ed t) (k:Nat) (hk:k<t.aa.n) (g:ah 30 0 (Go.V.gg [] (.a [.im (iI t.place.fn),.im (iI t.place.line),.sa 0 t.ins.n,.im (j7 3 bq t.aa)]) [bV t.ins]) (aj 30 8) (km t (k+1))):∀ j,j≤(t.aa.get k).frames.n→ah 30 0 (Go.V.gg [] (.a [.im (iI t.place.fn),.im (iI t.place.line),.sa 0 t.ins.n,.im (j7 3 bq t.aa)]) [bV t.ins]) (aj 30 12) (qg t k j):=by
 have hB:(t.aa.get k).frames.n≤1000:=(hS.ex k hk).frames
 refine bo (fun j hj ih=>?_) ?_
 ·refine aH (X:=vT) (stop:=fZ) (BN _ _ t k j ?_)
  refine ay (fun h0=>?_) (fun h=>(dec_lt h hj).elim)
  have hW:=cd hj (by unfold maxLen; omega:_≤maxLen)
  refine aA (by first|exact au hj|exact aK hj|exact cB _|exact au hk|exact aK hk) ?_
  refine aA (by first|exact au hj|exact aK hj|exact cB _|exact au hk|exact aK hk) ?_
  refine ⟨ux ((t.aa.get k).frames.get j).vars ((hS.ex k hk).vars j hj),?_⟩
  refine aA (by first|exact au hj|exact aK hj|exact cB _|exact au hk|exact aK hk) ?_
  refine aA (by first|exact au hj|exact aK hj|exact cB _|exact au hk|exact aK hk) ?_
  rw [hW]
  exact ah.rename [0,1,2,3,4,5] rfl (ah.le (qg t k (j+1)) (by repeat' (first|exact trivial|refine cR rfl ?_)) (rc (rc (rc (rc (.cons (cw.arr fun a _ b _=>lM j 2 _ (fun a b=>dP.refl _) (dP.refl _) a b) (rc .nil)))))) rfl ih)
 ·refine aH (X:=vT) (stop:=fZ) (BN _ _ t k _ ?_)
  refine ay (fun h=>cE h) (fun h=>?_)
  exact ah.le (qc t k 0) (by repeat' (first|exact trivial|refine cR rfl ?_)) (rc (rc (rc (rc (rc (rc .nil)))))) rfl (Ma t hS k hk g 0 (bB _))
theorem Jy (t:ai) (hS:ed t) (k:Nat) (hk:k<t.aa.n) (g:ah 30 0 (Go.V.gg [] (.a [.im (iI t.place.fn),.im (iI t.place.line),.sa 0 t.ins.n,.im (j7 3 bq t.aa)]) [bV t.ins]) (aj 30 8) (km t (k+1))):ah 30 0 (Go.V.gg [] (.a [.im (iI t.place.fn),.im (iI t.place.line),.sa 0 t.ins.n,.im (j7 3 bq t.aa)]) [bV t.ins]) (aj 30 11) (tG t k):=by
 refine aH (X:=vT) (stop:=fZ) (Mz _ _ t k ?_)
 exact ah.le (qg t k 0) (by repeat' (first|exact trivial|refine cR rfl ?_)) (rc (rc (rc (rc (rc (rc .nil)))))) rfl (IH t hS k hk g 0 (bB _))
theorem Oe (t:ai) (hS:ed t)   : ∀ k,k≤t.aa.n→ah 30 0 (Go.V.gg [] (.a [.im (iI t.place.fn),.im (iI t.place.line),.sa 0 t.ins.n,.im (j7 3 bq t.aa)]) [bV t.ins]) (aj 30 8) (km t  k):=by
 have hB:t.aa.n≤1000:=hS.aa
 refine bo (fun k hk ih=>?_) ?_
 ·refine aH (X:=vT) (stop:=fZ) (GH _ _ t  k ?_)
  refine ay (fun h0=>?_) (fun h=>(dec_lt h hk).elim)
  have hW:=cd hk (by unfold maxLen; omega:_≤maxLen)
  refine aA (by first|exact au hk|exact aK hk|exact cB _|exact au hk|exact aK hk) ?_
  refine aA (by first|exact au hk|exact aK hk|exact cB _|exact au hk|exact aK hk) ?_
  refine ⟨IF (t.aa.get k).frames (hS.ex k hk).frames,?_⟩
  refine aA (by first|exact au hk|exact aK hk|exact cB _|exact au hk|exact aK hk) ?_
  refine ⟨JS (t.aa.get k).aC (hS.ex k hk).aC,?_⟩
  refine aA (by first|exact au hk|exact aK hk|exact cB _|exact au hk|exact aK hk) ?_
  refine ⟨IF (t.aa.get k).frames (hS.ex k hk).frames,?_⟩
  refine aA (by first|exact au hk|exact aK hk|exact cB _|exact au hk|exact aK hk) ?_
  refine ⟨JS (t.aa.get k).aC (hS.ex k hk).aC,?_⟩
  refine aA (by first|exact au hk|exact aK hk|exact cB _|exact au hk|exact aK hk) ?_
  exact ah.rename [0,1,2,3,5,6] rfl (ah.le (tG t k) (by repeat' (first|exact trivial|refine cR rfl ?_)) (rc (rc (rc (rc (rc (rc .nil)))))) rfl (Jy t hS k hk ih))
 ·refine aH (X:=vT) (stop:=fZ) (GH _ _ t  _ ?_)
  refine ay (fun h=>cE h) (fun h=>?_)
  exact ah.freeze 3 rfl (ah.le (tu t) (by repeat' (first|exact trivial|refine cR rfl ?_)) (rc (rc (rc (rc .nil)))) rfl (IW t))
theorem OH (t:ai) (hS:ed t)   : ∀ k,k≤t.ins.n→ah 30 0 (Go.V.gg [] (.a [.im (iI t.place.fn),.im (iI t.place.line),.sa 0 t.ins.n,.im (j7 3 bq t.aa)]) [bV t.ins]) (aj 30 3) (tf t  k):=by
 have hB:t.ins.n≤1000:=hS.ins
 refine bo (fun k hk ih=>?_) ?_
 ·refine aH (X:=vT) (stop:=fZ) (Gk _ _ t  k ?_)
  refine ay (fun h0=>?_) (fun h=>(dec_lt h hk).elim)
  have hW:=cd hk (by unfold maxLen; omega:_≤maxLen)
  refine aA (by first|exact au hk|exact aK hk|exact cB _|exact au hk|exact aK hk) ?_
  refine aA (by first|exact au hk|exact aK hk|exact cB _|exact au hk|exact aK hk) ?_
  refine ⟨ux (t.ins.get k).args (hS.args k hk),?_⟩
  refine ⟨zw (t.ins.get k).names (hS.names k hk),?_⟩
  refine aA (by first|exact au hk|exact aK hk|exact cB _|exact au hk|exact aK hk) ?_
  refine aA (by first|exact au hk|exact aK hk|exact cB _|exact au hk|exact aK hk) ?_
  refine aA (by first|exact au hk|exact aK hk|exact cB _|exact au hk|exact aK hk) ?_
  refine aA (by first|exact au hk|exact aK hk|exact cB _|exact au hk|exact aK hk) ?_
  refine ⟨ux (t.ins.get k).args (hS.args k hk),?_⟩
  refine ⟨zw (t.ins.get k).names (hS.names k hk),?_⟩
  refine aA (by first|exact au hk|exact aK hk|exact cB _|exact au hk|exact aK hk) ?_
  refine aA (by first|exact au hk|exact aK hk|exact cB _|exact au hk|exact aK hk) ?_
  refine aA (by first|exact au hk|exact aK hk|exact cB _|exact au hk|exact aK hk) ?_
  refine aA (by first|exact au hk|exact aK hk|exact cB _|exact au hk|exact aK hk) ?_
  rw [hW]
  exact ah.rename [0,1,2,3] rfl (ah.le (tf t (k+1)) (by repeat' (first|exact trivial|refine cR rfl ?_)) (rc (rc (.cons (cw.arr fun a _ b _=>lM k 9 _ (lM k 5 _ (fun a b=>dP.refl _) (dP.refl _)) (dP.refl _) a b) (rc .nil)))) rfl ih)
 ·refine aH (X:=vT) (stop:=fZ) (Gk _ _ t  _ ?_)
  refine ay (fun h=>cE h) (fun h=>?_)
  exact ah.le (km t 0) (by repeat' (first|exact trivial|refine cR rfl ?_)) (rc (rc (rc (rc .nil)))) rfl (Oe t hS 0 (bB _))
theorem Nj (t:ai) (hS:ed t):ah 30 0 (Go.V.gg [] (.a [.im (iI t.place.fn),.im (iI t.place.line),.sa 0 t.ins.n,.im (j7 3 bq t.aa)]) [bV t.ins]) (aj 30 2) (za t):=by
 refine aH (X:=vT) (stop:=fZ) (M2 _ _ t ?_)
 exact ah.le (tf t 0) (by repeat' (first|exact trivial|refine cR rfl ?_)) (rc (rc (rc (rc .nil)))) rfl (OH t hS 0 (bB _))
theorem Sa (t:ai) (hS:ed t):LC 30 [dU t] [] (.a [.im (iI t.place.fn),.im (iI t.place.line),.sa 0 t.ins.n,.im (j7 3 bq t.aa)]) [bV t.ins]:=by
 refine jC TT (aP (by kernel_rfl)) (fp (X:=vT) (stop:=fZ) (UN _ _ t ?_))
 refine ⟨Iv t.ins hS.ins,?_⟩
 refine aA (by exact cB _) ?_
 refine ⟨KJ t.aa hS.aa,?_⟩
 refine aA (by exact cB _) ?_
 refine ⟨Iv t.ins hS.ins,?_⟩
 refine aA (by exact cB _) ?_
 refine ⟨KJ t.aa hS.aa,?_⟩
 refine aA (by exact cB _) ?_
 exact ah.le (za t) (by repeat' (first|exact trivial|refine cR rfl ?_)) (rc (rc (rc (rc .nil)))) rfl (Nj t hS)
open Go Go.V
section
def YK:iZ:={ F:=ext If [(53,fun _ _=>(.c (.im (.v (.slice none 0 0))),[],[]))] }
def Td (t:ai) (q:Nat):D:=.a [.im (iI t.place.fn),.im (iI t.place.line),.sa q t.ins.n,.im (j7 3 bq t.aa)]
def Fz (k:Nat):D:=.a [ci 3,ci k,ci 0,ci 0,ci 0,.im (iS ⟨⟨[]⟩⟩)]
def bX:af:=⟨0,0,0,0,0,⟨0,fun _=>0⟩,⟨0,0,⟨⟨[]⟩⟩⟩,⟨0,fun _=>⟨⟨[]⟩⟩⟩,⟨0,0⟩,-1,false⟩
def YX (t:ai) (g:Nat→af):iZ:={ F:=ext If [(29,fun ds _=>(int (bW (fT ds 0)),[],[])),(30,fun _ rs=>(Td t rs.length,[],[bV t.ins])),(31,fun _ _=>(bool true,[(3,bV ⟨t.ins.n,g⟩)],[]))],S:=Lm }
end
def Qy:Nat→Bool:=cM
theorem UE:Fn 31:=⟨by kernel_rfl,by kernel_rfl⟩
theorem UT (L:LP) (QE:D→List ae→Prop) (t:ai) (k:Nat) (h:nd (cC (↑k:Int) t.2.1) (nd (k.blt t.2.1) (br ((t.2.2 k).1==1) (QE (bool false) [(.arr 40 14 t.2.1 (fun i=>bn (t.2.2 i))),(.box [(ci t.1.1),(ci t.1.2),(.sa 0 t.2.1),(.im (.sl 3 t.3.1 (fun i=>bq (t.3.2 i))))]),(.box [(ci 3),(ci (↑k:Int)),(ci 0),(ci 0),(ci 0),(.im (.v (.string ⟨⟨[]⟩⟩)))]),(.box (gk 0 0 0 0 0 (-1)))]) (nd (k.blt t.2.1) (br ((t.2.2 k).1==20) (QE (bool false) [(.arr 40 14 t.2.1 (fun i=>bn (t.2.2 i))),(.box [(ci t.1.1),(ci t.1.2),(.sa 0 t.2.1),(.im (.sl 3 t.3.1 (fun i=>bq (t.3.2 i))))]),(.box [(ci 3),(ci (↑k:Int)),(ci 0),(ci 0),(ci 0),(.im (.v (.string ⟨⟨[]⟩⟩)))]),(.box (gk 0 0 0 0 0 (-1)))]) (nd (k.blt t.2.1) (br ((t.2.2 k).1==21) (QE (bool false) [(.arr 40 14 t.2.1 (fun i=>bn (t.2.2 i))),(.box [(ci t.1.1),(ci t.1.2),(.sa 0 t.2.1),(.im (.sl 3 t.3.1 (fun i=>bq (t.3.2 i))))]),(.box [(ci 3),(ci (↑k:Int)),(ci 0),(ci 0),(ci 0),(.im (.v (.string ⟨⟨[]⟩⟩)))]),(.box (gk 0 0 0 0 0 (-1)))]) (nd (k.blt t.2.1) ((LC 51 [(int ((t.2.2 k).1))] [] (bool (cQ (t.2.2 k).1 [1,2,3,4,10,12,14,16,17])) []∧br (cQ (t.2.2 k).1 [1,2,3,4,10,12,14,16,17]) ((LC 53 [(.a (bk t)),(int (↑k:Int))] [] (.c dS) []∧nd (k.blt t.2.1) (QE (bool true) [(.arr 40 14 t.2.1 (fE (fun i=>bn (t.2.2 i)) k 0 [I.v (Value.int IntKind.i64 0),I.v (Value.int IntKind.i64 0),I.v (Value.int IntKind.i64 0),I.v (Value.int IntKind.i64 0),I.v (Value.int IntKind.i64 0),I.v (Value.slice none 0 0),I.v (Value.int IntKind.i64 0),I.v (Value.int IntKind.i64 0),I.v (Value.string { data:={ toList:=[] } }),I.v (Value.slice none 0 0),I.v (Value.int IntKind.i64 0),I.v (Value.int IntKind.i64 0),I.v (Value.int IntKind.i64 (-1)),I.v (Value.bool false)])),(.box [(ci t.1.1),(ci t.1.2),(.sa 0 t.2.1),(.im (.sl 3 t.3.1 (fun i=>bq (t.3.2 i))))]),(.box [(ci 3),(ci (↑k:Int)),(ci 0),(ci 0),(ci 0),(.im (.v (.string ⟨⟨[]⟩⟩)))]),(.box (gk 0 0 0 0 0 (-1)))]))) (nd (k.blt t.2.1) (QE (bool true) [(.arr 40 14 t.2.1 (fE (fun i=>bn (t.2.2 i)) k 0 [I.v (Value.int IntKind.i64 0),I.v (Value.int IntKind.i64 0),I.v (Value.int IntKind.i64 0),I.v (Value.int IntKind.i64 0),I.v (Value.int IntKind.i64 0),I.v (Value.slice none 0 0),I.v (Value.int IntKind.i64 0),I.v (Value.int IntKind.i64 0),I.v (Value.string { data:={ toList:=[] } }),I.v (Value.slice none 0 0),I.v (Value.int IntKind.i64 0),I.v (Value.int IntKind.i64 0),I.v (Value.int IntKind.i64 (-1)),I.v (Value.bool false)])),(.box [(ci t.1.1),(ci t.1.2),(.sa 0 t.2.1),(.im (.sl 3 t.3.1 (fun i=>bq (t.3.2 i))))]),(.box [(ci 3),(ci (↑k:Int)),(ci 0),(ci 0),(ci 0),(.im (.v (.string ⟨⟨[]⟩⟩)))]),(.box (gk 0 0 0 0 0 (-1)))])))))))))))):gL YK 31 Qy L QE [Td t 0,Fz k] [bV t.ins]:=Eq.mp (by kernel_rfl) h
theorem NL {get g:Nat→Nat→Go.V.I} (k m:Nat) (ys:List Go.V.I) (hl:ys.length=m) (h:∀ a,a≠k→∀ b,b<m→dP (get a b) (g a b)) (hk:∀ b,b<m→dP (bu ys b) (g k b)):∀ a b,b<m→dP (fE get k 0 ys a b) (g a b):=by
 intro a b hb
 unfold fE
 cases he:Nat.beq a k with
 | true=>
   have:=Nat.eq_of_beq_eq_true he
   subst this
   have h2:Nat.blt b (0+ys.length)=true:=aK (by omega)
   rw [h2]
   exact hk b hb
 | false=>exact h a (fun e=>by subst e; rw [cB] at he; cases he) b hb
theorem KW:∀ b,b<14→dP (bu [Go.V.I.v (Value.int IntKind.i64 0),Go.V.I.v (Value.int IntKind.i64 0),Go.V.I.v (Value.int IntKind.i64 0),Go.V.I.v (Value.int IntKind.i64 0),Go.V.I.v (Value.int IntKind.i64 0),Go.V.I.v (Value.slice none 0 0),Go.V.I.v (Value.int IntKind.i64 0),Go.V.I.v (Value.int IntKind.i64 0),Go.V.I.v (Value.string ⟨⟨[]⟩⟩),Go.V.I.v (Value.slice none 0 0),Go.V.I.v (Value.int IntKind.i64 0),Go.V.I.v (Value.int IntKind.i64 0),Go.V.I.v (Value.int IntKind.i64 (-1)),Go.V.I.v (Value.bool false)] b) (bn bX b)
 | 0,_=>dP.refl _
 | 1,_=>dP.refl _
 | 2,_=>dP.refl _
 | 3,_=>dP.refl _
 | 4,_=>dP.refl _
 | 5,_=>mv
 | 6,_=>dP.refl _
 | 7,_=>dP.refl _
 | 8,_=>dP.refl _
 | 9,_=>mv
 | 10,_=>dP.refl _
 | 11,_=>dP.refl _
 | 12,_=>dP.refl _
 | 13,_=>dP.refl _
 | n+14,h=>absurd h (by omega)
theorem RN (t:ai) (k:Nat) (hk:k<t.ins.n) (hN:t.ins.n≤1000) (ho:(t.ins.get k).op=11∨(t.ins.get k).op=13):LC 31 [Td t 0,Fz k] [bV t.ins] (bool true) [bV (fo t k bX).ins]:=by
 have hb:=aK hk
 have e1:∀ {n:Int},n≠11→n≠13→((t.ins.get k).op==n)=true→False:=fun {n} h1 h2 h=>by
  have:=eq_of_beq h
  omega
 refine jC UE (aP (by kernel_rfl)) (fp (X:=YK) (stop:=Qy) (UT _ _ t k ?_))
 refine aA (au hk) (aA hb (ay (fun h=>(e1 (by decide) (by decide) h).elim) fun _=>?_))
 refine aA hb (ay (fun h=>(e1 (by decide) (by decide) h).elim) fun _=>?_)
 refine aA hb (ay (fun h=>(e1 (by decide) (by decide) h).elim) fun _=>?_)
 refine aA hb ⟨zF (t.ins.get k).op,ay (fun h=>?_) (fun h=>aA hb ?_)⟩
 ·rcases ho with h1|h1<;>rw [show (t.2.2 k).1=_ from h1] at h<;>exact absurd h (by decide)
 ·exact ⟨[0],bool true,_,_,rfl,(.cons (cw.arr fun a _ b hb=>NL (g:=fun i=>bn ((fo t k bX).ins.get i)) k 14 _ rfl (fun a ha b _=>by show dP (bn (t.ins.get a) b) (bn (bif Nat.beq a k then bX else t.ins.get a) b); rw [zr ha]; exact dP.refl _) (fun b hb=>by show dP _ (bn (bif Nat.beq k k then bX else t.ins.get k) b); rw [cB]; exact KW b hb) a b hb) .nil),⟨1,aP rfl,aP rfl,rfl,rfl,bp.refl _,⟨.inr rfl,trivial⟩⟩⟩
def U4:Nat→Bool:=cM
theorem XS:Fn 9:=⟨by kernel_rfl,by kernel_rfl⟩
abbrev I3:D:=.t [(.true,[(ci 0),(ci 0),(.im (.v (.slice .none 0 0))),(.im (.v (.slice .none 0 0)))]),(.false,[(ci 1)])]
abbrev uf (ax:Nat):List C:=[(ci 3),(ci (↑ax:Int)),(ci 0),(ci 0),(ci 0),da]
abbrev GA (ax:ai):List C:=[(ci ax.1.1),(ci ax.1.2),(.sa 3 ax.2.1),(Dn ax)]
theorem XV (L:LP) (QD:D→Prop) (t:ai) (g:Nat→af) (k:Nat) (h:(LC 29 [(.a (bk t))] [] (int (bW t)) []∧br (bW t != 0) (QD (.t [(.true,[(ci 0),(ci 0),(.im (.v (.slice .none 0 0))),(.im (.v (.slice .none 0 0)))]),(.false,[(ci 31)])])) (br (decide ((↑k:Int)≥(↑t.2.1:Int))) (QD I3) ((LC 30 [(.a (bk t))] [(.box (bk t)),(.box (uf k)),fO] (.a (GA t)) [(.box (bk t)),(.box (uf k)),fO,(nX t)]∧(LC 31 [(.a (GA t)),(.a (uf k))] [(.box (bk t)),(.box (uf k)),fO,(nX t),(.box (GA t))] (bool true) [(.box (bk t)),(.box (uf k)),fO,(.arr 40 14 t.2.1 (fun i=>bn (g i))),(.box (GA t))]∧(LC 29 [(.a (lift (bS ({ place:=t.1,ins:={ n:=t.2.1,get:=fun i=>g i },aa:=t.3 }))))] [] (int (bW { place:=t.1,ins:={ n:=t.2.1,get:=fun i=>g i },aa:=t.3 })) []∧br (bW { place:=t.1,ins:={ n:=t.2.1,get:=fun i=>g i },aa:=t.3 }!=0) (QD I3) (QD (.t [(.true,(lift (bS ({ place:=t.1,ins:={ n:=t.2.1,get:=fun i=>g i },aa:=t.3 })))),(.false,[(ci 0)])]))))))))):gL (YX t g) 9 U4 L (bF QD) [dU t,Fz k] []:=Eq.mp (by kernel_rfl) h
theorem ui {t:ai} (hS:ed t) (k:Nat):ed (fo t k bX):=by
 refine ⟨hS.ins,hS.aa,fun i hi=>?_,fun i hi=>?_,fun i hi=>?_,hS.ex⟩
 ·show (bif Nat.beq i k then bX else t.ins.get i).args.n≤1000
  cases Nat.beq i k with
  | true=>exact bB _
  | false=>exact hS.args i hi
 ·show (bif Nat.beq i k then bX else t.ins.get i).names.n≤1000
  cases Nat.beq i k with
  | true=>exact bB _
  | false=>exact hS.names i hi
 ·show (bif Nat.beq i k then bX else t.ins.get i).k.s.size≤1000
  cases Nat.beq i k with
  | true=>exact bB _
  | false=>exact hS.str i hi
theorem UF (t:ai) (k:Nat) (hS:ed t) (hk:k<t.ins.n) (ho:(t.ins.get k).op=11∨(t.ins.get k).op=13) (h0:bW t=0) (h1:bW (fo t k bX)=0):LC 9 [dU t,Fz k] [] (.t [(true,lift (bS (fo t k bX))),(false,[ci 0])]) []:=by
 have hN:=hS.ins
 refine bw (X:=YX t (fo t k bX).ins.get) (stop:=U4) XS (aP (by kernel_rfl)) (XV _ _ t _ k ⟨Me t hS,ay (fun h=>?_) (fun _=>ay (fun h=>?_) (fun _=>⟨cl.zp (Sa t hS) [] _ rfl rfl,cl.zp (RN t k hk hN ho) [3] _ rfl ⟨rfl,aP rfl,rfl⟩,Me _ (ui hS k),ay (fun h=>?_) (fun _=>?_)⟩))⟩)
 ·rw [h0] at h; exact absurd h (by decide)
 ·have h:=of_decide_eq_true h
  omega
 ·have h:(bW (fo t k bX)!=0)=true:=h
  rw [h1] at h; exact absurd h (by decide)
 ·exact bp.refl _
open Go Go.V
section
def CB (t:ai) (k:Nat):Bool:=(t.ins.get k).op==11||(t.ins.get k).op==13
def gE (t:ai):Nat→Sq Int
 | 0=>cx 0
 | k+1=>bif CB t k then cW (gE t k) ⟨1,fun _=>(k:Int)⟩ else gE t k
def uT (t:ai) (g:Nat→af):ai:=⟨t.place,⟨t.ins.n,g⟩,t.aa⟩
def X4 (t:ai) (g:Nat→af):iZ:={ F:=ext If [(5,fun _ _=>(bool true,[],[])),(6,fun _ _=>(dU t,[],[])),(9,fun _ _=>(.t [(true,lift (bS (uT t g))),(false,[ci 0])],[],[])),(10,fun ds _=>(eR 1 eB (gM (fT ds 0)),[],[]))],S:=Lm }
end
def sM:Nat→Bool:=fun i=>Nat.beq i 5||Nat.beq i 12||Nat.beq i 13||Nat.beq i 17
theorem WU:Fn 4:=⟨by kernel_rfl,by kernel_rfl⟩
abbrev tY (ax:Int):jr:=(1,((.c (.im (.v (.int .u8 ax)))),[]))
abbrev lG:jr:=(5,((bool true),[]))
abbrev rj:jr:=(6,((.c (.rt 0 0 0)),[]))
theorem WY (L:LP) (QD:D→Prop) (l:Sq Int) (w:Int) (t:ai) (g:Nat→af) (h:(LC 5 [] [] (bool true) []∧(LC 6 [(nY l)] [] (.a (bk t)) []∧L (aj 4 5) ⟨[(tY w),lG,rj,(7,((.c dS),[])),(19,((zE t),[])),(20,((j2 t),[])),(21,((int 0),[]))],[(.box (bk t))],[]⟩))):gL (X4 t g) 4 sM L (bF QD) [eR 1 cg l,.c (.im (.v (.int .u8 w)))] []:=Eq.mp (by kernel_rfl) h
def vO (l:Sq Int) (w:Int) (t:ai) (g:Nat→af) (s:Sq Int) (k:Nat):VS:=⟨[(1,.c (.im (.v (.int .u8 w))),[]),(5,bool true,[]),(6,.c (.rt 0 0 0),[]),(7,.c (.sa 1 s.n),[]),(19,eR 14 bn t.ins,[]),(20,int t.ins.n,[]),(21,int k,[])],[.box (lift (bS t)),.arr 3 1 s.n (fun i=>cg (s.get i))],[]⟩
theorem Mr (L:LP) (QD:D→Prop) (l:Sq Int) (w:Int) (t:ai) (g:Nat→af) (s:Sq Int) (k:Nat) (h:br (decide ((↑k:Int)<(↑t.2.1:Int))) (nd (cC (↑k:Int) t.2.1) (br ((t.2.2 k).1==11) (nd (dX (s.1+1) 8) (nd (s.1.beq s.1) (L (aj 4 5) ⟨[(tY w),lG,rj,(7,((.c (.sa 4 (.succ s.1))),[])),(19,((zE t),[])),(20,((j2 t),[])),(21,((int (IntKind.i64.wrap ((↑k:Int)+1))),[]))],[(.box (bk t)),.dead,(rn t k),(zn k),(E5 s k)],[]⟩))) (br ((t.2.2 k).1==13) (nd (dX (s.1+1) 8) (nd (s.1.beq s.1) (L (aj 4 5) ⟨[(tY w),lG,rj,(7,((.c (.sa 4 (.succ s.1))),[])),(19,((zE t),[])),(20,((j2 t),[])),(21,((int (IntKind.i64.wrap ((↑k:Int)+1))),[]))],[(.box (bk t)),.dead,(rn t k),(zn k),(E5 s k)],[]⟩))) (L (aj 4 5) ⟨[(tY w),lG,rj,(7,((.c (.sa 1 s.1)),[])),(19,((zE t),[])),(20,((j2 t),[])),(21,((int (IntKind.i64.wrap ((↑k:Int)+1))),[]))],[(.box (bk t)),(k8 s),(rn t k)],[]⟩)))) (br ((↑s.1:Int)==0) (QD (bool true)) (L (aj 4 12) ⟨[(tY w),lG,rj,(7,((.c (.sa 1 s.1)),[])),(41,((bool false),[]))],[(.box (bk t)),(k8 s)],[]⟩))):dh (X4 t g) 4 sM L (bF QD) 5 (vO l w t g s k):=Eq.mp (by kernel_rfl) h
def xN (l:Sq Int) (w:Int) (t:ai) (g:Nat→af) (s:Sq Int):VS:=⟨[(1,.c (.im (.v (.int .u8 w))),[]),(5,bool true,[]),(6,.c (.rt 0 0 0),[]),(7,.c (.sa 1 s.n),[])],[.box (lift (bS t)),.arr 3 1 s.n (fun i=>cg (s.get i))],[]⟩
theorem N6 (L:LP) (QD:D→Prop) (l:Sq Int) (w:Int) (t:ai) (g:Nat→af) (s:Sq Int) (h:nd (!(↑s.1:Int)==0) (nd (cC ((IntKind.i64.wrap w).tmod (↑s.1:Int)) s.1) (nd (((IntKind.i64.wrap w).tmod (↑s.1:Int)).toNat.blt s.1) ((LC 9 [(.a (bk t)),(.a [(ci 3),(ci (s.2 ((IntKind.i64.wrap w).tmod (↑s.1:Int)).toNat)),(ci 0),(ci 0),(ci 0),da])] [] (.t [(.true,(lift (bS (uT t g)))),(.false,[(ci 0)])]) []∧nd (!(↑s.1:Int)==0) (nd (cC ((IntKind.i64.wrap w).tmod (↑s.1:Int)) s.1) (nd (((IntKind.i64.wrap w).tmod (↑s.1:Int)).toNat.blt s.1) ((LC 9 [(.a (bk t)),(.a [(ci 3),(ci (s.2 ((IntKind.i64.wrap w).tmod (↑s.1:Int)).toNat)),(ci 0),(ci 0),(ci 0),da])] [] (.t [(.true,(lift (bS (uT t g)))),(.false,[(ci 0)])]) []∧L (aj 4 13) ⟨[lG,rj,(10,((.c (.rt 3 0 0)),[])),(11,((int 0),[]))],[(.box (bk t)),(k8 s),.dead,(.box (lift (bS (uT t g))))],[]⟩))))))))):dh (X4 t g) 4 sM L (bF QD) 12 (xN l w t g s):=Eq.mp (by kernel_rfl) h
def zq (l:Sq Int) (w:Int) (t:ai) (g:Nat→af)  : VS:=⟨[(5,bool true,[]),(6,.c (.rt 0 0 0),[]),(10,.c (.rt 1 0 0),[]),(11,int 0,[])],[.box (lift (bS t)),.box (lift (bS (uT t g)))],[]⟩
theorem NZ (L:LP) (QD:D→Prop) (l:Sq Int) (w:Int) (t:ai) (g:Nat→af)  (h:(LC 10 [(.a (bk t))] [] (.c (.im (.sl 1 ((gM t).1) (fun i=>eB ((gM t).2 i))))) []∧(LC 10 [(.a (lift (bS (uT t g))))] [] (.c (.im (.sl 1 ((gM (uT t g)).1) (fun i=>eB ((gM (uT t g)).2 i))))) []∧br ((↑(gM t).1:Int)!=(↑t.2.1:Int)) (QD (bool false)) (br ((↑(gM (uT t g)).1:Int)!=(↑(gM t).1:Int)) (QD (bool false)) (L (aj 4 17) ⟨[lG,(12,((.c (.im (.sl 1 ((gM t).1) (fun i=>eB ((gM t).2 i))))),[])),(13,((.c (.im (.sl 1 ((gM (uT t g)).1) (fun i=>eB ((gM (uT t g)).2 i))))),[])),(79,((int ((↑(gM t).1:Int))),[])),(80,((int 0),[]))],[(.box (bk t)),(.box (lift (bS (uT t g)))),.dead,.dead],[]⟩))))):dh (X4 t g) 4 sM L (bF QD) 13 (zq l w t g ):=Eq.mp (by kernel_rfl) h
def zO (l:Sq Int) (w:Int) (t:ai) (g:Nat→af) (v x:Sq Bool) (k:Nat):VS:=⟨[(5,bool true,[]),(12,eR 1 eB v,[]),(13,eR 1 eB x,[]),(79,int v.n,[]),(80,int k,[])],[],[]⟩
abbrev zH (ax:Sq Bool):D:=.c (.im (.sl 1 ax.1 (fun i=>eB (ax.2 i))))
theorem FM (L:LP) (QD:D→Prop) (l:Sq Int) (w:Int) (t:ai) (g:Nat→af) (v x:Sq Bool) (k:Nat) (h:br (decide ((↑k:Int)<(↑v.1:Int))) (nd (cC (↑k:Int) v.1) (br (v.2 k) (nd (cC (↑k:Int) x.1) (br (!x.2 k) (QD (bool false)) (L (aj 4 17) ⟨[lG,(12,((zH v),[])),(13,((zH x),[])),(79,((int (↑v.1:Int)),[])),(80,((int (IntKind.i64.wrap ((↑k:Int)+1))),[]))],[],[]⟩))) (L (aj 4 17) ⟨[lG,(12,((zH v),[])),(13,((zH x),[])),(79,((int (↑v.1:Int)),[])),(80,((int (IntKind.i64.wrap ((↑k:Int)+1))),[]))],[],[]⟩))) (QD (bool true))):dh (X4 t g) 4 sM L (bF QD) 17 (zO l w t g v x k):=Eq.mp (by kernel_rfl) h
structure HK (t:ai):Prop where
 small:ed t
 eq:bW t=jH t
 ok:bW t=0
 n:(gM t).n=t.ins.n
 drop:∀ k,k<t.ins.n→CB t k=true→bW (fo t k bX)=0∧bW (fo t k bX)=jH (fo t k bX)∧(gM (fo t k bX)).n=t.ins.n∧∀ i,i<t.ins.n→(gM t).get i=true→(gM (fo t k bX)).get i=true
theorem Pz (l:Sq Int) (w:Int) (t:ai) (g:Nat→af) (v x:Sq Bool) (hn:x.n=v.n) (hv:∀ i,i<v.n→v.get i=true→x.get i=true) (hx:v.n≤maxLen):∀ k,k≤v.n→ah 4 0 (cf (bool true)) (aj 4 17) (zO l w t g v x k):=by
 refine bo (fun k hk ih=>?_) ?_
 ·refine bD (X:=X4 t g) (stop:=sM) (FM _ _ l w t g v x k ?_)
  refine ay (fun h=>?_) (fun h=>(dec_lt h hk).elim)
  rw [cd hk hx]
  refine aA (au hk) (ay (fun h1=>aA (au (by omega)) (ay (fun h2=>?_) (fun h2=>ih))) (fun h1=>ih))
  rw [show x.2 k=true from hv k hk h1] at h2
  exact Bool.noConfusion h2
 ·refine bD (X:=X4 t g) (stop:=sM) (FM _ _ l w t g v x _ ?_)
  exact ay (fun h=>cE h) (fun h=>bp.refl _)
theorem N4 (l:Sq Int) (w:Int) (t:ai) (hM:HK t) (k:Nat) (hk:k<t.ins.n) (hs:CB t k=true):ah 4 0 (cf (bool true)) (aj 4 13) (zq l w t (fo t k bX).ins.get):=by
 obtain ⟨h1,h2,h3,h4⟩:=hM.drop k hk hs
 have hN:=hM.small.ins
 have hn:=hM.n
 refine bD (X:=X4 t (fo t k bX).ins.get) (stop:=sM) (NZ _ _ l w t _ ⟨L0 t hM.small hM.eq,L0 (fo t k bX) (ui hM.small k) h2,ay (fun h=>?_) (fun _=>ay (fun h=>?_) (fun _=>?_))⟩)
 ·rw [hn] at h; simp at h
 ·have h:(((gM (fo t k bX)).n:Int)!=((gM t).n:Int))=true:=h
  rw [h3,hn] at h; simp at h
 ·exact ah.rename [] rfl (ah.le (zO l w t (fo t k bX).ins.get (gM t) (gM (fo t k bX)) 0) (by repeat' (first|exact trivial|refine cR rfl ?_)) .nil rfl (Pz l w t _ _ _ (by rw [h3,hn]) (fun i hi=>h4 i (by omega)) (by unfold maxLen; omega) 0 (bB _)))
theorem yF (t:ai):∀ m,(gE t m).n≤m∧∀ i,i<(gE t m).n→∃ k:Nat,(gE t m).get i=(k:Int)∧k<m∧CB t k=true
 | 0=>⟨bf _,fun i hi=>absurd hi (Nat.not_lt_zero i)⟩
 | m+1=>by
   obtain ⟨h1,h2⟩:=yF t m
   unfold gE
   cases hb:CB t m with
   | false=>
     refine ⟨Nat.le_succ_of_le h1,fun i hi=>?_⟩
     obtain ⟨k,q1,q2,q3⟩:=h2 i hi
     exact ⟨k,q1,by omega,q3⟩
   | true=>
     refine ⟨Nat.succ_le_succ h1,fun i hi=>?_⟩
     have hi:i<(gE t m).n+1:=hi
     show ∃ k:Nat,(Bool.rec (m:Int) ((gE t m).get i) (Nat.blt i (gE t m).n):Int)=(k:Int)∧_
     cases hl:Nat.blt i (gE t m).n with
     | true=>
       obtain ⟨k,q1,q2,q3⟩:=h2 i (by simpa [cX] using hl)
       exact ⟨k,q1,by omega,q3⟩
     | false=>exact ⟨m,rfl,Nat.lt_succ_self m,hb⟩
theorem Tn {w:Int} {n:Nat} (h0:0≤w) (h1:w≤255) (hn:0<n):∃ i:Nat,(IntKind.i64.wrap w).tmod (n:Int)=(i:Int)∧i<n:=by
 rw [fR h0 (by omega)]
 have a1:=Int.tmod_lt_of_pos w (show (0:Int)<n by omega)
 have a2:=Int.tmod_nonneg (n:Int) h0
 obtain ⟨i,hi⟩:=Int.eq_ofNat_of_zero_le a2
 exact ⟨i,hi,by omega⟩
theorem OI (l:Sq Int) (w:Int) (h0:0≤w) (h1:w≤255) (t:ai) (hM:HK t) (s:Sq Int) (hn:0<s.n) (hs:∀ i,i<s.n→∃ k:Nat,s.get i=(k:Int)∧k<t.ins.n∧CB t k=true):∃ g:Nat→af,ah 4 0 (cf (bool true)) (aj 4 12) (xN l w t g s):=by
 obtain ⟨i,hi,hin⟩:=Tn h0 h1 hn
 obtain ⟨k,hk,Ij,Ib⟩:=hs i hin
 have ho:(t.ins.get k).op=11∨(t.ins.get k).op=13:=by
  unfold CB at Ib
  simpa using Ib
 have hc:LC 9 [.a (lift (bS t)),.a [.im (.v (.int .i64 3)),.im (.v (.int .i64 (s.2 (((IntKind.i64.wrap w).tmod (s.1:Int)).toNat)))),.im (.v (.int .i64 0)),.im (.v (.int .i64 0)),.im (.v (.int .i64 0)),.im (.v (.string ⟨⟨[]⟩⟩))]] [] (.t [(true,lift (bS (uT t (fo t k bX).ins.get))),(false,[.im (.v (.int .i64 0))])]) []:=by
  have iq:(IntKind.i64.wrap w).tmod (s.1:Int)=(i:Int):=hi
  rw [iq,Int.toNat_natCast,show s.2 i=(k:Int) from hk]
  exact UF t k hM.small Ij ho hM.ok (hM.drop k Ij Ib).1
 have e1:(!((s.1:Int)==0))=true:=by
  have:((s.1:Int)==0)=false:=beq_false_of_ne (by have:0<s.1:=hn; omega)
  rw [this]; rfl
 have e2:cC ((IntKind.i64.wrap w).tmod (s.1:Int)) s.1=true:=by
  have iq:(IntKind.i64.wrap w).tmod (s.1:Int)=(i:Int):=hi
  rw [iq]; exact au hin
 have e3:((IntKind.i64.wrap w).tmod (s.1:Int)).toNat.blt s.1=true:=by
  have iq:(IntKind.i64.wrap w).tmod (s.1:Int)=(i:Int):=hi
  rw [iq]; exact aK hin
 refine ⟨(fo t k bX).ins.get,bD (X:=X4 t (fo t k bX).ins.get) (stop:=sM) (N6 _ _ l w t _ s ?_)⟩
 refine aA e1 (aA e2 (aA e3 ⟨hc,aA e1 (aA e2 (aA e3 ⟨hc,?_⟩))⟩))
 exact ah.rename [0,3] rfl (ah.le (zq l w t (fo t k bX).ins.get) (by repeat' (first|exact trivial|refine cR rfl ?_)) (rc (rc .nil)) rfl (N4 l w t hM k Ij Ib))
theorem Tr (l:Sq Int) (w:Int) (h0:0≤w) (h1:w≤255) (t:ai) (hM:HK t):∀ k,k≤t.ins.n→ah 4 0 (cf (bool true)) (aj 4 5) (vO l w t t.ins.get (gE t k) k):=by
 have hN:=hM.small.ins
 refine bo (fun k hk ih=>?_) ?_
 ·have hq:=(yF t k).1
  refine bD (X:=X4 t t.ins.get) (stop:=sM) (Mr _ _ l w t _ (gE t k) k ?_)
  refine ay (fun h=>?_) (fun h=>(dec_lt h hk).elim)
  rw [cd hk (by unfold maxLen; omega)]
  have yes:CB t k=true→ah 4 0 (cf (bool true)) (aj 4 5) ⟨[(1,.c (.im (.v (.int .u8 w))),[]),(5,bool true,[]),(6,.c (.rt 0 0 0),[]),(7,.c (.sa 4 ((gE t k).n+1)),[]),(19,eR 14 bn t.ins,[]),(20,int t.ins.n,[]),(21,int ((k+1:Nat):Int),[])],[.box (lift (bS t)),.dead,.box (lift (aT (t.ins.get k))),.row 3 1 1 [.im (.v (.int .i64 (k:Int)))],.arr 3 1 ((gE t k).n+1) (j0 (gE t k).n (fun i=>cg ((gE t k).get i)) (flat 1 [Go.V.I.v (Value.int IntKind.i64 (k:Int))]))],[]⟩:=fun hb=>by
   have e:gE t (k+1)=cW (gE t k) ⟨1,fun _=>(k:Int)⟩:=by
    show (bif CB t k then cW (gE t k) ⟨1,fun _=>(k:Int)⟩ else gE t k)=_
    rw [hb]; rfl
   rw [e] at ih
   exact ah.rename [0,4] rfl (ah.le (vO l w t t.ins.get (cW (gE t k) ⟨1,fun _=>(k:Int)⟩) (k+1)) (by repeat' (first|exact trivial|refine cR rfl ?_)) (rc (.cons (uv _ _) .nil)) rfl ih)
  refine aA (au hk) (ay (fun ha=>?_) (fun ha=>ay (fun hb=>?_) (fun hb=>?_)))
  ·exact aA (ez (by omega) (by omega)) (aA (cB _) (yes (by unfold CB; rw [show ((t.ins.get k).op==11)=true from ha]; rfl)))
  ·exact aA (ez (by omega) (by omega)) (aA (cB _) (yes (by unfold CB; rw [show ((t.ins.get k).op==13)=true from hb,Bool.or_true])))
  ·have e:gE t (k+1)=gE t k:=by
    show (bif CB t k then cW (gE t k) ⟨1,fun _=>(k:Int)⟩ else gE t k)=_
    rw [show CB t k=false from by unfold CB; rw [show ((t.ins.get k).op==11)=false from ha,show ((t.ins.get k).op==13)=false from hb]; rfl]; rfl
   rw [e] at ih
   exact ah.rename [0,1] rfl (ah.le (vO l w t t.ins.get (gE t k) (k+1)) (by repeat' (first|exact trivial|refine cR rfl ?_)) (rc (rc .nil)) rfl ih)
 ·refine bD (X:=X4 t t.ins.get) (stop:=sM) (Mr _ _ l w t _ (gE t t.ins.n) _ ?_)
  refine ay (fun h=>cE h) (fun h=>ay (fun _=>bp.refl _) (fun h2=>?_))
  have hn:0<(gE t t.ins.n).n:=by
   have h2:(((gE t t.ins.n).n:Int)==0)=false:=h2
   have:=ne_of_beq_false h2
   omega
  obtain ⟨g,hg⟩:=OI l w h0 h1 t hM (gE t t.ins.n) hn (yF t t.ins.n).2
  exact ah.le (xN l w t g (gE t t.ins.n)) (by repeat' (first|exact trivial|refine cR rfl ?_)) (rc (rc .nil)) rfl hg
theorem Cg (l:Sq Int) (w:Int) (h0:0≤w) (h1:w≤255) (t:ai) (hM:HK t) (hm:LC 6 [eR 1 cg l] [] (dU t) []):LC 4 [eR 1 cg l,.c (.im (.v (.int .u8 w)))] [] (bool true) []:=by
 refine bw (X:=X4 t t.ins.get) (stop:=sM) WU (aP (by kernel_rfl)) (WY _ _ l w t _ ⟨XQ,hm,?_⟩)
 exact ah.Fx 7 3 1 rfl (ah.le (vO l w t t.ins.get (gE t 0) 0) (by repeat' (first|exact trivial|refine cR rfl ?_)) (rc (.cons (ra 3 1 _ _) .nil)) rfl (Tr l w h0 h1 t hM 0 (bB _)))
open Go Go.V
def fX (ins:Sq af) (v:Int) (k:Nat):Prop:=∃ i:Nat,v=(i:Int)∧i<k∧oy (ins.get i).op=true∧((ins.get i).op==17)=false
structure IV (ins:Sq af) (e:ag) (k:Nat):Prop where
 f0:1≤e.frames.n
 f6:e.frames.n≤6
 back:0≤e.back
 aC:e.aC.n=0
 fr:∀ j,j<e.frames.n→0≤(e.frames.get j).fn∧0≤(e.frames.get j).line∧(e.frames.get j).vars.n≤24∧∀ i,i<(e.frames.get j).vars.n→(e.frames.get j).vars.get i = -1∨fX ins ((e.frames.get j).vars.get i) k
structure Sc (ins:Sq af) (ex:Sq ag) (P k:Nat):Prop where
 Cx:k<P→(ins.get k).op=1∧(ins.get k).k.n=(k:Int)
 L3:P≤k→(ins.get k).op≠1
 VE:aO (ins.get k)=true
 use:∀ j,j<(aR (ins.get k)).n→fX ins ((aR (ins.get k)).get j) k
 once:(ins.get k).once=false
 Yk:((ins.get k).exit = -1∧eX (ins.get k).op≠2)∨∃ e:Nat,(ins.get k).exit=(e:Int)∧e<ex.n∧eX (ins.get k).op≠0∧IV ins (ex.get e) k∧∀ j,j<k→(ins.get j).exit≠(e:Int)
structure gQ (t:ai) (P:Nat):Prop where
 n200:t.ins.n≤200
 YR:t.aa.n≤60
 n0:0<t.ins.n
 fn:0≤t.place.fn
 line:0≤t.place.line
 pn:P≤t.ins.n
 all:∀ k,k<t.ins.n→Sc t.ins t.aa P k
 ends:∀ k,k<t.ins.n→iv (t.ins.get k)=decide (k+1=t.ins.n)
 loop:∀ k,k<t.ins.n→(t.ins.get k).op=20→(t.ins.get k).args.n=P
theorem fX.mono {ins Ct:Sq af} {v:Int} {k k':Nat} (h:fX ins v k) (hk:k≤k') (hg:∀ i,i<k→oy (ins.get i).op=true→Ct.get i=ins.get i):fX Ct v k':=by
 obtain ⟨i,h1,h2,h3,h4⟩:=h
 exact ⟨i,h1,by omega,by rw [hg i h2 h3]; exact h3,by rw [hg i h2 h3]; exact h4⟩
theorem IV.mono {ins Ct:Sq af} {e:ag} {k k':Nat} (h:IV ins e k) (hk:k≤k') (hg:∀ i,i<k→oy (ins.get i).op=true→Ct.get i=ins.get i):IV Ct e k' :=
 ⟨h.f0,h.f6,h.back,h.aC,fun j hj=>by
  obtain ⟨h1,h2,h3,h4⟩:=h.fr j hj
  exact ⟨h1,h2,h3,fun i hi=>(h4 i hi).imp id fun q=>q.mono hk hg⟩⟩
theorem fX.val {t:ai} {v:Int} {k:Nat} (h:fX t.ins v k):ek t v k=true∧((t.ins.get v.toNat).op==17)=false:=by
 obtain ⟨i,rfl,h2,h3,h4⟩:=h
 refine ⟨?_,h4⟩
 unfold ek
 rw [show oy (t.ins.get ((i:Int)).toNat).op=true from h3,Bool.and_true,cG]
 exact ⟨decide_eq_true (by omega),decide_eq_true (by omega)⟩
theorem St {t:ai} {P:Nat} (h:gQ t P):ju t.ins=P:=by
 have h1:=BZ (p:=fun i=>CZ (t.ins.get i)) (m:=t.ins.n) (k:=0)
 have h2:=vH (p:=fun i=>CZ (t.ins.get i)) (m:=t.ins.n) (k:=0)
 unfold ju
 generalize gS (fun i=>CZ (t.ins.get i)) t.ins.n 0=q at h1 h2
 have hpn:=h.pn
 by_cases hq:q<P
 ·have h3:=h2.2 (by omega)
  have h4:=((h.all q (by omega)).Cx hq).1
  rw [MD,h4] at h3
  exact absurd h3 (by decide)
 ·by_cases hq2:P<q
  ·have h3:=h2.1 P (bB _) hq2
   rw [MD] at h3
   have h4:=(h.all P (by omega)).L3 (bf _)
   exact absurd (by simpa using h3) h4
  ·omega
theorem IV.ok {t:ai} {e:ag} {k:Nat} (h:IV t.ins e k):wG t e k=true:=by
 have hf:=h.f0
 have hf6:=h.f6
 have hb:=h.back
 unfold wG X5
 rw [h.aC]
 have e1:cL (fun j=>ER (e.frames.get j)) e.frames.n=true:=fz.2 fun j hj=>by
  obtain ⟨h1,h2,h3,_⟩:=h.fr j hj
  unfold ER
  rw [decide_eq_false (by omega),decide_eq_false (by omega),decide_eq_false (by omega)]
  rfl
 have e2:Wn t e k (yg (fun j=>(e.frames.get j).vars) e.frames.n 0 (cx 0))=true:=by
  unfold Wn
  rw [qh]
  rw [cG]
  refine ⟨rfl,rD.2 fun j _ hj=>fz.2 fun i hi=>?_⟩
  obtain ⟨_,_,_,h4⟩:=h.fr j (by omega)
  rcases h4 i hi with q|q
  ·unfold RM
   rw [q]; rfl
  ·obtain ⟨q1,q2⟩:=q.val
   unfold RM
   rw [q1,q2,Bool.false_and,Bool.or_false]
   simp
 rw [e1,decide_eq_false (by omega),decide_eq_false (by omega),decide_eq_false (by omega)]
 exact e2
theorem tV {a b:Bool} (h:a=true→b=false):(!(a&&b))=true:=by
 cases a with
 | false=>rfl
 | true=>rw [h rfl]; rfl
theorem gQ.SG {t:ai} {P:Nat} (h:gQ t P) {k:Nat} (hk:k<t.ins.n):lf t k=true:=by
 have hi:=h.all k hk
 have hp:=St h
 have e6:a6 t k=true:=by
  unfold a6
  rw [hi.VE,h.ends k hk,hp,Bool.and_true,cG]
  constructor
  ·have:decide (k+1=t.ins.n)=((k:Int)==(t.ins.n:Int)-1):=by
    rw [eh,decide_eq_true_eq,beq_iff_eq]
    omega
   rw [this,bne_self_eq_false]; rfl
  ·refine tV fun q=>decide_eq_false fun q2=>?_
   exact hi.L3 (by omega) (eq_of_beq q)
 have e12:a12 t k=true:=by
  unfold a12
  rw [cG]
  constructor
  ·refine tV fun q=>?_
   have hP:k<P:=by
    by_cases hc:k<P
    ·exact hc
    ·exact absurd (eq_of_beq q) (hi.L3 (by omega))
   by_cases h0:0<k
   ·have h1:=((h.all k hk).Cx hP).2
    have h2:=((h.all (k-1) (by omega)).Cx (by omega)).2
    rw [h1,h2,Bool.and_eq_false_iff]
    right
    exact decide_eq_false (by omega)
   ·rw [Bool.and_eq_false_iff]
    left
    exact decide_eq_false (by omega)
  ·refine tV fun q=>?_
   rw [h.loop k hk (eq_of_beq q),hp,bne_self_eq_false]
 have e16:G1 t k=true:=by
  unfold G1
  refine fz.2 fun j hj=>?_
  obtain ⟨q1,q2⟩:=(hi.use j hj).val
  unfold u16
  rw [q1,q2]; rfl
 have e20:a20 t k=true∧TA t k=true:=by
  unfold a20 TA
  rw [hi.once,Bool.false_and]
  rcases hi.Yk with ⟨q1,q2⟩|⟨e,q1,q2,q3,q4,q5⟩
  ·rw [q1,show decide ((-1:Int) < -1)=false from rfl,show decide ((-1:Int)≥(t.aa.n:Int))=false from decide_eq_false (by omega),show decide ((-1:Int)≥0)=false from rfl,show (eX (t.ins.get k).op==2)=false from by simpa using q2]
   exact ⟨rfl,rfl⟩
  ·rw [q1,decide_eq_false (by omega),show decide ((e:Int)≥(t.aa.n:Int))=false from decide_eq_false (by omega),show (eX (t.ins.get k).op==0)=false from by simpa using q3,show decide ((e:Int)<0)=false from decide_eq_false (by omega),Int.toNat_natCast,q4.ok]
   refine ⟨by simp,?_⟩
   have:jQ t k e=false:=by
    unfold jQ
    rw [fz.2 fun j hj=>?_]; rfl
    have:=q5 j hj
    simpa using this
   rw [this]; simp
 unfold lf
 rw [e6,e12,e16,e20.1,e20.2]; rfl
theorem gQ.right {t:ai} {P:Nat} (h:gQ t P):jH t=0:=by
 have h1:=h.n200
 have h2:=h.YR
 have h3:=h.n0
 have h4:=h.fn
 have h5:=h.line
 unfold jH nT
 rw [decide_eq_false (by omega),decide_eq_false (by omega),fz.2 fun k hk=>h.SG hk,decide_eq_false (by omega),decide_eq_false (by omega),show ((t.ins.n:Int)==0)=false from beq_false_of_ne (by omega)]
 rfl
theorem Lv:aO bX=true:=by rw [vD _ (by decide)]; rfl
theorem gQ.drop {t:ai} {P:Nat} (h:gQ t P) {k:Nat} (hk:k<t.ins.n) (hs:CB t k=true):gQ (fo t k bX) P:=by
 have ho:(t.ins.get k).op=11∨(t.ins.get k).op=13:=by
  unfold CB at hs
  simpa using hs
 have hg:∀ i,i≠k→(fo t k bX).ins.get i=t.ins.get i:=fun i hi=>by
  show (bif Nat.beq i k then bX else t.ins.get i)=_
  rw [zr hi]; rfl
 have hgk:(fo t k bX).ins.get k=bX:=by
  show (bif Nat.beq k k then bX else t.ins.get k)=_
  rw [cB]; rfl
 have hm:∀ i,oy (t.ins.get i).op=true→(fo t k bX).ins.get i=t.ins.get i:=fun i hi=>hg i fun e=>by
  subst e
  rcases ho with q|q<;>rw [q] at hi<;>exact absurd hi (by decide)
 have hkP:P≤k:=by
  by_cases hc:P≤k
  ·exact hc
  ·have:=((h.all k hk).Cx (by omega)).1
   omega
 refine ⟨h.n200,h.YR,h.n0,h.fn,h.line,h.pn,fun i hi=>?_,fun i hi=>?_,fun i hi=>?_⟩
 ·have hi:i<t.ins.n:=hi
  have q:=h.all i hi
  by_cases he:i=k
  ·subst he
   refine ⟨fun hp=>absurd hkP (by omega),fun _=>?_,?_,fun j hj=>?_,?_,.inl ⟨?_,?_⟩⟩
   ·rw [hgk]; decide
   ·rw [hgk]; exact Lv
   ·rw [hgk] at hj
    exact absurd hj (Nat.not_lt_zero j)
   ·rw [hgk]; rfl
   ·rw [hgk]; rfl
   ·rw [hgk]; decide
  ·have hgi:=hg i he
   refine ⟨?_,?_,?_,?_,?_,?_⟩
   ·rw [hgi]; exact q.Cx
   ·rw [hgi]; exact q.L3
   ·rw [hgi]; exact q.VE
   ·rw [hgi]; exact fun j hj=>(q.use j hj).mono (bf _) fun a _ ha=>hm a ha
   ·rw [hgi]; exact q.once
   ·rw [hgi]
    refine q.Yk.imp id ?_
    rintro ⟨e,q1,q2,q3,q4,q5⟩
    refine ⟨e,q1,q2,q3,q4.mono (bf _) fun a _ ha=>hm a ha,fun j hj=>?_⟩
    by_cases W6:j=k
    ·subst W6
     rw [hgk]
     show (-1:Int)≠_
     omega
    ·rw [hg j W6]; exact q5 j hj
 ·have hi:i<t.ins.n:=hi
  by_cases he:i=k
  ·subst he
   rw [hgk]
   have:=h.ends i hi
   have e1:iv (t.ins.get i)=false:=by
    unfold iv
    rcases ho with q|q<;>rw [q]<;>rfl
   rw [e1] at this
   exact this
  ·rw [hg i he]; exact h.ends i hi
 ·have hi:i<t.ins.n:=hi
  by_cases he:i=k
  ·subst he
   rw [hgk]
   intro q
   exact absurd q (by decide)
  ·rw [hg i he]; exact h.loop i hi
open Go Go.V
structure dC (P c:Nat) (s:dv):Prop where
 p1:1≤P
 p4:P≤4
 pn:P≤s.ins.n
 ni:s.ins.n≤c
 ne:s.ex.n≤c
 all:∀ k,k<s.ins.n→Sc s.ins s.ex P k
 TF:∀ k,k<s.ins.n→((s.ins.get k).op==17)=false∧iv (s.ins.get k)=false
 ext:∀ k,k<s.ins.n→(s.ins.get k).exit<(s.ex.n:Int)
theorem oX {α:Type} {s:Sq α} {x:α} {k:Nat} (h:k<s.n):(cW s ⟨1,fun _=>x⟩).get k=s.get k:=by
 show (Bool.rec x (s.get k) (Nat.blt k s.n):α)=_
 rw [aK h]
theorem mQ {α:Type} {s:Sq α} {x:α}:(cW s ⟨1,fun _=>x⟩).get s.n=x:=by
 show (Bool.rec x (s.get s.n) (Nat.blt s.n s.n):α)=_
 rw [show Nat.blt s.n s.n=false from by
  cases hb:Nat.blt s.n s.n with
  | false=>rfl
  | true=>simp at hb]
theorem Sc.mono {ins Ct:Sq af} {ex Ye:Sq ag} {P k:Nat} (h:Sc ins ex P k) (hg:∀ i,i≤k→Ct.get i=ins.get i) (hn:ex.n≤Ye.n) (he:∀ e,e<ex.n→Ye.get e=ex.get e):Sc Ct Ye P k:=by
 have e:=hg k (bf _)
 refine ⟨by rw [e]; exact h.Cx,by rw [e]; exact h.L3,by rw [e]; exact h.VE,?_,by rw [e]; exact h.once,?_⟩
 ·rw [e]
  exact fun j hj=>(h.use j hj).mono (bf _) fun i hi _=>hg i (by omega)
 ·rw [e]
  refine h.Yk.imp id ?_
  rintro ⟨e,q1,q2,q3,q4,q5⟩
  exact ⟨e,q1,by omega,q3,by rw [he e q2]; exact q4.mono (bf _) fun i hi _=>hg i (by omega),fun j hj=>by rw [hg j (by omega)]; exact q5 j hj⟩
structure v7 (ins:Sq af) (x:af):Prop where
 Zz:x.op≠1
 X2:(x.op==17)=false
 ends:iv x=false
 VE:aO x=true
 use:∀ j,j<(aR x).n→fX ins ((aR x).get j) ins.n
 once:x.once=false
theorem dC.YS {P c:Nat} {s:dv} (h:dC P c s) {x:af} {ex:Sq ag} (x1:x.op≠1) (x2:aO x=true) (x3:∀ j,j<(aR x).n→fX s.ins ((aR x).get j) s.ins.n) (x4:x.once=false) (Nh:s.ex.n≤ex.n) (UX:∀ e,e<s.ex.n→ex.get e=s.ex.get e) (he:(x.exit = -1∧eX x.op≠2)∨∃ e:Nat,x.exit=(e:Int)∧e<ex.n∧eX x.op≠0∧IV s.ins (ex.get e) s.ins.n∧∀ j,j<s.ins.n→(s.ins.get j).exit≠(e:Int)):∀ k,k<s.ins.n+1→Sc (bC s.ins x) ex P k:=by
 have lt:∀ {i:Nat},i<s.ins.n→(bC s.ins x).get i=s.ins.get i:=fun hi=>oX hi
 have at':(bC s.ins x).get s.ins.n=x:=mQ
 intro k hk
 by_cases hq:k<s.ins.n
 ·exact (h.all k hq).mono (fun i hi=>lt (by omega)) Nh UX
 ·have e:k=s.ins.n:=by omega
  subst e
  have hpn:=h.pn
  refine ⟨fun q=>absurd hpn (by omega),fun _=>?_,?_,?_,?_,?_⟩
  ·rw [at']; exact x1
  ·rw [at']; exact x2
  ·rw [at']
   exact fun j hj=>(x3 j hj).mono (bf _) fun i hi _=>lt hi
  ·rw [at']; exact x4
  ·rw [at']
   refine he.imp id ?_
   rintro ⟨e,q1,q2,q3,q4,q5⟩
   exact ⟨e,q1,q2,q3,q4.mono (bf _) fun i hi _=>lt hi,fun j hj=>by rw [lt hj]; exact q5 j hj⟩
theorem dC.grow {P c:Nat} {s:dv} (h:dC P c s) {x:af} (p:Nat) {ex:Sq ag} (hx:v7 s.ins x) (Nh:s.ex.n≤ex.n) (Zt:ex.n≤c+1) (UX:∀ e,e<s.ex.n→ex.get e=s.ex.get e) (he:(x.exit = -1∧eX x.op≠2)∨∃ e:Nat,x.exit=(e:Int)∧e<ex.n∧eX x.op≠0∧IV s.ins (ex.get e) s.ins.n∧∀ j,j<s.ins.n→(s.ins.get j).exit≠(e:Int)):dC P (c+1) ⟨p,bC s.ins x,ex⟩:=by
 have hni:=h.ni
 have lt:∀ {i:Nat},i<s.ins.n→(bC s.ins x).get i=s.ins.get i:=fun hi=>oX hi
 have at':(bC s.ins x).get s.ins.n=x:=mQ
 refine ⟨h.p1,h.p4,Nat.le_succ_of_le h.pn,Nat.succ_le_succ hni,Zt,h.YS hx.Zz hx.VE hx.use hx.once Nh UX he,fun k hk=>?_,fun k hk=>?_⟩
 ·have hk:k<s.ins.n+1:=hk
  show (((bC s.ins x).get k).op==17)=false∧iv ((bC s.ins x).get k)=false
  by_cases hq:k<s.ins.n
  ·rw [lt hq]; exact h.TF k hq
  ·rw [show k=s.ins.n by omega,at']; exact ⟨hx.X2,hx.ends⟩
 ·have hk:k<s.ins.n+1:=hk
  show ((bC s.ins x).get k).exit<(ex.n:Int)
  by_cases hq:k<s.ins.n
  ·rw [lt hq]
   have:=h.ext k hq
   omega
  ·rw [show k=s.ins.n by omega,at']
   rcases he with ⟨q,_⟩|⟨e,q,q2,_⟩
   ·rw [q]; omega
   ·rw [q]; omega
theorem dC.add {P c:Nat} {s:dv} (h:dC P c s) {x:af} (p:Nat) (hx:v7 s.ins x) (h1:x.exit = -1) (h2:eX x.op≠2):dC P (c+1) ⟨p,bC s.ins x,s.ex⟩:=
 h.grow p hx (bf _) (Nat.le_succ_of_le h.ne) (fun _ _=>rfl) (.inl ⟨h1,h2⟩)
theorem dC.both {P c:Nat} {s:dv} (h:dC P c s) {x:af} {e:ag} (p:Nat) (hx:v7 s.ins x) (h1:x.exit=(s.ex.n:Int)) (h2:eX x.op≠0) (h3:IV s.ins e s.ins.n):dC P (c+1) ⟨p,bC s.ins x,bT s.ex e⟩:=
 h.grow p hx (Nat.le_succ _) (Nat.succ_le_succ h.ne) (fun e he=>oX he) (.inr ⟨s.ex.n,h1,Nat.lt_succ_self _,h2,by rw [show (bT s.ex e).get s.ex.n=e from mQ]; exact h3,fun j hj=>by have:=h.ext j hj; omega⟩)
theorem dC.le {P c c':Nat} {s:dv} (h:dC P c s) (hc:c≤c'):dC P c' s:=⟨h.p1,h.p4,h.pn,bU h.ni hc,bU h.ne hc,h.all,h.TF,h.ext⟩
theorem dC.at {P c:Nat} {s:dv} (h:dC P c s) (p:Nat):dC P c ⟨p,s.ins,s.ex⟩:=⟨h.p1,h.p4,h.pn,h.ni,h.ne,h.all,h.TF,h.ext⟩
def YW (ins:Sq af) (v:Int):Prop:=∃ i:Nat,v=(i:Int)∧i<ins.n∧oy (ins.get i).op=true
theorem xB (ins:Sq af):∀ (m k:Nat) (h:Sq Int),k+m≤ins.n→(∀ i,i<h.n→YW ins (h.get i))→(∀ i,i<(jt ins m k h).n→YW ins ((jt ins m k h).get i))∧h.n≤(jt ins m k h).n∧(jt ins m k h).n≤h.n+m∧(0<m→oy (ins.get k).op=true→0<(jt ins m k h).n)
 | 0,k,h,_,hh=>⟨hh,bf _,bf _,fun q=>absurd q (Nat.lt_irrefl 0)⟩
 | m+1,k,h,hk,hh=>by
   unfold jt
   cases hb:oy (ins.get k).op with
   | false=>
     obtain ⟨h1,h2,h3,_⟩:=xB ins m (k+1) h (by omega) hh
     exact ⟨h1,h2,by simp only [cond_false]; omega,fun _ q=>by cases q⟩
   | true=>
     obtain ⟨h1,h2,h3,_⟩:=xB ins m (k+1) (cW h ⟨1,fun _=>(k:Int)⟩) (by omega) (iG hh ⟨k,rfl,by omega,hb⟩)
     have h2:h.n+1≤_:=h2
     have h3:_≤h.n+1+m:=h3
     exact ⟨h1,by simp only [cond_true]; omega,by simp only [cond_true]; omega,fun _ _=>by simp only [cond_true]; omega⟩
theorem dC.par {P c:Nat} {s:dv} (h:dC P c s) {i:Nat} (hi:i<P):fX s.ins (i:Int) s.ins.n:=by
 have hpn:=h.pn
 have:=((h.all i (by omega)).Cx hi).1
 exact ⟨i,rfl,by omega,by rw [this]; rfl,by rw [this]; rfl⟩
theorem dC.zL {P c:Nat} {s:dv} (h:dC P c s) (hc:c≤900) (l:Sq Int) (p:Nat):fX s.ins (vl l p s.ins).1 s.ins.n:=by
 have hpn:=h.pn
 have hp1:=h.p1
 have hni:=h.ni
 obtain ⟨h1,_,h3,h4⟩:=xB s.ins s.ins.n 0 (cx 0) (by omega) (fun i hi=>absurd hi (Nat.not_lt_zero i))
 have h4:=h4 (by omega) (by rw [((h.all 0 (by omega)).Cx (by omega)).1]; rfl)
 have h3:(jt s.ins s.ins.n 0 (cx 0)).n≤0+s.ins.n:=h3
 have key:∀ i,i<(jt s.ins s.ins.n 0 (cx 0)).n→fX s.ins ((jt s.ins s.ins.n 0 (cx 0)).get i) s.ins.n:=fun i hi=>by
  obtain ⟨j,q1,q2,q3⟩:=h1 i hi
  exact ⟨j,q1,q2,q3,(h.TF j q2).1⟩
 unfold vl MT
 generalize jt s.ins s.ins.n 0 (cx 0)=q at h3 h4 key
 rw [show ((q.n:Int)==0)=false from beq_false_of_ne (by omega),cond_false]
 unfold M0
 cases (nx l p 2).1==0 with
 | true=>
   show fX s.ins (q.get _) _
   exact key _ (by omega)
 | false=>
   show fX s.ins (q.get _) _
   obtain ⟨d,hd,dp⟩:=il (l:=l) (p:=(nx l p 2).2) (n:=(q.n:Int)) (by omega) (by omega)
   refine key _ ?_
   rw [hd,Int.toNat_natCast]
   omega
theorem JC (l:Sq Int) (ins:Sq af) (hv:∀ p,fX ins (vl l p ins).1 ins.n):∀ (m p:Nat) (h:Sq Int),(∀ i,i<h.n→fX ins (h.get i) ins.n)→∀ i,i<(Ih l ins m p h).1.n→fX ins ((Ih l ins m p h).1.get i) ins.n
 | 0,_,_,hh=>hh
 | m+1,p,h,hh=>JC l ins hv m _ _ (iG (P:=fun v=>fX ins v ins.n) hh (hv p))
theorem dC.WB {P c:Nat} {s:dv} (h:dC P c s) (hc:c≤900) (l:Sq Int) (p:Nat) (fuel:Int) (hf:0≤fuel∧fuel≤4):IV s.ins (lv l p s.ins fuel P).1 s.ins.n:=by
 have hp4:=h.p4
 have hv:=JC l s.ins (h.zL hc l) P p (cx 0) fun i hi=>absurd hi (Nat.not_lt_zero i)
 have hn:=IC l s.ins P p (cx 0)
 have hn:(Ih l s.ins P p (cx 0)).1.n=0+P:=hn
 unfold lv QO MN
 generalize Ih l s.ins P p (cx 0)=v at hv hn
 have hb:=(uE (l:=l) (p:=v.2) (n:=fuel+1) (by omega) (by omega)).1
 generalize nx l v.2 (fuel+1)=b at hb
 have f1:0≤(⟨0,0,v.1⟩:dD).fn∧0≤(⟨0,0,v.1⟩:dD).line∧(⟨0,0,v.1⟩:dD).vars.n≤24∧∀ i,i<(⟨0,0,v.1⟩:dD).vars.n→(⟨0,0,v.1⟩:dD).vars.get i = -1∨fX s.ins ((⟨0,0,v.1⟩:dD).vars.get i) s.ins.n:=
  ⟨Int.le_refl _,Int.le_refl _,by show v.1.n≤24; omega,fun i hi=>.inr (hv i hi)⟩
 cases (nx l b.2 5).1==0 with
 | false=>exact ⟨bf _,(by show 1≤6; omega),hb,rfl,fun j _=>f1⟩
 | true=>
   refine ⟨by show 1≤2; omega,(by show 2≤6; omega),hb,rfl,fun j hj=>?_⟩
   have hj:j<2:=hj
   have hw:=h.zL hc l (nx l b.2 5).2
   match j,hj with
   | 0,_=>exact f1
   | 1,_=>
     refine ⟨(by show (0:Int)≤1; omega),(by show (0:Int)≤2; omega),(by show 2≤24; omega),fun i hi=>?_⟩
     have hi:i<2:=hi
     match i,hi with
     | 0,_=>exact .inl rfl
     | 1,_=>exact .inr hw
open Go Go.V
theorem e7 {x:af} (hn:x.n≤9223372036854775807) (h3:nH x=true) (hr:(nF x&&(ln x&&(lq x&&(eL x&&ep x))))=true):aO x=true:=by
 rw [vD x hn]
 unfold aW
 rw [h3]
 exact hr
theorem fa {x:af} {a b:Int} (ho:0≤x.op∧x.op≤21) (hl:fM x.op=(a,b)) (h:a≤x.n∧x.n≤b):nH x=true:=by
 unfold nH
 rw [hl,decide_eq_false (by omega),decide_eq_false (by omega),decide_eq_false (by show ¬ x.n<a; omega),decide_eq_false (by show ¬ x.n>b; omega)]
 rfl
theorem fX.up {ins:Sq af} {x:af} {v:Int} (h:fX ins v ins.n):fX (bC ins x) v (bC ins x).n:=h.mono (Nat.le_succ _) fun i hi _=>oX hi
theorem fX.last {ins:Sq af} {x:af} (h:oy x.op=true) (h2:(x.op==17)=false):fX (bC ins x) (ins.n:Int) (bC ins x).n:=
 ⟨ins.n,rfl,Nat.lt_succ_self _,by rw [show (bC ins x).get ins.n=x from mQ]; exact h,by rw [show (bC ins x).get ins.n=x from mQ]; exact h2⟩
theorem VI {ins:Sq af} {a n e:Int}  (ha:fX ins a ins.n) (hn:3≤n∧n≤4):v7 ins (cm 3 a 0 0 n e):=
 ⟨by show (3:Int)≠1; decide,rfl,rfl,e7 (by show n≤_; omega) (fa (by show (0:Int)≤3∧(3:Int)≤21; decide) rfl hn) (rfl),fun j hj=>by
  have hj:j<1:=hj
  match j,hj with
  | 0,_=>exact ha,rfl⟩
theorem PQ {ins:Sq af} {a b n e:Int}  (ha:fX ins a ins.n) (hb:fX ins b ins.n) (hn:5≤n∧n≤14):v7 ins (cm 4 a b 0 n e):=
 ⟨by show (4:Int)≠1; decide,rfl,rfl,e7 (by show n≤_; omega) (fa (by show (0:Int)≤4∧(4:Int)≤21; decide) rfl hn) (rfl),fun j hj=>by
  have hj:j<2:=hj
  match j,hj with
  | 0,_=>exact ha
  | 1,_=>exact hb,rfl⟩
theorem V6 {ins:Sq af} {a n e:Int}  (ha:fX ins a ins.n) (hn:0≤n∧n≤1):v7 ins (cm 5 a 0 0 n e):=
 ⟨by show (5:Int)≠1; decide,rfl,rfl,e7 (by show n≤_; omega) (fa (by show (0:Int)≤5∧(5:Int)≤21; decide) rfl hn) (rfl),fun j hj=>by
  have hj:j<1:=hj
  match j,hj with
  | 0,_=>exact ha,rfl⟩
theorem Uv {ins:Sq af} {a n e:Int}  (ha:fX ins a ins.n) (hn:1≤n∧n≤6):v7 ins (cm 6 a 0 0 n e):=
 ⟨by show (6:Int)≠1; decide,rfl,rfl,e7 (by show n≤_; omega) (fa (by show (0:Int)≤6∧(6:Int)≤21; decide) rfl hn) (rfl),fun j hj=>by
  have hj:j<1:=hj
  match j,hj with
  | 0,_=>exact ha,rfl⟩
theorem Ui {ins:Sq af} {a e:Int}  (ha:fX ins a ins.n)  : v7 ins (cm 8 a 0 0 0 e):=
 ⟨by show (8:Int)≠1; decide,rfl,rfl,e7 (by show (0:Int)≤_; omega) (fa (by show (0:Int)≤8∧(8:Int)≤21; decide) rfl ⟨by show (0:Int)≤0; omega,by show (0:Int)≤_; omega⟩) (rfl),fun j hj=>by
  have hj:j<1:=hj
  match j,hj with
  | 0,_=>exact ha,rfl⟩
theorem T7 {ins:Sq af} {a b e:Int}  (ha:fX ins a ins.n) (hb:fX ins b ins.n)  : v7 ins (cm 9 a b 0 0 e):=
 ⟨by show (9:Int)≠1; decide,rfl,rfl,e7 (by show (0:Int)≤_; omega) (fa (by show (0:Int)≤9∧(9:Int)≤21; decide) rfl ⟨by show (0:Int)≤0; omega,by show (0:Int)≤_; omega⟩) (rfl),fun j hj=>by
  have hj:j<2:=hj
  match j,hj with
  | 0,_=>exact ha
  | 1,_=>exact hb,rfl⟩
theorem RR {ins:Sq af} {a n e:Int}  (ha:fX ins a ins.n) (hn:0≤n∧n≤63):v7 ins (cm 10 a 0 0 n e):=
 ⟨by show (10:Int)≠1; decide,rfl,rfl,e7 (by show n≤_; omega) (fa (by show (0:Int)≤10∧(10:Int)≤21; decide) rfl hn) (rfl),fun j hj=>by
  have hj:j<1:=hj
  match j,hj with
  | 0,_=>exact ha,rfl⟩
theorem Ko {ins:Sq af} {a b n e:Int}  (ha:fX ins a ins.n) (hb:fX ins b ins.n) (hn:0≤n∧n≤63):v7 ins (cm 11 a b 0 n e):=
 ⟨by show (11:Int)≠1; decide,rfl,rfl,e7 (by show n≤_; omega) (fa (by show (0:Int)≤11∧(11:Int)≤21; decide) rfl hn) (rfl),fun j hj=>by
  have hj:j<2:=hj
  match j,hj with
  | 0,_=>exact ha
  | 1,_=>exact hb,rfl⟩
theorem Ry {ins:Sq af} {a b e:Int}  (ha:fX ins a ins.n) (hb:fX ins b ins.n)  : v7 ins (cm 12 a b 0 0 e):=
 ⟨by show (12:Int)≠1; decide,rfl,rfl,e7 (by show (0:Int)≤_; omega) (fa (by show (0:Int)≤12∧(12:Int)≤21; decide) rfl ⟨by show (0:Int)≤0; omega,by show (0:Int)≤_; omega⟩) (rfl),fun j hj=>by
  have hj:j<2:=hj
  match j,hj with
  | 0,_=>exact ha
  | 1,_=>exact hb,rfl⟩
theorem SW {ins:Sq af} {a b c e:Int}  (ha:fX ins a ins.n) (hb:fX ins b ins.n) (hc:fX ins c ins.n)  : v7 ins (cm 13 a b c 0 e):=
 ⟨by show (13:Int)≠1; decide,rfl,rfl,e7 (by show (0:Int)≤_; omega) (fa (by show (0:Int)≤13∧(13:Int)≤21; decide) rfl ⟨by show (0:Int)≤0; omega,by show (0:Int)≤_; omega⟩) (rfl),fun j hj=>by
  have hj:j<3:=hj
  match j,hj with
  | 0,_=>exact ha
  | 1,_=>exact hb
  | 2,_=>exact hc,rfl⟩
theorem SK {ins:Sq af} {a e:Int}  (ha:fX ins a ins.n)  : v7 ins (cm 14 a 0 0 0 e):=
 ⟨by show (14:Int)≠1; decide,rfl,rfl,e7 (by show (0:Int)≤_; omega) (fa (by show (0:Int)≤14∧(14:Int)≤21; decide) rfl ⟨by show (0:Int)≤0; omega,by show (0:Int)≤_; omega⟩) (rfl),fun j hj=>by
  have hj:j<1:=hj
  match j,hj with
  | 0,_=>exact ha,rfl⟩
theorem SO {ins:Sq af} {n e:Int}   (hn:0≤n∧n≤600):v7 ins (cm 15 0 0 0 n e):=
 ⟨by show (15:Int)≠1; decide,rfl,rfl,e7 (by show n≤_; omega) (fa (by show (0:Int)≤15∧(15:Int)≤21; decide) rfl hn) (rfl),fun j hj=>absurd hj (Nat.not_lt_zero j),rfl⟩
theorem SF {ins:Sq af} {n e:Int}   (hn:1≤n∧n≤200):v7 ins (cm 18 0 0 0 n e):=
 ⟨by show (18:Int)≠1; decide,rfl,rfl,e7 (by show n≤_; omega) (fa (by show (0:Int)≤18∧(18:Int)≤21; decide) rfl hn) (rfl),fun j hj=>absurd hj (Nat.not_lt_zero j),rfl⟩
theorem UK {ins:Sq af} {a e:Int}  (ha:fX ins a ins.n)  : v7 ins (rP a e):=
 ⟨by show (7:Int)≠1; decide,rfl,rfl,e7 (by show (0:Int)≤_; omega) (fa (by show (0:Int)≤7∧(7:Int)≤21; decide) rfl ⟨by show (0:Int)≤0; omega,by show (0:Int)≤_; omega⟩) (by kernel_rfl),fun j hj=>by
  have hj:j<1:=hj
  match j,hj with
  | 0,_=>exact ha,rfl⟩
theorem Rj {ins:Sq af} {e:Int}    : v7 ins ({ cm 16 0 0 0 0 e with names:=Ig }):=
 ⟨by show (16:Int)≠1; decide,rfl,rfl,e7 (by show (0:Int)≤_; omega) (fa (by show (0:Int)≤16∧(16:Int)≤21; decide) rfl ⟨by show (0:Int)≤0; omega,by show (0:Int)≤_; omega⟩) (by kernel_rfl),fun j hj=>absurd hj (Nat.not_lt_zero j),rfl⟩
theorem Tg {ins:Sq af} {a e:Int} {q:Int} (hq:0≤q) (ha:fX ins a ins.n)  : v7 ins ({ cm 19 a 0 0 0 e with place:=⟨0,q⟩ }):=
 ⟨by show (19:Int)≠1; decide,rfl,rfl,e7 (by show (0:Int)≤_; omega) (fa (by show (0:Int)≤19∧(19:Int)≤21; decide) rfl ⟨by show (0:Int)≤0; omega,by show (0:Int)≤_; omega⟩) (by unfold eL; rw [show decide ((af.place { cm 19 a 0 0 0 e with place:=⟨0,q⟩ }).line<0)=false from decide_eq_false (by show ¬ q<0; omega)]; rfl),fun j hj=>by
  have hj:j<1:=hj
  match j,hj with
  | 0,_=>exact ha,rfl⟩
theorem Uh {ins:Sq af} {e:Int} {v:qH} (hk:dO v=true)   : v7 ins ({ cm 2 0 0 0 0 e with k:=v }):=
 ⟨by show (2:Int)≠1; decide,rfl,rfl,e7 (by show (0:Int)≤_; omega) (fa (by show (0:Int)≤2∧(2:Int)≤21; decide) rfl ⟨by show (0:Int)≤0; omega,by show (0:Int)≤_; omega⟩) (by unfold ln; rw [show dO (af.k { cm 2 0 0 0 0 e with k:=v })=true from hk]; rfl),fun j hj=>absurd hj (Nat.not_lt_zero j),rfl⟩
theorem dC.Ay {P c:Nat} {s:dv} (h:dC P c s) (hc:c≤900) (l:Sq Int) {fuel:Int} (hf:0≤fuel∧fuel≤4) {x:af} (p:Nat) (hx:v7 s.ins { x with exit:=(s.ex.n:Int) }) (h2:eX x.op≠0):dC P (c+1) (MR l fuel P x p s):=
 h.both _ hx rfl h2 (h.WB hc l p fuel hf)
section
variable {P c:Nat} {s:dv} {l:Sq Int} {fuel:Int}
theorem OL {p:Nat} {n:Int} (h1:1≤n) (h2:n≤900):0≤(nx l p n).1∧(nx l p n).1<n:=uE h1 (by omega)
theorem dC.YA (h:dC P c s) (p:Nat):fX s.ins (nx l p (P:Int)).1 s.ins.n:=by
 have h1:=h.p1
 have h4:=h.p4
 obtain ⟨d,hd,dp⟩:=il (l:=l) (p:=p) (n:=(P:Int)) (by omega) (by omega)
 rw [hd]
 exact h.par (by omega)
theorem dC.TJ (h:dC P c s) {v:Int} (hv:fX s.ins v s.ins.n):dC P (c+1) (TD l v s):=by
 have hn:=OL (l:=l) (p:=s.p) (n:=2) (by omega) (by omega)
 exact h.add _ (RR hv (by omega)) rfl (by decide:eX (10:Int)≠2)
theorem dC.WX (h:dC P c s) {v:Int} (hv:fX s.ins v s.ins.n):dC P (c+2) (Wk l P v s):=by
 have hn:=OL (l:=l) (p:=(nx l s.p (P:Int)).2) (n:=2) (by omega) (by omega)
 exact dC.TJ (h.add _ (Ko hv (h.YA _) (by omega)) rfl (by decide:eX (11:Int)≠2)) hv.up
theorem dC.WI (h:dC P c s):dC P (c+3) (Wy l P s):=
 dC.WX (h.add s.p Rj rfl (by decide:eX (16:Int)≠2)) (fX.last rfl rfl)
theorem dC.WK (h:dC P c s) (hc:c≤900) {v:Int} (hv:fX s.ins v s.ins.n):dC P (c+1) (Wq l v s):=by
 have hn:=OL (l:=l) (p:=(vl l s.p s.ins).2) (n:=2) (by omega) (by omega)
 exact h.add _ (Ko hv (h.zL hc l _) (by omega)) rfl (by decide:eX (11:Int)≠2)
theorem dC.Yy (h:dC P c s) (hc:c≤900) {x:af} (ha:fX s.ins x.a s.ins.n) (hb:fX s.ins x.b s.ins.n):dC P (c+1) (Qv l x s):=by
 unfold Qv
 cases (nx l s.p 2).1==0 with
 | true=>exact h.add _ (Ry ha hb) rfl (by decide:eX (12:Int)≠2)
 | false=>exact h.add _ (SW ha hb (h.zL hc l _)) rfl (by decide:eX (13:Int)≠2)
theorem dC.XB (h:dC P c s) {x:af} (ha:fX s.ins x.a s.ins.n):dC P (c+1) (Ww x s):=h.add _ (SK ha) rfl (by decide:eX (14:Int)≠2)
theorem dC.WN (h:dC P c s) {x:af} (ha:fX s.ins x.a s.ins.n):dC P (c+1) (Wh l x s):=
 h.add _ (Tg (OL (by omega) (by omega)).1 ha) rfl (by decide:eX (19:Int)≠2)
variable (hf:0≤fuel∧fuel≤4)
include hf
theorem dC.XM (h:dC P c s) (hc:c≤900) {v:Int} (hv:fX s.ins v s.ins.n):dC P (c+1) (Wi l fuel P v s):=by
 have hn:=OL (l:=l) (p:=s.p) (n:=2) (by omega) (by omega)
 exact h.Ay hc l hf _ (V6 hv (by show 0≤(nx l s.p 2).1∧(nx l s.p 2).1≤1; omega)) (by decide:eX (5:Int)≠0)
omit hf
theorem OK (d:Nat) {n:Int} (hn:0≤n∧n≤6):dO (PG d n)=true:=by
 unfold PG
 cases Nat.beq d 0 with
 | true=>
   have e:IntKind.i64.wrap (n-2)=n-2:=by
    have e1:(2 ^ IntKind.i64.bits:Int)=18446744073709551616:=by rfl
    have e2:(2 ^ (IntKind.i64.bits-1):Int)=9223372036854775808:=by rfl
    have e4:IntKind.i64.signed=true:=rfl
    unfold IntKind.wrap
    simp only [e1,e2,e4]
    split
    ·rename_i h
     simp only [Bool.true_and,decide_eq_true_eq] at h
     omega
    ·rename_i h
     simp only [Bool.true_and,decide_eq_true_eq] at h
     omega
   show dO ⟨3,IntKind.i64.wrap (n-2),⟨⟨[]⟩⟩⟩=true
   rw [e]
   unfold dO kx eS AF
   simp
   omega
 | false=>cases Nat.beq d 1 with
   | true=>
     show dO ⟨1,0,⟨⟨[]⟩⟩⟩=true
     unfold dO kx eS AF
     simp
   | false=>cases Nat.beq d 2 with
     | true=>
       show dO ⟨2,1,⟨⟨[]⟩⟩⟩=true
       unfold dO kx eS AF
       simp
     | false=>
       show dO ⟨4,0,⟨⟨[115]⟩⟩⟩=true
       unfold dO kx eS
       simp
       exact ⟨by decide,Hn fun i hi h=>by
        have hi:i<1:=hi
        have:i=0:=by omega
        subst this
        exact (by decide:32≤(115:UInt8).toNat∧(115:UInt8).toNat≤126)⟩
theorem dC.Zx (h:dC P c s):dC P (c+1) (k3 l s):=by
 have hn:=OL (l:=l) (p:=s.p) (n:=7) (by omega) (by omega)
 exact h.add _ (Uh (OK _ (by omega))) rfl (by decide:eX (2:Int)≠2)
include hf
theorem dC.Yz (h:dC P c s) (hc:c≤900):dC P (c+1) (k7 l fuel P s):=by
 have hn:=OL (l:=l) (p:=s.p) (n:=10) (by omega) (by omega)
 refine h.Ay hc l hf _ (PQ (h.zL hc l _) (h.zL hc l _) ?_) (by decide:eX (4:Int)≠0)
 show 5≤IntKind.i64.wrap (5+(nx l s.p 10).1)∧IntKind.i64.wrap (5+(nx l s.p 10).1)≤14
 rw [fR (by omega) (by omega)]
 omega
theorem dC.XU (h:dC P c s) (hc:c≤900):dC P (c+1) (Wb l fuel P s):=by
 have hn:=OL (l:=l) (p:=s.p) (n:=2) (by omega) (by omega)
 refine h.Ay hc l hf _ (VI (h.zL hc l _) ?_) (by decide:eX (3:Int)≠0)
 show 3≤IntKind.i64.wrap (3+(nx l s.p 2).1)∧IntKind.i64.wrap (3+(nx l s.p 2).1)≤4
 rw [fR (by omega) (by omega)]
 omega
omit hf
theorem QR (d:Nat):5≤MJ d∧MJ d≤14:=by
 unfold MJ
 cases Nat.beq d 0<;>simp
include hf
theorem dC.X9 (h:dC P c s) (hc:c≤899):dC P (c+2) (RX l fuel P s):=
 dC.XM hf (h.Ay (by omega) l hf _ (PQ (h.zL (by omega) l _) (h.zL (by omega) l _) (by show 5≤MJ (nx l s.p 2).1.toNat∧MJ (nx l s.p 2).1.toNat≤14; exact QR _)) (by decide:eX (4:Int)≠0)) (by omega) (fX.last rfl rfl)
omit hf
theorem dC.Sx (h:dC P c s) (hc:c≤900) (p:Nat):fX s.ins (gf l p s.ins P).1 s.ins.n:=by
 unfold gf
 cases (nx l (vl l p s.ins).2 2).1==0 with
 | true=>exact h.YA _
 | false=>exact h.zL hc l _
include hf
theorem dC.V1 (h:dC P c s) (hc:c≤900):dC P (c+1) (Ws l fuel P s):=
 h.both _ (UK (h.Sx hc _)) rfl (by decide:eX (7:Int)≠0) (h.WB hc l _ fuel hf)
theorem dC.Wa (h:dC P c s) (hc:c≤899):dC P (c+2) (QW l fuel P s):=dC.TJ (h.V1 hf (by omega)) (fX.up (h.Sx (by omega) _))
theorem dC.W7 (h:dC P c s) (hc:c≤899):dC P (c+2) (TG l fuel P s):=dC.WK (h.V1 hf (by omega)) (by omega) (fX.up (h.Sx (by omega) _))
theorem dC.Uo (h:dC P c s) (hc:c≤900):dC P (c+4) (Ss l fuel P s):=dC.WI (h.Ay hc l hf _ (SO (by show (0:Int)≤32∧(32:Int)≤600; omega)) (by decide:eX (15:Int)≠0))
theorem dC.W0 (h:dC P c s) (hc:c≤899):dC P (c+2) (U8 l fuel P s):=
 dC.Yy (h.Ay (by omega) l hf _ (T7 (h.zL (by omega) l _) (h.zL (by omega) l _)) (by decide:eX (9:Int)≠0)) (by omega) (fX.up (h.zL (by omega) l _)) (fX.up (h.zL (by omega) l _))
theorem dC.Yo (h:dC P c s) (hc:c≤899):dC P (c+2) (Vu l fuel P s):=
 dC.XB (h.Ay (by omega) l hf _ (Ui (h.zL (by omega) l _)) (by decide:eX (8:Int)≠0)) (fX.up (h.zL (by omega) l _))
theorem dC.Xf (h:dC P c s) (hc:c≤899):dC P (c+2) (UD l fuel P s):=by
 have hn:=OL (l:=l) (p:=(vl l s.p s.ins).2) (n:=4) (by omega) (by omega)
 refine dC.WN (h.Ay (by omega) l hf _ (Uv (h.zL (by omega) l _) ?_) (by decide:eX (6:Int)≠0)) (fX.up (h.zL (by omega) l _))
 show 1≤IntKind.i64.wrap (1+(nx l (vl l s.p s.ins).2 4).1)∧IntKind.i64.wrap (1+(nx l (vl l s.p s.ins).2 4).1)≤6
 rw [fR (by omega) (by omega)]
 omega
theorem dC.XA (h:dC P c s) (hc:c≤890):dC P (c+4) (gJ l fuel P s):=by
 have h':=h.at (nx l s.p 14).2
 unfold gJ
 have B:∀ {b:Bool} {x y:dv},dC P (c+4) x→dC P (c+4) y→dC P (c+4) (bif b then x else y):=fun {b _ _} p q=>by
  cases b with
  | true=>exact p
  | false=>exact q
 refine B (h'.Zx.le (by omega)) (B ((h'.Yz hf (by omega)).le (by omega)) (B ((h'.Yz hf (by omega)).le (by omega)) (B ((h'.Yz hf (by omega)).le (by omega)) (B ((h'.XU hf (by omega)).le (by omega)) (B ((h'.X9 hf (by omega)).le (by omega)) (B ((h'.Wa hf (by omega)).le (by omega)) (B ((h'.Wa hf (by omega)).le (by omega)) (B ((h'.W7 hf (by omega)).le (by omega)) (B (h'.Uo hf (by omega)) (B (h'.Uo hf (by omega)) (B ((h'.W0 hf (by omega)).le (by omega)) (B ((h'.Yo hf (by omega)).le (by omega)) ((h'.Xf hf (by omega)).le (by omega))))))))))))))
theorem dC.VG:∀ (m c:Nat) (s:dv),dC P c s→c+4*m≤880→dC P (c+4*m) (ML l fuel P m s)
 | 0,c,s,h,_=>h
 | m+1,c,s,h,hc=>(dC.VG m (c+4) _ (h.XA hf (by omega)) (by omega)).le (by omega)
end
open Go Go.V
theorem BP {p:Nat→Bool} {n:Nat}:sL p n=true↔∃ i,i<n∧p i=true:=by
 unfold sL cD
 rw [decide_eq_true_eq]
 rcases oU (p:=p) (m:=n) (k:=0) with ⟨h1,h2⟩|⟨i,h1,_,h3,h4,_⟩
 ·rw [h1]
  refine ⟨fun h=>absurd h (by decide),fun ⟨i,hi,hp⟩=>?_⟩
  rw [h2 i (bB _) (by omega)] at hp
  cases hp
 ·rw [h1]
  exact ⟨fun _=>⟨i,by omega,h4⟩,fun _=>by omega⟩
theorem nS {p p':Nat→Bool} {n:Nat} (h:∀ i,i<n→p' i=true→p i=true) (hn:(!sL p n)=true):(!sL p' n)=true:=by
 cases hb:sL p' n with
 | false=>rfl
 | true=>
   obtain ⟨i,hi,hp⟩:=BP.1 hb
   rw [BP.2 ⟨i,hi,h i hi hp⟩] at hn
   cases hn
theorem DE {t u:ai} {o o':Nat→Bool} {x:af} (h:∀ i,o i=true→o' i=true) (h1:iw t x=true→iw u x=true) (h2:la t=true→la u=true) (hs:e8 t o x=true):e8 u o' x=true:=by
 unfold e8 at hs ⊢
 have A:∀ {a b a' b':Bool},(a=true→a'=true)→(b=true→b'=true)→(a&&b)=true→(a'&&b')=true:=fun p q r=>by
  rw [cG] at r ⊢
  exact ⟨p r.1,q r.2⟩
 have B:∀ {c a b a' b':Bool},(a=true→a'=true)→(b=true→b'=true)→(bif c then a else b)=true→(bif c then a' else b')=true:=fun {c _ _ _ _} p q r=>by
  cases c with
  | true=>exact p r
  | false=>exact q r
 exact B id (B (A (h _) (h _)) (B (A h1 (h _)) (B (A h2 (A (h _) (h _))) (B (h _) id)))) hs
theorem gQ.more {t:ai} {P:Nat} (h:gQ t P) (hS:ed t) (hn:∀ k,k<t.ins.n→(t.ins.get k).n≤9223372036854775807):HK t:=by
 have r1:bW t=0:=by rw [p9 t hn]; exact h.right
 have nn:∀ u:ai,bW u=0→(gM u).n=u.ins.n:=fun u hu=>by
  unfold gM
  rw [show (bW u != 0)=false from by rw [hu]; rfl,cond_false]
  cases (lh u).op != 20<;>rfl
 refine ⟨hS,p9 t hn,r1,nn t r1,fun k hk hs=>?_⟩
 have h':=h.drop hk hs
 have sq:∀ i,i<(fo t k bX).ins.n→((fo t k bX).ins.get i).n≤9223372036854775807:=fun i hi=>by
  show (bif Nat.beq i k then bX else t.ins.get i).n≤_
  cases Nat.beq i k with
  | true=>show (0:Int)≤_; omega
  | false=>exact hn i hi
 have r2:bW (fo t k bX)=0:=by rw [p9 _ sq]; exact h'.right
 refine ⟨r2,p9 _ sq,nn _ r2,fun i hi ht=>?_⟩
 have ho:(t.ins.get k).op=11∨(t.ins.get k).op=13:=by
  unfold CB at hs
  simpa using hs
 have hg:∀ i,i≠k→(fo t k bX).ins.get i=t.ins.get i:=fun i hi=>by
  show (bif Nat.beq i k then bX else t.ins.get i)=_
  rw [zr hi]; rfl
 have hgk:(fo t k bX).ins.get k=bX:=by
  show (bif Nat.beq k k then bX else t.ins.get k)=_
  rw [cB]; rfl
 have hkl:t.ins.n-1≠k:=fun e=>by
  have h0:=h.n0
  have:=h.ends (t.ins.n-1) (by omega)
  rw [e,show decide (k+1=t.ins.n)=true from decide_eq_true (by omega)] at this
  unfold iv at this
  rcases ho with q|q<;>rw [q] at this<;>cases this
 have hl:lh (fo t k bX)=lh t:=hg _ hkl
 have l1:∀ x,iw t x=true→iw (fo t k bX) x=true:=fun x=>nS fun i hi hp=>by
  by_cases he:i=k
  ·subst he
   rw [hgk] at hp
   exact absurd hp (by unfold nP; simp [bX])
  ·rw [hg i he] at hp; exact hp
 have l2:la t=true→la (fo t k bX)=true:=nS fun i hi hp=>by
  by_cases he:i=k
  ·subst he
   rw [hgk] at hp
   exact absurd hp (by unfold sK; simp [bX])
  ·rw [hg i he] at hp; exact hp
 have key:∀ (y:af) (m:Nat),∀ i,bg t y m i=true→bg (fo t k bX) y m i=true:=fun y m=>by
  induction m with
  | zero=>exact fun i q=>q
  | succ m ih=>
    intro i q
    have q:(bif Nat.beq i m then fN t y (bg t y m) m else bg t y m i)=true:=q
    show (bif Nat.beq i m then fN (fo t k bX) y (bg (fo t k bX) y m) m else bg (fo t k bX) y m i)=true
    cases hb:Nat.beq i m with
    | false=>rw [hb] at q; exact ih i q
    | true=>
      rw [hb] at q
      simp only [cond_true] at q ⊢
      by_cases he:m=k
      ·subst he
       unfold fN e8 at q
       rcases ho with e|e<;>rw [e] at q<;>cases q
      ·unfold fN at q ⊢
       rw [hg m he]
       cases hq:(t.ins.get m).op==1 with
       | true=>rw [hq] at q; exact q
       | false=>
         rw [hq] at q
         exact DE ih (l1 _) l2 q
 unfold gM at ht ⊢
 rw [show (bW t != 0)=false from by rw [r1]; rfl,cond_false] at ht
 rw [show (bW (fo t k bX)!=0)=false from by rw [r2]; rfl,cond_false,hl]
 cases hb:(lh t).op != 20 with
 | true=>rw [hb] at ht; exact ht
 | false=>
   rw [hb] at ht
   exact key _ _ i ht
open Go Go.V
theorem JE:∀ (m k:Nat) (s:Sq af),s.n=k→(∀ i,i<k→s.get i=pI i)→(qQ m k s).n=k+m∧∀ i,i<k+m→(qQ m k s).get i=pI i
 | 0,k,s,hn,h=>⟨hn,h⟩
 | m+1,k,s,hn,h=>by
   obtain ⟨h1,h2⟩:=JE m (k+1) (bC s (pI k)) (by show s.n+1=_; omega) (fun i hi=>by
    by_cases hq:i<k
    ·rw [show (bC s (pI k)).get i=s.get i from oX (by omega)]; exact h i hq
    ·rw [show i=s.n by omega,show (bC s (pI k)).get s.n=pI k from mQ,hn])
   exact ⟨by show (qQ m (k+1) (bC s (pI k))).n=_; omega,fun i hi=>h2 i (by omega)⟩
theorem RW {k:Nat} (hk:k<4):aO (pI k)=true:=by
 refine e7 (by show (0:Int)≤_; omega) (fa (a:=0) (b:=0) (by show (0:Int)≤1∧(1:Int)≤21; decide) rfl ⟨by show (0:Int)≤0; omega,by show (0:Int)≤0; omega⟩) ?_
 have e:ln (pI k)=true:=by
  unfold ln
  rw [show decide ((pI k).k.n<0)=false from decide_eq_false (by show ¬ (k:Int)<0; omega),show decide ((pI k).k.n≥24)=false from decide_eq_false (by show ¬ (k:Int)≥24; omega),show ((pI k).k.s.toList==(ByteArray.mk #[]).toList)=true from beq_self_eq_true _]
  rfl
 rw [e]
 rfl
theorem WT {P:Nat} (h1:1≤P) (h4:P≤4) (p:Nat):dC P P ⟨p,qQ P 0 gX,nO⟩:=by
 obtain ⟨hn,hg⟩:=JE P 0 gX rfl (fun i hi=>absurd hi (Nat.not_lt_zero i))
 have hn:(qQ P 0 gX).n=P:=by omega
 have hg:∀ i,i<P→(qQ P 0 gX).get i=pI i:=fun i hi=>hg i (by omega)
 refine ⟨h1,h4,by show P≤(qQ P 0 gX).n; omega,by show (qQ P 0 gX).n≤P; omega,bB _,fun k hk=>?_,fun k hk=>?_,fun k hk=>?_⟩
 all_goals
  have hk:k<P:=by
   have hk:k<(qQ P 0 gX).n:=hk
   omega
 ·show Sc (qQ P 0 gX) nO P k
  refine ⟨fun _=>?_,fun q=>absurd hk (by omega),?_,fun j hj=>?_,?_,.inl ?_⟩
  ·rw [hg k hk]; exact ⟨rfl,rfl⟩
  ·rw [hg k hk]; exact RW (by omega)
  ·rw [hg k hk] at hj; exact absurd hj (Nat.not_lt_zero j)
  ·rw [hg k hk]; rfl
  ·rw [hg k hk]; exact ⟨rfl,(by decide:eX (1:Int)≠2)⟩
 ·show (((qQ P 0 gX).get k).op==17)=false∧iv ((qQ P 0 gX).get k)=false
  rw [hg k hk]; exact ⟨rfl,rfl⟩
 ·show ((qQ P 0 gX).get k).exit<(0:Nat)
  rw [hg k hk]; exact (by decide:(-1:Int)<(0:Nat))
theorem Dy (l:Sq Int) (ins:Sq af) (P:Nat) (hP:∀ i:Nat,i<P→fX ins (i:Int) ins.n) (hv:∀ p,fX ins (vl l p ins).1 ins.n):∀ (m k p:Nat) (h:Sq Int),k+m≤P→(∀ i,i<h.n→fX ins (h.get i) ins.n)→∀ i,i<(rv l ins m k p h).n→fX ins ((rv l ins m k p h).get i) ins.n
 | 0,k,p,h,_,hh=>hh
 | m+1,k,p,h,hk,hh=>by
   unfold rv
   cases (nx l p 2).1==0 with
   | true=>exact Dy l ins P hP hv m _ _ _ (by omega) (iG (P:=fun v=>fX ins v ins.n) hh (hP k (by omega)))
   | false=>exact Dy l ins P hP hv m _ _ _ (by omega) (iG (P:=fun v=>fX ins v ins.n) hh (hv _))
theorem dC.fin {P c:Nat} {s:dv} (h:dC P c s) (hc:c≤59) {x:af} {ex:Sq ag} (x0:iv x=true) (x1:x.op≠1) (x2:aO x=true) (x3:∀ j,j<(aR x).n→fX s.ins ((aR x).get j) s.ins.n) (x4:x.once=false) (x5:x.op=20→x.args.n=P) (Nh:s.ex.n≤ex.n) (hex:ex.n≤60) (UX:∀ e,e<s.ex.n→ex.get e=s.ex.get e) (he:(x.exit = -1∧eX x.op≠2)∨∃ e:Nat,x.exit=(e:Int)∧e<ex.n∧eX x.op≠0∧IV s.ins (ex.get e) s.ins.n∧∀ j,j<s.ins.n→(s.ins.get j).exit≠(e:Int)):gQ ⟨⟨0,0⟩,bC s.ins x,ex⟩ P:=by
 have hni:=h.ni
 have lt:∀ {i:Nat},i<s.ins.n→(bC s.ins x).get i=s.ins.get i:=fun hi=>oX hi
 have at':(bC s.ins x).get s.ins.n=x:=mQ
 refine ⟨by show s.ins.n+1≤200; omega,hex,Nat.succ_pos _,Int.le_refl _,Int.le_refl _,Nat.le_succ_of_le h.pn,h.YS x1 x2 x3 x4 Nh UX he,fun k hk=>?_,fun k hk=>?_⟩
 ·have hk:k<s.ins.n+1:=hk
  show iv ((bC s.ins x).get k)=decide (k+1=s.ins.n+1)
  by_cases hq:k<s.ins.n
  ·rw [lt hq,(h.TF k hq).2,decide_eq_false (by omega)]
  ·rw [show k=s.ins.n by omega,at',x0,decide_eq_true rfl]
 ·have hk:k<s.ins.n+1:=hk
  show ((bC s.ins x).get k).op=20→((bC s.ins x).get k).args.n=P
  by_cases hq:k<s.ins.n
  ·rw [lt hq]
   intro q
   have:=(h.TF k hq).2
   unfold iv at this
   rw [q] at this
   cases this
  ·rw [show k=s.ins.n by omega,at']; exact x5
theorem Ec (l:Sq Int):∃ P,gQ (made l) P:=by
 obtain ⟨d,hd,dp⟩:=il (l:=l) (p:=0) (n:=4) (by omega) (by omega)
 unfold made
 rw [hd]
 show ∃ P,gQ (LY l (1+d) (nx l 0 4).2 (qQ (1+d) 0 gX) nO) P
 refine ⟨1+d,?_⟩
 generalize (nx l 0 4).2=p
 have h0:=WT (P:=1+d) (by omega) (by omega) p
 unfold LY
 have hf:=uE (l:=l) (p:=p) (n:=4) (by omega) (by omega)
 obtain ⟨e,he,hle⟩:=il (l:=l) (p:=(lv l (nx l p 4).2 (qQ (1+d) 0 gX) 0 (1+d)).2) (n:=14) (by omega) (by omega)
 rw [he]
 generalize hF:1+(nx l p 4).1=fuel
 have h1:dC (1+d) (1+d+1) (MP l fuel (1+d) (nx l p 4).2 (qQ (1+d) 0 gX) nO):=
  h0.both _ (SF (by omega)) rfl (by decide:eX (18:Int)≠0) (h0.WB (by omega) l _ 0 (by omega))
 have h2:=dC.VG (l:=l) (fuel:=fuel) (by omega) e _ _ h1 (by omega)
 show gQ (rh l fuel (1+d) (ML l fuel (1+d) e _)) (1+d)
 generalize ML l fuel (1+d) e (MP l fuel (1+d) (nx l p 4).2 (qQ (1+d) 0 gX) nO)=s at h2 ⊢
 have h2:=h2.le (c':=57) (by omega)
 unfold rh
 cases (nx l s.p 6).1==0 with
 | true=>
   have Nh:=h2.ne
   refine h2.fin (by omega) rfl (by show (21:Int)≠1; decide) (e7 (by show (0:Int)≤_; omega) (fa (a:=0) (b:=0) (by show (0:Int)≤21∧(21:Int)≤21; decide) rfl ⟨by show (0:Int)≤0; omega,by show (0:Int)≤0; omega⟩) rfl) (fun j hj=>absurd hj (Nat.not_lt_zero j)) rfl (fun q=>absurd q (by show (21:Int)≠20; decide)) (Nat.le_succ _) (by show s.ex.n+1≤60; omega) (fun e he=>oX he) (.inr ⟨s.ex.n,rfl,Nat.lt_succ_self _,(by decide:eX (21:Int)≠0),?_,fun j hj=>by have:=h2.ext j hj; omega⟩)
   rw [show (bT s.ex (lv l (nx l s.p 6).2 s.ins fuel (1+d)).1).get s.ex.n=_ from mQ]
   exact h2.WB (by omega) l _ fuel (by omega)
 | false=>
   have Nh:=h2.ne
   have hA:=Dy l s.ins (1+d) (fun i hi=>h2.par hi) (h2.zL (by omega) l) (1+d) 0 (nx l s.p 6).2 (cx 0) (by omega) (fun i hi=>absurd hi (Nat.not_lt_zero i))
   have hn:=Gc l s.ins (1+d) 0 (nx l s.p 6).2 (cx 0)
   have hn:(rv l s.ins (1+d) 0 (nx l s.p 6).2 (cx 0)).n=0+(1+d):=hn
   show gQ ⟨⟨0,0⟩,bC s.ins { cm 20 0 0 0 0 (-1) with args:=rv l s.ins (1+d) 0 (nx l s.p 6).2 (cx 0) },s.ex⟩ (1+d)
   generalize rv l s.ins (1+d) 0 (nx l s.p 6).2 (cx 0)=g at hA hn
   exact h2.fin (by omega) rfl (by show (20:Int)≠1; decide) (e7 (by show (0:Int)≤_; omega) (fa (a:=0) (b:=0) (by show (0:Int)≤20∧(20:Int)≤21; decide) rfl ⟨by show (0:Int)≤0; omega,by show (0:Int)≤0; omega⟩) rfl) hA rfl (fun _=>by show g.n=1+d; omega) (bf _) (by omega) (fun _ _=>rfl) (.inl ⟨rfl,(by decide:eX (20:Int)≠2)⟩)
theorem HY (l:Sq Int):HK (made l):=by
 obtain ⟨P,h⟩:=Ec l
 have hg:=Hg l
 refine h.more ?_ fun k hk=>(hg.gi k hk).n
 exact ⟨bU hg.ins (by omega),bU hg.aa (by omega),fun k q=>bU (hg.gi k q).args (by omega),fun k q=>bU (hg.gi k q).names (by omega),fun k q=>bU (hg.gi k q).str (by omega),fun k q=>⟨bU (hg.ge k q).frames (by omega),fun j r=>bU ((hg.ge k q).vars j r) (by omega),bU (hg.ge k q).aC (by omega),fun j r=>bU ((hg.ge k q).names j r) (by omega),fun j r=>bU ((hg.ge k q).items j r) (by omega)⟩⟩
theorem Ul (l:Sq Int) (w:Int) (h0:0≤w) (h1:w≤255) (hl:l.n≤maxLen):LC 4 [eR 1 cg l,.c (.im (.v (.int .u8 w)))] [] (bool true) []:=
 Cg l w h0 h1 (made l) (HY l) (UW l hl)
end
end Go.Proofs.YtghfgcfabbbbbaaDoor
