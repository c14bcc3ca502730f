/- Loops: what is to be shown. -/
import Derived.Test.YtghfgcfabbbbbaaDoorP8
import Derived.Test.YtghfgcfabbbbbaaDoorP7
set_option linter.unusedVariables false
set_option linter.unusedSimpArgs false
set_option maxRecDepth 1000000
namespace Go.Proofs.YtghfgcfabbbbbaaDoor
open Go Go.V
noncomputable section
section
def yv (x:aj) (c:Int):aj:={ x with op:=c }
def eB (b:Bool):Nat→I:=fun _=>iB b
def cS (t:ae) (o:Nat→Bool) (x:aj):Bool:=
 bif x.op==2 then true else
 bif x.op==4||x.op==9 then o x.a.toNat&&o x.b.toNat else
 bif x.op==10 then kl t x&&o x.a.toNat else
 bif x.op==12 then nY t&&(o x.a.toNat&&o x.b.toNat) else
 bif cC x.op [3,5,6,7,8,14] then o x.a.toNat else false
def ia (t:ae) (y:aj) (o:Nat→Bool) (k:Nat):Bool:=bif (t.ins.get k).op==1 then y.args.get k==(k:Int) else cS t o (t.ins.get k)
def bB (t:ae) (y:aj):Nat→Nat→Bool
 | 0=>fun _=>false
 | k+1=>fun i=>bif Nat.beq i k then ia t y (bB t y k) k else bB t y k i
def jx (t:ae):aj:=t.ins.get (t.ins.n-1)
def nF (t:ae):Sq Bool:=bif eO t != 0 then ⟨0,fun _=>false⟩ else bif (jx t).op != 20 then ⟨t.ins.n,fun _=>false⟩ else ⟨t.ins.n,bB t (jx t) t.ins.n⟩
end
def dg:Nat→Bool:=fun i=>Nat.beq i 5||Nat.beq i 8||Nat.beq i 12
theorem ab1:Fn 10:=⟨by kernel_rfl,by kernel_rfl⟩
abbrev ff:gF:=(4,((.c (.rt 3 0 0)),[]))
abbrev G4 (ax:ae):ah:=.arr 4 1 ax.2.1 (fun x=>bH [I.v (Value.bool false)])
abbrev eZ (ax:ae):ah:=.box [(.sa 1 ax.2.1)]
theorem af3 (L:LP) (QD:D→Prop) (t:ae) (h:(LC 29 [(dw t)] [] (int (eO t)) []∧br (eO t != 0) (QD (.c b6)) (nd (t.2.1.ble maxLen&&(t.2.1*1).ble 281474976710656) (nd (t.2.1.beq t.2.1) (nd (cd (IntKind.i64.wrap ((↑t.2.1:Int)-1)) t.2.1) (L (ag 10 5) ⟨[b5,cN,ff],[(bC t),(G4 t),(eZ t),(.box (lift (aT (t.2.2 (IntKind.i64.wrap ((↑t.2.1:Int)-1)).toNat))))],[]⟩)))))):fS XH 10 dg L (aZ QD) [bc t] []:=Eq.mp (by kernel_rfl) h
def RJ (t:ae)  : VS:=⟨[lV,(3,(.c (.rt 2 0 0)),[]),(4,(.c (.rt 3 0 0)),[])],[(bC t),(G4 t),(eZ t),(.box (lift (aT (t.2.2 (IntKind.i64.wrap ((↑t.2.1:Int)-1)).toNat))))],[]⟩
abbrev fz (ax:ae):gF:=(28,((Hj ax),[]))
abbrev fy (ax:ae):gF:=(29,((pk ax),[]))
theorem QM (L:LP) (QD:D→Prop) (t:ae)  (h:br ((t.2.2 (IntKind.i64.wrap ((↑t.2.1:Int)-1)).toNat).1 != 20) (QD (.c (.im (.sl 1 t.2.1 (fun x=>bH [I.v (Value.bool false)]))))) (L (ag 10 8) ⟨[b5,cN,ff,(fz t),(fy t),(30,((int 0),[]))],[(bC t),(G4 t),(eZ t),(.box (lift (aT (t.2.2 (IntKind.i64.wrap ((↑t.2.1:Int)-1)).toNat))))],[]⟩)):dq XH 10 dg L (aZ QD) 5 (RJ t ):=Eq.mp (by kernel_rfl) h
def bw (t:ae) (y:aj) (o:Nat→Bool) (k:Nat):VS:=⟨[ka,jn,(4,.c (.rt 3 0 0),[]),(28,.c (.im (sJ 14 cy t.ins)),[]),(29,int t.ins.n,[]),(30,int k,[])],[.box (lift (cB t)),.arr 4 1 t.ins.n (fun i _=>iB (o i)),.box [.sa 1 t.ins.n],.box (lift (aT y))],[]⟩
theorem J8 (L:LP) (QD:D→Prop) (t:ae) (y:aj) (o:Nat→Bool) (k:Nat) (h:br (decide ((↑k:Int)<(↑t.2.1:Int))) (nd (cd (↑k:Int) t.2.1) (br ((t.2.2 k).1==1) (nd (cd (↑k:Int) y.6.1) (nd (cd (↑k:Int) t.2.1) (nd (k.blt t.2.1) (nd (cd (↑k:Int) y.6.1) (nd (cd (↑k:Int) t.2.1) (nd (k.blt t.2.1) (L (ag 10 8) ⟨[b5,cN,ff,(fz t),(fy t),(30,((int (IntKind.i64.wrap ((↑k:Int)+1))),[]))],[(bC t),(.arr 4 1 t.2.1 (jS (fun i x=>iB (o i)) k 0 [I.v (Value.bool (y.6.2 k==(↑k:Int)))])),(eZ t),(b4 y),(.box (lift (aT (t.2.2 k))))],[]⟩))))))) (L (ag 10 12) ⟨[b5,cN,ff,(kv k),(6,((.c (.rt 4 0 0)),[])),(fz t),(fy t),(30,((int (↑k:Int)),[])),(37,((bool false),[]))],[(bC t),(.arr 4 1 t.2.1 (fun i x=>iB (o i))),(eZ t),(b4 y),(.box (lift (aT (t.2.2 k))))],[]⟩))) (QD (.c (.im (.sl 1 t.2.1 (fun i x=>iB (o i))))))):dq XH 10 dg L (aZ QD) 8 (bw t y o k):=Eq.mp (by kernel_rfl) h
theorem aJ.of_eq {x y:ah} (h:x=y):aJ x y:=h▸aJ.refl x
theorem gB {n:Nat} {o:Nat→Bool} {k:Nat} {v w:Bool} (hv:v=w):aJ (.arr 4 1 n (jS (fun i _=>iB (o i)) k 0 [.v (.bool v)])) (.arr 4 1 n (fun i _=>iB (bif Nat.beq i k then w else o i))):=
 aJ.arr fun i _ j hj=>by
  have hj:j=0:=by omega
  subst hj
  subst hv
  show dr (Bool.rec (iB (o i)) (bH [I.v (.bool v)] (0-0)) (Nat.beq i k&&(Nat.ble 0 0&&Nat.blt 0 (0+1)))) (iB (bif Nat.beq i k then v else o i))
  cases Nat.beq i k<;>exact dr.refl _
theorem q0 (p:Nat→Bool):(!decide (cU p 0≥0))=true:=rfl
theorem q1 (o:Nat→Bool) (a:Int):(!decide (cU (fun i => !o (rI (flat 1 [iI a] i)).toNat) 1≥0))=o a.toNat:=by
 show (!decide ((bif !o a.toNat then (0:Int) else -1)≥0))=_
 cases o a.toNat<;>rfl
theorem q2 (o:Nat→Bool) (a b:Int):(!decide (cU (fun i => !o (rI (flat 1 [iI a,iI b] i)).toNat) 2≥0))=(o a.toNat&&o b.toNat):=by
 show (!decide ((bif !o a.toNat then (0:Int) else bif !o b.toNat then (1:Int) else -1)≥0))=_
 cases o a.toNat<;>cases o b.toNat<;>rfl
theorem O6 {L:List Int} {n:Nat} (hn:n≤L.length):aX (.c (.im (.sl 1 n (flat 1 (L.map iI))))) (eT 1 b8 ⟨n,fun i=>rI (flat 1 (L.map iI) i)⟩):=
 zB (dr.sl fun i hi j hj=>by
  have hj:j=0:=by omega
  subst hj
  show dr (bH (L.map iI) (i*1+0)) (iI (cE (bH (L.map iI) (i*1+0))))
  rw [Nat.mul_one,Nat.add_zero,mM (by omega)]
  exact dr.refl _)
theorem xz {m:Nat} {o:Nat→Bool} {g:Nat→I} (h:g 0=.pt 1 (bH [I.sl 1 m fun i _=>iB (o i)])):aX (.c (.im (.fn 33 1 g))) (.c (.im (.fn 33 1 fun _=>.pt 1 fun _=>.sl 1 m fun i _=>iB (o i)))):=
 zB (dr.fn fun j hj=>by
  have hj:j=0:=by omega
  subst hj
  rw [h]
  exact dr.pt fun j hj=>by
   have hj:j=0:=by omega
   subst hj
   exact dr.refl _)
theorem T2 {n:Nat} {o:Nat→Bool} {g:Nat→I} (h:g 0=.pt 1 (bH [I.sl 1 n fun i _=>iB (o i)])):LC 32 [.c (.im (.sl 1 0 (flat 1 []))),.c (.im (.fn 33 1 g))] [] (bool (decide (cU (fun i => !o (rI (flat 1 []  i)).toNat) 0≥0))) []:=
 cu.pre (G6 ⟨0,fun i=>rI (flat 1 [] i)⟩ o n (fun i hi=>absurd hi (Nat.not_lt_zero i))) (.cons (O6 (L:=[]) (bk _)) (.cons (xz h) .nil))
theorem lI {n:Nat} {o:Nat→Bool} {g:Nat→I} {a:Int} (h:g 0=.pt 1 (bH [I.sl 1 n fun i _=>iB (o i)])) (ha:cd a n=true):LC 32 [.c (.im (.sl 1 1 (flat 1 [iI a]))),.c (.im (.fn 33 1 g))] [] (bool (decide (cU (fun i => !o (rI (flat 1 [iI a] i)).toNat) 1≥0))) []:=
 cu.pre (G6 ⟨1,fun i=>rI (flat 1 [iI a] i)⟩ o n (fun i hi=>by
  have hi:i<1:=hi
  have:i=0:=by omega
  subst this
  exact ha)) (.cons (O6 (L:=[a]) (bk _)) (.cons (xz h) .nil))
theorem zF {n:Nat} {o:Nat→Bool} {g:Nat→I} {a b:Int} (h:g 0=.pt 1 (bH [I.sl 1 n fun i _=>iB (o i)])) (ha:cd a n=true) (hb:cd b n=true):LC 32 [.c (.im (.sl 1 2 (flat 1 [iI a,iI b]))),.c (.im (.fn 33 1 g))] [] (bool (decide (cU (fun i => !o (rI (flat 1 [iI a,iI b] i)).toNat) 2≥0))) []:=
 cu.pre (G6 ⟨2,fun i=>rI (flat 1 [iI a,iI b] i)⟩ o n (fun i hi=>by
  have hi:i<2:=hi
  match i,hi with
  | 0,_=>exact ha
  | 1,_=>exact hb)) (.cons (O6 (L:=[a,b]) (bk _)) (.cons (xz h) .nil))
abbrev mq (ax:ae) (aF:Nat):aN:=[ka,jn,(4,.c (.rt 3 0 0),[]),(28,.c (.im (sJ 14 cy ax.ins)),[]),(29,int ax.ins.n,[]),(30,int aF,[]),(5,int aF,[]),(6,.c (.rt 4 0 0),[])]
def qo (t:ae) (y x:aj) (o:Nat→Bool) (k:Nat):VS:=⟨(mq t k),[.box (lift (cB t)),.arr 4 1 t.ins.n (fun i _=>iB (o i)),.box [.sa 1 t.ins.n],.box (lift (aT y)),.box (lift (aT (yv x 0)))],[]⟩
theorem HT (L:LP) (QD:D→Prop) (t:ae) (y x:aj) (o:Nat→Bool) (k:Nat) (h:L (ag 10 8) ⟨[b5,cN,ff,(fz t),(fy t),(30,((int (IntKind.i64.wrap ((↑k:Int)+1))),[]))],[(bC t),(.arr 4 1 t.2.1 (fun i x=>iB (o i))),(eZ t),(b4 y),(.box (lift (aT ({ op:=Int.ofNat 0,a:=x.2,b:=x.3,c:=x.4,n:=x.5,args:=x.6,k:=x.7,names:=x.8,place:=x.9,exit:=x.10,once:=x.11 }))))],[]⟩):dq XH 10 dg L (aZ QD) 12 (qo t y x o k):=Eq.mp (by kernel_rfl) h
theorem Sa {Q:D→Prop} (t:ae) (y x:aj) (o:Nat→Bool) (k:Nat) (hk:k<t.ins.n) (hx:t.ins.n≤maxLen) (g:af 10 0 (fun d rs=>cV (bj rs d) Q) (ag 10 8) (bw t y o (k+1))):af 10 0 (fun d rs=>cV (bj rs d) Q) (ag 10 12) (qo t y x o k):=by
 refine reach (X:=XH) (stop:=dg) (HT _ Q t y x o k ?_)
 rw [bR hk hx]
 exact af.rename [0,1,2,3] rfl g
def rb (t:ae) (y x:aj) (o:Nat→Bool) (k:Nat):VS:=⟨(mq t k),[.box (lift (cB t)),.arr 4 1 t.ins.n (fun i _=>iB (o i)),.box [.sa 1 t.ins.n],.box (lift (aT y)),.box (lift (aT (yv x 2)))],[]⟩
abbrev FT (ax:aj):List C:=lift (aT ({ op:=Int.ofNat 2,a:=ax.2,b:=ax.3,c:=ax.4,n:=ax.5,args:=ax.6,k:=ax.7,names:=ax.8,place:=ax.9,exit:=ax.10,once:=ax.11 }))
abbrev jY (ax:aj):ah:=.row 3 1 2 [(ci ax.2),(ci ax.3)]
theorem Hc (L:LP) (QD:D→Prop) (t:ae) (y x:aj) (o:Nat→Bool) (k:Nat) (h:(LC 123 [(dw t),(.a (FT x))] [] (bool true) []∧(LC 32 [H3,(.c (.im (.fn 33 1 (fun q=>match nth [I.pt 1 (bH [I.sl 1 t.2.1 fun i x=>iB (o i)])] q with|some x=>x|none=>I.v (Value.tuple #[])))))] [] (bool (decide (cU (fun i => !fG (I.pt 1 (bH [I.sl 1 t.2.1 fun i x=>iB (o i)])) 0) 0≥0))) []∧nd (cd (↑k:Int) t.2.1) (nd (k.blt t.2.1) ((LC 123 [(dw t),(.a (FT x))] [] (bool true) []∧(LC 32 [H3,(.c (.im (.fn 33 1 (fun q=>match nth [I.pt 1 (bH [I.sl 1 t.2.1 fun i x=>iB (o i)])] q with|some x=>x|none=>I.v (Value.tuple #[])))))] [] (bool (decide (cU (fun i => !fG (I.pt 1 (bH [I.sl 1 t.2.1 fun i x=>iB (o i)])) 0) 0≥0))) []∧nd (cd (↑k:Int) t.2.1) (nd (k.blt t.2.1) (L (ag 10 8) ⟨[b5,cN,ff,(fz t),(fy t),(30,((int (IntKind.i64.wrap ((↑k:Int)+1))),[]))],[(bC t),(.arr 4 1 t.2.1 (jS (fun i x=>iB (o i)) k 0 [I.v (Value.bool !decide (cU (fun i => !fG (I.pt 1 (bH [I.sl 1 t.2.1 fun i x=>iB (o i)])) 0) 0≥0))])),(eZ t),(b4 y),(.box (FT x)),(jY x),.dead,.dead],[]⟩))))))))):dq XH 10 dg L (aZ QD) 12 (rb t y x o k):=Eq.mp (by kernel_rfl) h
theorem S6 {Q:D→Prop} (t:ae) (y x:aj) (o:Nat→Bool) (k:Nat) (hk:k<t.ins.n) (hx:t.ins.n≤maxLen) (g:af 10 0 (fun d rs=>cV (bj rs d) Q) (ag 10 8) (bw t y (fun i=>bif Nat.beq i k then true else o i) (k+1))):af 10 0 (fun d rs=>cV (bj rs d) Q) (ag 10 12) (rb t y x o k):=by
 refine reach (X:=XH) (stop:=dg) (Hc _ Q t y x o k ?_)
 refine ⟨fp _ _,?_⟩
 refine ⟨T2 rfl,?_⟩
 refine aw (by first|assumption|exact aA hk|(simpa [cD] using hk)) ?_
 refine aw (by first|assumption|exact aA hk|(simpa [cD] using hk)) ?_
 refine ⟨fp _ _,?_⟩
 refine ⟨T2 rfl,?_⟩
 refine aw (by first|assumption|exact aA hk|(simpa [cD] using hk)) ?_
 refine aw (by first|assumption|exact aA hk|(simpa [cD] using hk)) ?_
 rw [bR hk hx]
 exact af.rename [0,1,2,3] rfl (af.le (bw t y (fun i=>bif Nat.beq i k then true else o i) (k+1)) (by repeat' (first|exact trivial|refine bV rfl ?_)) (rc (.cons (gB (q0 _)) (rc (rc .nil)))) rfl g)
def qC (t:ae) (y x:aj) (o:Nat→Bool) (k:Nat):VS:=⟨(mq t k),[.box (lift (cB t)),.arr 4 1 t.ins.n (fun i _=>iB (o i)),.box [.sa 1 t.ins.n],.box (lift (aT y)),.box (lift (aT (yv x 3)))],[]⟩
abbrev FB (ax:aj):List C:=lift (aT ({ op:=Int.ofNat 3,a:=ax.2,b:=ax.3,c:=ax.4,n:=ax.5,args:=ax.6,k:=ax.7,names:=ax.8,place:=ax.9,exit:=ax.10,once:=ax.11 }))
theorem Gt (L:LP) (QD:D→Prop) (t:ae) (y x:aj) (o:Nat→Bool) (k:Nat) (h:(LC 123 [(dw t),(.a (FB x))] [] (bool true) []∧(LC 32 [(gz x),(.c (.im (.fn 33 1 (fun q=>match nth [I.pt 1 (bH [I.sl 1 t.2.1 fun i x=>iB (o i)])] q with|some x=>x|none=>I.v (Value.tuple #[])))))] [] (bool (decide (cU (fun i => !fG (I.pt 1 (bH [I.sl 1 t.2.1 fun i x=>iB (o i)])) (rI (flat 1 [iI x.2] i)).toNat) 1≥0))) []∧nd (cd (↑k:Int) t.2.1) (nd (k.blt t.2.1) ((LC 123 [(dw t),(.a (FB x))] [] (bool true) []∧(LC 32 [(gz x),(.c (.im (.fn 33 1 (fun q=>match nth [I.pt 1 (bH [I.sl 1 t.2.1 fun i x=>iB (o i)])] q with|some x=>x|none=>I.v (Value.tuple #[])))))] [] (bool (decide (cU (fun i => !fG (I.pt 1 (bH [I.sl 1 t.2.1 fun i x=>iB (o i)])) (rI (flat 1 [iI x.2] i)).toNat) 1≥0))) []∧nd (cd (↑k:Int) t.2.1) (nd (k.blt t.2.1) (L (ag 10 8) ⟨[b5,cN,ff,(fz t),(fy t),(30,((int (IntKind.i64.wrap ((↑k:Int)+1))),[]))],[(bC t),(.arr 4 1 t.2.1 (jS (fun i x=>iB (o i)) k 0 [I.v (Value.bool !decide (cU (fun i => !fG (I.pt 1 (bH [I.sl 1 t.2.1 fun i x=>iB (o i)])) (rI (flat 1 [iI x.2] i)).toNat) 1≥0))])),(eZ t),(b4 y),(.box (FB x)),(jY x),.dead,.dead],[]⟩))))))))):dq XH 10 dg L (aZ QD) 12 (qC t y x o k):=Eq.mp (by kernel_rfl) h
theorem RQ {Q:D→Prop} (t:ae) (y x:aj) (o:Nat→Bool) (k:Nat) (hk:k<t.ins.n) (hx:t.ins.n≤maxLen) (ha:cd x.a t.ins.n=true) (g:af 10 0 (fun d rs=>cV (bj rs d) Q) (ag 10 8) (bw t y (fun i=>bif Nat.beq i k then o x.a.toNat else o i) (k+1))):af 10 0 (fun d rs=>cV (bj rs d) Q) (ag 10 12) (qC t y x o k):=by
 refine reach (X:=XH) (stop:=dg) (Gt _ Q t y x o k ?_)
 refine ⟨fp _ _,?_⟩
 refine ⟨lI rfl ha,?_⟩
 refine aw (by first|assumption|exact aA hk|(simpa [cD] using hk)) ?_
 refine aw (by first|assumption|exact aA hk|(simpa [cD] using hk)) ?_
 refine ⟨fp _ _,?_⟩
 refine ⟨lI rfl ha,?_⟩
 refine aw (by first|assumption|exact aA hk|(simpa [cD] using hk)) ?_
 refine aw (by first|assumption|exact aA hk|(simpa [cD] using hk)) ?_
 rw [bR hk hx]
 exact af.rename [0,1,2,3] rfl (af.le (bw t y (fun i=>bif Nat.beq i k then o x.a.toNat else o i) (k+1)) (by repeat' (first|exact trivial|refine bV rfl ?_)) (rc (.cons (gB (q1 o x.a)) (rc (rc .nil)))) rfl g)
def qL (t:ae) (y x:aj) (o:Nat→Bool) (k:Nat):VS:=⟨(mq t k),[.box (lift (cB t)),.arr 4 1 t.ins.n (fun i _=>iB (o i)),.box [.sa 1 t.ins.n],.box (lift (aT y)),.box (lift (aT (yv x 4)))],[]⟩
abbrev Hv (ax:aj):List C:=lift (aT ({ op:=Int.ofNat 4,a:=ax.2,b:=ax.3,c:=ax.4,n:=ax.5,args:=ax.6,k:=ax.7,names:=ax.8,place:=ax.9,exit:=ax.10,once:=ax.11 }))
theorem Gx (L:LP) (QD:D→Prop) (t:ae) (y x:aj) (o:Nat→Bool) (k:Nat) (h:(LC 123 [(dw t),(.a (Hv x))] [] (bool true) []∧(LC 32 [(nQ x),(.c (.im (.fn 33 1 (fun q=>match nth [I.pt 1 (bH [I.sl 1 t.2.1 fun i x=>iB (o i)])] q with|some x=>x|none=>I.v (Value.tuple #[])))))] [] (bool (decide (cU (fun i => !fG (I.pt 1 (bH [I.sl 1 t.2.1 fun i x=>iB (o i)])) (rI (flat 1 [iI x.2,iI x.3] i)).toNat) 2≥0))) []∧nd (cd (↑k:Int) t.2.1) (nd (k.blt t.2.1) ((LC 123 [(dw t),(.a (Hv x))] [] (bool true) []∧(LC 32 [(nQ x),(.c (.im (.fn 33 1 (fun q=>match nth [I.pt 1 (bH [I.sl 1 t.2.1 fun i x=>iB (o i)])] q with|some x=>x|none=>I.v (Value.tuple #[])))))] [] (bool (decide (cU (fun i => !fG (I.pt 1 (bH [I.sl 1 t.2.1 fun i x=>iB (o i)])) (rI (flat 1 [iI x.2,iI x.3] i)).toNat) 2≥0))) []∧nd (cd (↑k:Int) t.2.1) (nd (k.blt t.2.1) (L (ag 10 8) ⟨[b5,cN,ff,(fz t),(fy t),(30,((int (IntKind.i64.wrap ((↑k:Int)+1))),[]))],[(bC t),(.arr 4 1 t.2.1 (jS (fun i x=>iB (o i)) k 0 [I.v (Value.bool !decide (cU (fun i => !fG (I.pt 1 (bH [I.sl 1 t.2.1 fun i x=>iB (o i)])) (rI (flat 1 [iI x.2,iI x.3] i)).toNat) 2≥0))])),(eZ t),(b4 y),(.box (Hv x)),(jY x),.dead,.dead],[]⟩))))))))):dq XH 10 dg L (aZ QD) 12 (qL t y x o k):=Eq.mp (by kernel_rfl) h
theorem Rx {Q:D→Prop} (t:ae) (y x:aj) (o:Nat→Bool) (k:Nat) (hk:k<t.ins.n) (hx:t.ins.n≤maxLen) (ha:cd x.a t.ins.n=true) (hb:cd x.b t.ins.n=true) (g:af 10 0 (fun d rs=>cV (bj rs d) Q) (ag 10 8) (bw t y (fun i=>bif Nat.beq i k then (o x.a.toNat&&o x.b.toNat) else o i) (k+1))):af 10 0 (fun d rs=>cV (bj rs d) Q) (ag 10 12) (qL t y x o k):=by
 refine reach (X:=XH) (stop:=dg) (Gx _ Q t y x o k ?_)
 refine ⟨fp _ _,?_⟩
 refine ⟨zF rfl ha hb,?_⟩
 refine aw (by first|assumption|exact aA hk|(simpa [cD] using hk)) ?_
 refine aw (by first|assumption|exact aA hk|(simpa [cD] using hk)) ?_
 refine ⟨fp _ _,?_⟩
 refine ⟨zF rfl ha hb,?_⟩
 refine aw (by first|assumption|exact aA hk|(simpa [cD] using hk)) ?_
 refine aw (by first|assumption|exact aA hk|(simpa [cD] using hk)) ?_
 rw [bR hk hx]
 exact af.rename [0,1,2,3] rfl (af.le (bw t y (fun i=>bif Nat.beq i k then (o x.a.toNat&&o x.b.toNat) else o i) (k+1)) (by repeat' (first|exact trivial|refine bV rfl ?_)) (rc (.cons (gB (q2 o x.a x.b)) (rc (rc .nil)))) rfl g)
def qD (t:ae) (y x:aj) (o:Nat→Bool) (k:Nat):VS:=⟨(mq t k),[.box (lift (cB t)),.arr 4 1 t.ins.n (fun i _=>iB (o i)),.box [.sa 1 t.ins.n],.box (lift (aT y)),.box (lift (aT (yv x 5)))],[]⟩
abbrev HC (ax:aj):List C:=lift (aT ({ op:=Int.ofNat 5,a:=ax.2,b:=ax.3,c:=ax.4,n:=ax.5,args:=ax.6,k:=ax.7,names:=ax.8,place:=ax.9,exit:=ax.10,once:=ax.11 }))
theorem HX (L:LP) (QD:D→Prop) (t:ae) (y x:aj) (o:Nat→Bool) (k:Nat) (h:(LC 123 [(dw t),(.a (HC x))] [] (bool true) []∧(LC 32 [(gz x),(.c (.im (.fn 33 1 (fun q=>match nth [I.pt 1 (bH [I.sl 1 t.2.1 fun i x=>iB (o i)])] q with|some x=>x|none=>I.v (Value.tuple #[])))))] [] (bool (decide (cU (fun i => !fG (I.pt 1 (bH [I.sl 1 t.2.1 fun i x=>iB (o i)])) (rI (flat 1 [iI x.2] i)).toNat) 1≥0))) []∧nd (cd (↑k:Int) t.2.1) (nd (k.blt t.2.1) ((LC 123 [(dw t),(.a (HC x))] [] (bool true) []∧(LC 32 [(gz x),(.c (.im (.fn 33 1 (fun q=>match nth [I.pt 1 (bH [I.sl 1 t.2.1 fun i x=>iB (o i)])] q with|some x=>x|none=>I.v (Value.tuple #[])))))] [] (bool (decide (cU (fun i => !fG (I.pt 1 (bH [I.sl 1 t.2.1 fun i x=>iB (o i)])) (rI (flat 1 [iI x.2] i)).toNat) 1≥0))) []∧nd (cd (↑k:Int) t.2.1) (nd (k.blt t.2.1) (L (ag 10 8) ⟨[b5,cN,ff,(fz t),(fy t),(30,((int (IntKind.i64.wrap ((↑k:Int)+1))),[]))],[(bC t),(.arr 4 1 t.2.1 (jS (fun i x=>iB (o i)) k 0 [I.v (Value.bool !decide (cU (fun i => !fG (I.pt 1 (bH [I.sl 1 t.2.1 fun i x=>iB (o i)])) (rI (flat 1 [iI x.2] i)).toNat) 1≥0))])),(eZ t),(b4 y),(.box (HC x)),(jY x),.dead,.dead],[]⟩))))))))):dq XH 10 dg L (aZ QD) 12 (qD t y x o k):=Eq.mp (by kernel_rfl) h
theorem RL {Q:D→Prop} (t:ae) (y x:aj) (o:Nat→Bool) (k:Nat) (hk:k<t.ins.n) (hx:t.ins.n≤maxLen) (ha:cd x.a t.ins.n=true) (g:af 10 0 (fun d rs=>cV (bj rs d) Q) (ag 10 8) (bw t y (fun i=>bif Nat.beq i k then o x.a.toNat else o i) (k+1))):af 10 0 (fun d rs=>cV (bj rs d) Q) (ag 10 12) (qD t y x o k):=by
 refine reach (X:=XH) (stop:=dg) (HX _ Q t y x o k ?_)
 refine ⟨fp _ _,?_⟩
 refine ⟨lI rfl ha,?_⟩
 refine aw (by first|assumption|exact aA hk|(simpa [cD] using hk)) ?_
 refine aw (by first|assumption|exact aA hk|(simpa [cD] using hk)) ?_
 refine ⟨fp _ _,?_⟩
 refine ⟨lI rfl ha,?_⟩
 refine aw (by first|assumption|exact aA hk|(simpa [cD] using hk)) ?_
 refine aw (by first|assumption|exact aA hk|(simpa [cD] using hk)) ?_
 rw [bR hk hx]
 exact af.rename [0,1,2,3] rfl (af.le (bw t y (fun i=>bif Nat.beq i k then o x.a.toNat else o i) (k+1)) (by repeat' (first|exact trivial|refine bV rfl ?_)) (rc (.cons (gB (q1 o x.a)) (rc (rc .nil)))) rfl g)
def qs (t:ae) (y x:aj) (o:Nat→Bool) (k:Nat):VS:=⟨(mq t k),[.box (lift (cB t)),.arr 4 1 t.ins.n (fun i _=>iB (o i)),.box [.sa 1 t.ins.n],.box (lift (aT y)),.box (lift (aT (yv x 6)))],[]⟩
abbrev H4 (ax:aj):List C:=lift (aT ({ op:=Int.ofNat 6,a:=ax.2,b:=ax.3,c:=ax.4,n:=ax.5,args:=ax.6,k:=ax.7,names:=ax.8,place:=ax.9,exit:=ax.10,once:=ax.11 }))
theorem GW (L:LP) (QD:D→Prop) (t:ae) (y x:aj) (o:Nat→Bool) (k:Nat) (h:(LC 123 [(dw t),(.a (H4 x))] [] (bool true) []∧(LC 32 [(gz x),(.c (.im (.fn 33 1 (fun q=>match nth [I.pt 1 (bH [I.sl 1 t.2.1 fun i x=>iB (o i)])] q with|some x=>x|none=>I.v (Value.tuple #[])))))] [] (bool (decide (cU (fun i => !fG (I.pt 1 (bH [I.sl 1 t.2.1 fun i x=>iB (o i)])) (rI (flat 1 [iI x.2] i)).toNat) 1≥0))) []∧nd (cd (↑k:Int) t.2.1) (nd (k.blt t.2.1) ((LC 123 [(dw t),(.a (H4 x))] [] (bool true) []∧(LC 32 [(gz x),(.c (.im (.fn 33 1 (fun q=>match nth [I.pt 1 (bH [I.sl 1 t.2.1 fun i x=>iB (o i)])] q with|some x=>x|none=>I.v (Value.tuple #[])))))] [] (bool (decide (cU (fun i => !fG (I.pt 1 (bH [I.sl 1 t.2.1 fun i x=>iB (o i)])) (rI (flat 1 [iI x.2] i)).toNat) 1≥0))) []∧nd (cd (↑k:Int) t.2.1) (nd (k.blt t.2.1) (L (ag 10 8) ⟨[b5,cN,ff,(fz t),(fy t),(30,((int (IntKind.i64.wrap ((↑k:Int)+1))),[]))],[(bC t),(.arr 4 1 t.2.1 (jS (fun i x=>iB (o i)) k 0 [I.v (Value.bool !decide (cU (fun i => !fG (I.pt 1 (bH [I.sl 1 t.2.1 fun i x=>iB (o i)])) (rI (flat 1 [iI x.2] i)).toNat) 1≥0))])),(eZ t),(b4 y),(.box (H4 x)),(jY x),.dead,.dead],[]⟩))))))))):dq XH 10 dg L (aZ QD) 12 (qs t y x o k):=Eq.mp (by kernel_rfl) h
theorem Si {Q:D→Prop} (t:ae) (y x:aj) (o:Nat→Bool) (k:Nat) (hk:k<t.ins.n) (hx:t.ins.n≤maxLen) (ha:cd x.a t.ins.n=true) (g:af 10 0 (fun d rs=>cV (bj rs d) Q) (ag 10 8) (bw t y (fun i=>bif Nat.beq i k then o x.a.toNat else o i) (k+1))):af 10 0 (fun d rs=>cV (bj rs d) Q) (ag 10 12) (qs t y x o k):=by
 refine reach (X:=XH) (stop:=dg) (GW _ Q t y x o k ?_)
 refine ⟨fp _ _,?_⟩
 refine ⟨lI rfl ha,?_⟩
 refine aw (by first|assumption|exact aA hk|(simpa [cD] using hk)) ?_
 refine aw (by first|assumption|exact aA hk|(simpa [cD] using hk)) ?_
 refine ⟨fp _ _,?_⟩
 refine ⟨lI rfl ha,?_⟩
 refine aw (by first|assumption|exact aA hk|(simpa [cD] using hk)) ?_
 refine aw (by first|assumption|exact aA hk|(simpa [cD] using hk)) ?_
 rw [bR hk hx]
 exact af.rename [0,1,2,3] rfl (af.le (bw t y (fun i=>bif Nat.beq i k then o x.a.toNat else o i) (k+1)) (by repeat' (first|exact trivial|refine bV rfl ?_)) (rc (.cons (gB (q1 o x.a)) (rc (rc .nil)))) rfl g)
def qP (t:ae) (y x:aj) (o:Nat→Bool) (k:Nat):VS:=⟨(mq t k),[.box (lift (cB t)),.arr 4 1 t.ins.n (fun i _=>iB (o i)),.box [.sa 1 t.ins.n],.box (lift (aT y)),.box (lift (aT (yv x 7)))],[]⟩
abbrev GR (ax:aj):List C:=lift (aT ({ op:=Int.ofNat 7,a:=ax.2,b:=ax.3,c:=ax.4,n:=ax.5,args:=ax.6,k:=ax.7,names:=ax.8,place:=ax.9,exit:=ax.10,once:=ax.11 }))
theorem HN (L:LP) (QD:D→Prop) (t:ae) (y x:aj) (o:Nat→Bool) (k:Nat) (h:(LC 123 [(dw t),(.a (GR x))] [] (bool true) []∧(LC 32 [(gz x),(.c (.im (.fn 33 1 (fun q=>match nth [I.pt 1 (bH [I.sl 1 t.2.1 fun i x=>iB (o i)])] q with|some x=>x|none=>I.v (Value.tuple #[])))))] [] (bool (decide (cU (fun i => !fG (I.pt 1 (bH [I.sl 1 t.2.1 fun i x=>iB (o i)])) (rI (flat 1 [iI x.2] i)).toNat) 1≥0))) []∧nd (cd (↑k:Int) t.2.1) (nd (k.blt t.2.1) ((LC 123 [(dw t),(.a (GR x))] [] (bool true) []∧(LC 32 [(gz x),(.c (.im (.fn 33 1 (fun q=>match nth [I.pt 1 (bH [I.sl 1 t.2.1 fun i x=>iB (o i)])] q with|some x=>x|none=>I.v (Value.tuple #[])))))] [] (bool (decide (cU (fun i => !fG (I.pt 1 (bH [I.sl 1 t.2.1 fun i x=>iB (o i)])) (rI (flat 1 [iI x.2] i)).toNat) 1≥0))) []∧nd (cd (↑k:Int) t.2.1) (nd (k.blt t.2.1) (L (ag 10 8) ⟨[b5,cN,ff,(fz t),(fy t),(30,((int (IntKind.i64.wrap ((↑k:Int)+1))),[]))],[(bC t),(.arr 4 1 t.2.1 (jS (fun i x=>iB (o i)) k 0 [I.v (Value.bool !decide (cU (fun i => !fG (I.pt 1 (bH [I.sl 1 t.2.1 fun i x=>iB (o i)])) (rI (flat 1 [iI x.2] i)).toNat) 1≥0))])),(eZ t),(b4 y),(.box (GR x)),(jY x),.dead,.dead],[]⟩))))))))):dq XH 10 dg L (aZ QD) 12 (qP t y x o k):=Eq.mp (by kernel_rfl) h
theorem Rh {Q:D→Prop} (t:ae) (y x:aj) (o:Nat→Bool) (k:Nat) (hk:k<t.ins.n) (hx:t.ins.n≤maxLen) (ha:cd x.a t.ins.n=true) (g:af 10 0 (fun d rs=>cV (bj rs d) Q) (ag 10 8) (bw t y (fun i=>bif Nat.beq i k then o x.a.toNat else o i) (k+1))):af 10 0 (fun d rs=>cV (bj rs d) Q) (ag 10 12) (qP t y x o k):=by
 refine reach (X:=XH) (stop:=dg) (HN _ Q t y x o k ?_)
 refine ⟨fp _ _,?_⟩
 refine ⟨lI rfl ha,?_⟩
 refine aw (by first|assumption|exact aA hk|(simpa [cD] using hk)) ?_
 refine aw (by first|assumption|exact aA hk|(simpa [cD] using hk)) ?_
 refine ⟨fp _ _,?_⟩
 refine ⟨lI rfl ha,?_⟩
 refine aw (by first|assumption|exact aA hk|(simpa [cD] using hk)) ?_
 refine aw (by first|assumption|exact aA hk|(simpa [cD] using hk)) ?_
 rw [bR hk hx]
 exact af.rename [0,1,2,3] rfl (af.le (bw t y (fun i=>bif Nat.beq i k then o x.a.toNat else o i) (k+1)) (by repeat' (first|exact trivial|refine bV rfl ?_)) (rc (.cons (gB (q1 o x.a)) (rc (rc .nil)))) rfl g)
def qn (t:ae) (y x:aj) (o:Nat→Bool) (k:Nat):VS:=⟨(mq t k),[.box (lift (cB t)),.arr 4 1 t.ins.n (fun i _=>iB (o i)),.box [.sa 1 t.ins.n],.box (lift (aT y)),.box (lift (aT (yv x 8)))],[]⟩
abbrev GB (ax:aj):List C:=lift (aT ({ op:=Int.ofNat 8,a:=ax.2,b:=ax.3,c:=ax.4,n:=ax.5,args:=ax.6,k:=ax.7,names:=ax.8,place:=ax.9,exit:=ax.10,once:=ax.11 }))
theorem Gz (L:LP) (QD:D→Prop) (t:ae) (y x:aj) (o:Nat→Bool) (k:Nat) (h:(LC 123 [(dw t),(.a (GB x))] [] (bool true) []∧(LC 32 [(gz x),(.c (.im (.fn 33 1 (fun q=>match nth [I.pt 1 (bH [I.sl 1 t.2.1 fun i x=>iB (o i)])] q with|some x=>x|none=>I.v (Value.tuple #[])))))] [] (bool (decide (cU (fun i => !fG (I.pt 1 (bH [I.sl 1 t.2.1 fun i x=>iB (o i)])) (rI (flat 1 [iI x.2] i)).toNat) 1≥0))) []∧nd (cd (↑k:Int) t.2.1) (nd (k.blt t.2.1) ((LC 123 [(dw t),(.a (GB x))] [] (bool true) []∧(LC 32 [(gz x),(.c (.im (.fn 33 1 (fun q=>match nth [I.pt 1 (bH [I.sl 1 t.2.1 fun i x=>iB (o i)])] q with|some x=>x|none=>I.v (Value.tuple #[])))))] [] (bool (decide (cU (fun i => !fG (I.pt 1 (bH [I.sl 1 t.2.1 fun i x=>iB (o i)])) (rI (flat 1 [iI x.2] i)).toNat) 1≥0))) []∧nd (cd (↑k:Int) t.2.1) (nd (k.blt t.2.1) (L (ag 10 8) ⟨[b5,cN,ff,(fz t),(fy t),(30,((int (IntKind.i64.wrap ((↑k:Int)+1))),[]))],[(bC t),(.arr 4 1 t.2.1 (jS (fun i x=>iB (o i)) k 0 [I.v (Value.bool !decide (cU (fun i => !fG (I.pt 1 (bH [I.sl 1 t.2.1 fun i x=>iB (o i)])) (rI (flat 1 [iI x.2] i)).toNat) 1≥0))])),(eZ t),(b4 y),(.box (GB x)),(jY x),.dead,.dead],[]⟩))))))))):dq XH 10 dg L (aZ QD) 12 (qn t y x o k):=Eq.mp (by kernel_rfl) h
theorem Sv {Q:D→Prop} (t:ae) (y x:aj) (o:Nat→Bool) (k:Nat) (hk:k<t.ins.n) (hx:t.ins.n≤maxLen) (ha:cd x.a t.ins.n=true) (g:af 10 0 (fun d rs=>cV (bj rs d) Q) (ag 10 8) (bw t y (fun i=>bif Nat.beq i k then o x.a.toNat else o i) (k+1))):af 10 0 (fun d rs=>cV (bj rs d) Q) (ag 10 12) (qn t y x o k):=by
 refine reach (X:=XH) (stop:=dg) (Gz _ Q t y x o k ?_)
 refine ⟨fp _ _,?_⟩
 refine ⟨lI rfl ha,?_⟩
 refine aw (by first|assumption|exact aA hk|(simpa [cD] using hk)) ?_
 refine aw (by first|assumption|exact aA hk|(simpa [cD] using hk)) ?_
 refine ⟨fp _ _,?_⟩
 refine ⟨lI rfl ha,?_⟩
 refine aw (by first|assumption|exact aA hk|(simpa [cD] using hk)) ?_
 refine aw (by first|assumption|exact aA hk|(simpa [cD] using hk)) ?_
 rw [bR hk hx]
 exact af.rename [0,1,2,3] rfl (af.le (bw t y (fun i=>bif Nat.beq i k then o x.a.toNat else o i) (k+1)) (by repeat' (first|exact trivial|refine bV rfl ?_)) (rc (.cons (gB (q1 o x.a)) (rc (rc .nil)))) rfl g)
def qO (t:ae) (y x:aj) (o:Nat→Bool) (k:Nat):VS:=⟨(mq t k),[.box (lift (cB t)),.arr 4 1 t.ins.n (fun i _=>iB (o i)),.box [.sa 1 t.ins.n],.box (lift (aT y)),.box (lift (aT (yv x 9)))],[]⟩
abbrev G2 (ax:aj):List C:=lift (aT ({ op:=Int.ofNat 9,a:=ax.2,b:=ax.3,c:=ax.4,n:=ax.5,args:=ax.6,k:=ax.7,names:=ax.8,place:=ax.9,exit:=ax.10,once:=ax.11 }))
theorem Gq (L:LP) (QD:D→Prop) (t:ae) (y x:aj) (o:Nat→Bool) (k:Nat) (h:(LC 123 [(dw t),(.a (G2 x))] [] (bool true) []∧(LC 32 [(nQ x),(.c (.im (.fn 33 1 (fun q=>match nth [I.pt 1 (bH [I.sl 1 t.2.1 fun i x=>iB (o i)])] q with|some x=>x|none=>I.v (Value.tuple #[])))))] [] (bool (decide (cU (fun i => !fG (I.pt 1 (bH [I.sl 1 t.2.1 fun i x=>iB (o i)])) (rI (flat 1 [iI x.2,iI x.3] i)).toNat) 2≥0))) []∧nd (cd (↑k:Int) t.2.1) (nd (k.blt t.2.1) ((LC 123 [(dw t),(.a (G2 x))] [] (bool true) []∧(LC 32 [(nQ x),(.c (.im (.fn 33 1 (fun q=>match nth [I.pt 1 (bH [I.sl 1 t.2.1 fun i x=>iB (o i)])] q with|some x=>x|none=>I.v (Value.tuple #[])))))] [] (bool (decide (cU (fun i => !fG (I.pt 1 (bH [I.sl 1 t.2.1 fun i x=>iB (o i)])) (rI (flat 1 [iI x.2,iI x.3] i)).toNat) 2≥0))) []∧nd (cd (↑k:Int) t.2.1) (nd (k.blt t.2.1) (L (ag 10 8) ⟨[b5,cN,ff,(fz t),(fy t),(30,((int (IntKind.i64.wrap ((↑k:Int)+1))),[]))],[(bC t),(.arr 4 1 t.2.1 (jS (fun i x=>iB (o i)) k 0 [I.v (Value.bool !decide (cU (fun i => !fG (I.pt 1 (bH [I.sl 1 t.2.1 fun i x=>iB (o i)])) (rI (flat 1 [iI x.2,iI x.3] i)).toNat) 2≥0))])),(eZ t),(b4 y),(.box (G2 x)),(jY x),.dead,.dead],[]⟩))))))))):dq XH 10 dg L (aZ QD) 12 (qO t y x o k):=Eq.mp (by kernel_rfl) h
theorem SI {Q:D→Prop} (t:ae) (y x:aj) (o:Nat→Bool) (k:Nat) (hk:k<t.ins.n) (hx:t.ins.n≤maxLen) (ha:cd x.a t.ins.n=true) (hb:cd x.b t.ins.n=true) (g:af 10 0 (fun d rs=>cV (bj rs d) Q) (ag 10 8) (bw t y (fun i=>bif Nat.beq i k then (o x.a.toNat&&o x.b.toNat) else o i) (k+1))):af 10 0 (fun d rs=>cV (bj rs d) Q) (ag 10 12) (qO t y x o k):=by
 refine reach (X:=XH) (stop:=dg) (Gq _ Q t y x o k ?_)
 refine ⟨fp _ _,?_⟩
 refine ⟨zF rfl ha hb,?_⟩
 refine aw (by first|assumption|exact aA hk|(simpa [cD] using hk)) ?_
 refine aw (by first|assumption|exact aA hk|(simpa [cD] using hk)) ?_
 refine ⟨fp _ _,?_⟩
 refine ⟨zF rfl ha hb,?_⟩
 refine aw (by first|assumption|exact aA hk|(simpa [cD] using hk)) ?_
 refine aw (by first|assumption|exact aA hk|(simpa [cD] using hk)) ?_
 rw [bR hk hx]
 exact af.rename [0,1,2,3] rfl (af.le (bw t y (fun i=>bif Nat.beq i k then (o x.a.toNat&&o x.b.toNat) else o i) (k+1)) (by repeat' (first|exact trivial|refine bV rfl ?_)) (rc (.cons (gB (q2 o x.a x.b)) (rc (rc .nil)))) rfl g)
def oQ (t:ae) (y x:aj) (o:Nat→Bool) (k:Nat):VS:=⟨(mq t k),[.box (lift (cB t)),.arr 4 1 t.ins.n (fun i _=>iB (o i)),.box [.sa 1 t.ins.n],.box (lift (aT y)),.box (lift (aT (yv x 10)))],[]⟩
abbrev yg (ax:aj):List C:=lift (aT ({ op:=Int.ofNat 10,a:=ax.2,b:=ax.3,c:=ax.4,n:=ax.5,args:=ax.6,k:=ax.7,names:=ax.8,place:=ax.9,exit:=ax.10,once:=ax.11 }))
abbrev H5 (ax:ae) (aF:aj):D:=bool (kl ax { op:=Int.ofNat 10,a:=aF.2,b:=aF.3,c:=aF.4,n:=aF.5,args:=aF.6,k:=aF.7,names:=aF.8,place:=aF.9,exit:=aF.10,once:=aF.11 })
theorem DW (L:LP) (QD:D→Prop) (t:ae) (y x:aj) (o:Nat→Bool) (k:Nat) (h:(LC 124 [(dw t),(.a (yg x))] [] (H5 t x) []∧br (kl t { op:=Int.ofNat 10,a:=x.2,b:=x.3,c:=x.4,n:=x.5,args:=x.6,k:=x.7,names:=x.8,place:=x.9,exit:=x.10,once:=x.11 }) ((LC 32 [(gz x),(.c (.im (.fn 33 1 (fun q=>match nth [I.pt 1 (bH [I.sl 1 t.2.1 fun i x=>iB (o i)])] q with|some x=>x|none=>I.v (Value.tuple #[])))))] [] (bool (decide (cU (fun i => !fG (I.pt 1 (bH [I.sl 1 t.2.1 fun i x=>iB (o i)])) (rI (flat 1 [iI x.2] i)).toNat) 1≥0))) []∧nd (cd (↑k:Int) t.2.1) (nd (k.blt t.2.1) ((LC 124 [(dw t),(.a (yg x))] [] (H5 t x) []∧br (kl t { op:=Int.ofNat 10,a:=x.2,b:=x.3,c:=x.4,n:=x.5,args:=x.6,k:=x.7,names:=x.8,place:=x.9,exit:=x.10,once:=x.11 }) ((LC 32 [(gz x),(.c (.im (.fn 33 1 (fun q=>match nth [I.pt 1 (bH [I.sl 1 t.2.1 fun i x=>iB (o i)])] q with|some x=>x|none=>I.v (Value.tuple #[])))))] [] (bool (decide (cU (fun i => !fG (I.pt 1 (bH [I.sl 1 t.2.1 fun i x=>iB (o i)])) (rI (flat 1 [iI x.2] i)).toNat) 1≥0))) []∧nd (cd (↑k:Int) t.2.1) (nd (k.blt t.2.1) (L (ag 10 8) ⟨[b5,cN,ff,(fz t),(fy t),(30,((int (IntKind.i64.wrap ((↑k:Int)+1))),[]))],[(bC t),(.arr 4 1 t.2.1 (jS (fun i x=>iB (o i)) k 0 [I.v (Value.bool !decide (cU (fun i => !fG (I.pt 1 (bH [I.sl 1 t.2.1 fun i x=>iB (o i)])) (rI (flat 1 [iI x.2] i)).toNat) 1≥0))])),(eZ t),(b4 y),(.box (yg x)),(jY x),.dead,.dead],[]⟩)))) (nd (cd (↑k:Int) t.2.1) (nd (k.blt t.2.1) (L (ag 10 8) ⟨[b5,cN,ff,(fz t),(fy t),(30,((int (IntKind.i64.wrap ((↑k:Int)+1))),[]))],[(bC t),(.arr 4 1 t.2.1 (jS (fun i x=>iB (o i)) k 0 [I.v (Value.bool false)])),(eZ t),(b4 y),(.box (yg x)),(jY x),.dead,.dead],[]⟩)))))))) (nd (cd (↑k:Int) t.2.1) (nd (k.blt t.2.1) ((LC 124 [(dw t),(.a (yg x))] [] (H5 t x) []∧br (kl t { op:=Int.ofNat 10,a:=x.2,b:=x.3,c:=x.4,n:=x.5,args:=x.6,k:=x.7,names:=x.8,place:=x.9,exit:=x.10,once:=x.11 }) ((LC 32 [(gz x),(.c (.im (.fn 33 1 (fun q=>match nth [I.pt 1 (bH [I.sl 1 t.2.1 fun i x=>iB (o i)])] q with|some x=>x|none=>I.v (Value.tuple #[])))))] [] (bool (decide (cU (fun i => !fG (I.pt 1 (bH [I.sl 1 t.2.1 fun i x=>iB (o i)])) (rI (flat 1 [iI x.2] i)).toNat) 1≥0))) []∧nd (cd (↑k:Int) t.2.1) (nd (k.blt t.2.1) (L (ag 10 8) ⟨[b5,cN,ff,(fz t),(fy t),(30,((int (IntKind.i64.wrap ((↑k:Int)+1))),[]))],[(bC t),(.arr 4 1 t.2.1 (jS (fun i x=>iB (o i)) k 0 [I.v (Value.bool !decide (cU (fun i => !fG (I.pt 1 (bH [I.sl 1 t.2.1 fun i x=>iB (o i)])) (rI (flat 1 [iI x.2] i)).toNat) 1≥0))])),(eZ t),(b4 y),(.box (yg x)),(jY x),.dead,.dead],[]⟩)))) (nd (cd (↑k:Int) t.2.1) (nd (k.blt t.2.1) (L (ag 10 8) ⟨[b5,cN,ff,(fz t),(fy t),(30,((int (IntKind.i64.wrap ((↑k:Int)+1))),[]))],[(bC t),(.arr 4 1 t.2.1 (jS (fun i x=>iB (o i)) k 0 [I.v (Value.bool false)])),(eZ t),(b4 y),(.box (yg x)),(jY x),.dead,.dead],[]⟩))))))))):dq XH 10 dg L (aZ QD) 12 (oQ t y x o k):=Eq.mp (by kernel_rfl) h
theorem Nf {Q:D→Prop} (t:ae) (y x:aj) (o:Nat→Bool) (k:Nat) (hk:k<t.ins.n) (hx:t.ins.n≤maxLen) (ha:cd x.a t.ins.n=true) (g:af 10 0 (fun d rs=>cV (bj rs d) Q) (ag 10 8) (bw t y (fun i=>bif Nat.beq i k then (kl t x&&o x.a.toNat) else o i) (k+1))):af 10 0 (fun d rs=>cV (bj rs d) Q) (ag 10 12) (oQ t y x o k):=by
 refine reach (X:=XH) (stop:=dg) (DW _ Q t y x o k ?_)
 refine ⟨Ap _ _,?_⟩
 refine ak (fun h0=>?_) (fun h0=>?_)
 ·refine ⟨lI rfl ha,?_⟩
  refine aw (by first|assumption|exact aA hk|(simpa [cD] using hk)) ?_
  refine aw (by first|assumption|exact aA hk|(simpa [cD] using hk)) ?_
  refine ⟨Ap _ _,?_⟩
  refine ak (fun h1=>?_) (fun h1=>Bool.noConfusion (h0.symm.trans h1))
  refine ⟨lI rfl ha,?_⟩
  refine aw (by first|assumption|exact aA hk|(simpa [cD] using hk)) ?_
  refine aw (by first|assumption|exact aA hk|(simpa [cD] using hk)) ?_
  rw [bR hk hx]
  exact af.rename [0,1,2,3] rfl (af.le (bw t y (fun i=>bif Nat.beq i k then (kl t x&&o x.a.toNat) else o i) (k+1)) (by repeat' (first|exact trivial|refine bV rfl ?_)) (rc (.cons (gB ((q1 o x.a).trans (by rw [show kl t x=true from h0]; rfl))) (rc (rc .nil)))) rfl g)
 ·refine aw (by first|assumption|exact aA hk|(simpa [cD] using hk)) ?_
  refine aw (by first|assumption|exact aA hk|(simpa [cD] using hk)) ?_
  refine ⟨Ap _ _,?_⟩
  refine ak (fun h1=>Bool.noConfusion (h1.symm.trans h0)) (fun h1=>?_)
  refine aw (by first|assumption|exact aA hk|(simpa [cD] using hk)) ?_
  refine aw (by first|assumption|exact aA hk|(simpa [cD] using hk)) ?_
  rw [bR hk hx]
  exact af.rename [0,1,2,3] rfl (af.le (bw t y (fun i=>bif Nat.beq i k then (kl t x&&o x.a.toNat) else o i) (k+1)) (by repeat' (first|exact trivial|refine bV rfl ?_)) (rc (.cons (gB (by rw [show kl t x=false from h0]; rfl)) (rc (rc .nil)))) rfl g)
def ph (t:ae) (y x:aj) (o:Nat→Bool) (k:Nat):VS:=⟨(mq t k),[.box (lift (cB t)),.arr 4 1 t.ins.n (fun i _=>iB (o i)),.box [.sa 1 t.ins.n],.box (lift (aT y)),.box (lift (aT (yv x 11)))],[]⟩
theorem D4 (L:LP) (QD:D→Prop) (t:ae) (y x:aj) (o:Nat→Bool) (k:Nat) (h:L (ag 10 8) ⟨[b5,cN,ff,(fz t),(fy t),(30,((int (IntKind.i64.wrap ((↑k:Int)+1))),[]))],[(bC t),(.arr 4 1 t.2.1 (fun i x=>iB (o i))),(eZ t),(b4 y),(.box (lift (aT ({ op:=Int.ofNat 11,a:=x.2,b:=x.3,c:=x.4,n:=x.5,args:=x.6,k:=x.7,names:=x.8,place:=x.9,exit:=x.10,once:=x.11 }))))],[]⟩):dq XH 10 dg L (aZ QD) 12 (ph t y x o k):=Eq.mp (by kernel_rfl) h
theorem M2 {Q:D→Prop} (t:ae) (y x:aj) (o:Nat→Bool) (k:Nat) (hk:k<t.ins.n) (hx:t.ins.n≤maxLen) (g:af 10 0 (fun d rs=>cV (bj rs d) Q) (ag 10 8) (bw t y o (k+1))):af 10 0 (fun d rs=>cV (bj rs d) Q) (ag 10 12) (ph t y x o k):=by
 refine reach (X:=XH) (stop:=dg) (D4 _ Q t y x o k ?_)
 rw [bR hk hx]
 exact af.rename [0,1,2,3] rfl g
def oF (t:ae) (y x:aj) (o:Nat→Bool) (k:Nat):VS:=⟨(mq t k),[.box (lift (cB t)),.arr 4 1 t.ins.n (fun i _=>iB (o i)),.box [.sa 1 t.ins.n],.box (lift (aT y)),.box (lift (aT (yv x 12)))],[]⟩
abbrev xj (ax:aj):List C:=lift (aT ({ op:=Int.ofNat 12,a:=ax.2,b:=ax.3,c:=ax.4,n:=ax.5,args:=ax.6,k:=ax.7,names:=ax.8,place:=ax.9,exit:=ax.10,once:=ax.11 }))
theorem Ff (L:LP) (QD:D→Prop) (t:ae) (y x:aj) (o:Nat→Bool) (k:Nat) (h:(LC 126 [(dw t),(.a (xj x))] [] (bool (nY t)) []∧br (nY t) ((LC 32 [(nQ x),(.c (.im (.fn 33 1 (fun q=>match nth [I.pt 1 (bH [I.sl 1 t.2.1 fun i x=>iB (o i)])] q with|some x=>x|none=>I.v (Value.tuple #[])))))] [] (bool (decide (cU (fun i => !fG (I.pt 1 (bH [I.sl 1 t.2.1 fun i x=>iB (o i)])) (rI (flat 1 [iI x.2,iI x.3] i)).toNat) 2≥0))) []∧nd (cd (↑k:Int) t.2.1) (nd (k.blt t.2.1) ((LC 126 [(dw t),(.a (xj x))] [] (bool (nY t)) []∧br (nY t) ((LC 32 [(nQ x),(.c (.im (.fn 33 1 (fun q=>match nth [I.pt 1 (bH [I.sl 1 t.2.1 fun i x=>iB (o i)])] q with|some x=>x|none=>I.v (Value.tuple #[])))))] [] (bool (decide (cU (fun i => !fG (I.pt 1 (bH [I.sl 1 t.2.1 fun i x=>iB (o i)])) (rI (flat 1 [iI x.2,iI x.3] i)).toNat) 2≥0))) []∧nd (cd (↑k:Int) t.2.1) (nd (k.blt t.2.1) (L (ag 10 8) ⟨[b5,cN,ff,(fz t),(fy t),(30,((int (IntKind.i64.wrap ((↑k:Int)+1))),[]))],[(bC t),(.arr 4 1 t.2.1 (jS (fun i x=>iB (o i)) k 0 [I.v (Value.bool !decide (cU (fun i => !fG (I.pt 1 (bH [I.sl 1 t.2.1 fun i x=>iB (o i)])) (rI (flat 1 [iI x.2,iI x.3] i)).toNat) 2≥0))])),(eZ t),(b4 y),(.box (xj x)),(jY x),.dead,.dead],[]⟩)))) (nd (cd (↑k:Int) t.2.1) (nd (k.blt t.2.1) (L (ag 10 8) ⟨[b5,cN,ff,(fz t),(fy t),(30,((int (IntKind.i64.wrap ((↑k:Int)+1))),[]))],[(bC t),(.arr 4 1 t.2.1 (jS (fun i x=>iB (o i)) k 0 [I.v (Value.bool false)])),(eZ t),(b4 y),(.box (xj x)),(jY x),.dead,.dead],[]⟩)))))))) (nd (cd (↑k:Int) t.2.1) (nd (k.blt t.2.1) ((LC 126 [(dw t),(.a (xj x))] [] (bool (nY t)) []∧br (nY t) ((LC 32 [(nQ x),(.c (.im (.fn 33 1 (fun q=>match nth [I.pt 1 (bH [I.sl 1 t.2.1 fun i x=>iB (o i)])] q with|some x=>x|none=>I.v (Value.tuple #[])))))] [] (bool (decide (cU (fun i => !fG (I.pt 1 (bH [I.sl 1 t.2.1 fun i x=>iB (o i)])) (rI (flat 1 [iI x.2,iI x.3] i)).toNat) 2≥0))) []∧nd (cd (↑k:Int) t.2.1) (nd (k.blt t.2.1) (L (ag 10 8) ⟨[b5,cN,ff,(fz t),(fy t),(30,((int (IntKind.i64.wrap ((↑k:Int)+1))),[]))],[(bC t),(.arr 4 1 t.2.1 (jS (fun i x=>iB (o i)) k 0 [I.v (Value.bool !decide (cU (fun i => !fG (I.pt 1 (bH [I.sl 1 t.2.1 fun i x=>iB (o i)])) (rI (flat 1 [iI x.2,iI x.3] i)).toNat) 2≥0))])),(eZ t),(b4 y),(.box (xj x)),(jY x),.dead,.dead],[]⟩)))) (nd (cd (↑k:Int) t.2.1) (nd (k.blt t.2.1) (L (ag 10 8) ⟨[b5,cN,ff,(fz t),(fy t),(30,((int (IntKind.i64.wrap ((↑k:Int)+1))),[]))],[(bC t),(.arr 4 1 t.2.1 (jS (fun i x=>iB (o i)) k 0 [I.v (Value.bool false)])),(eZ t),(b4 y),(.box (xj x)),(jY x),.dead,.dead],[]⟩))))))))):dq XH 10 dg L (aZ QD) 12 (oF t y x o k):=Eq.mp (by kernel_rfl) h
theorem MO {Q:D→Prop} (t:ae) (y x:aj) (o:Nat→Bool) (k:Nat) (hk:k<t.ins.n) (hx:t.ins.n≤maxLen) (ha:cd x.a t.ins.n=true) (hb:cd x.b t.ins.n=true) (g:af 10 0 (fun d rs=>cV (bj rs d) Q) (ag 10 8) (bw t y (fun i=>bif Nat.beq i k then (nY t&&(o x.a.toNat&&o x.b.toNat)) else o i) (k+1))):af 10 0 (fun d rs=>cV (bj rs d) Q) (ag 10 12) (oF t y x o k):=by
 refine reach (X:=XH) (stop:=dg) (Ff _ Q t y x o k ?_)
 refine ⟨Bf _ _,?_⟩
 refine ak (fun h0=>?_) (fun h0=>?_)
 ·refine ⟨zF rfl ha hb,?_⟩
  refine aw (by first|assumption|exact aA hk|(simpa [cD] using hk)) ?_
  refine aw (by first|assumption|exact aA hk|(simpa [cD] using hk)) ?_
  refine ⟨Bf _ _,?_⟩
  refine ak (fun h1=>?_) (fun h1=>Bool.noConfusion (h0.symm.trans h1))
  refine ⟨zF rfl ha hb,?_⟩
  refine aw (by first|assumption|exact aA hk|(simpa [cD] using hk)) ?_
  refine aw (by first|assumption|exact aA hk|(simpa [cD] using hk)) ?_
  rw [bR hk hx]
  exact af.rename [0,1,2,3] rfl (af.le (bw t y (fun i=>bif Nat.beq i k then (nY t&&(o x.a.toNat&&o x.b.toNat)) else o i) (k+1)) (by repeat' (first|exact trivial|refine bV rfl ?_)) (rc (.cons (gB ((q2 o x.a x.b).trans (by rw [show nY t=true from h0]; rfl))) (rc (rc .nil)))) rfl g)
 ·refine aw (by first|assumption|exact aA hk|(simpa [cD] using hk)) ?_
  refine aw (by first|assumption|exact aA hk|(simpa [cD] using hk)) ?_
  refine ⟨Bf _ _,?_⟩
  refine ak (fun h1=>Bool.noConfusion (h1.symm.trans h0)) (fun h1=>?_)
  refine aw (by first|assumption|exact aA hk|(simpa [cD] using hk)) ?_
  refine aw (by first|assumption|exact aA hk|(simpa [cD] using hk)) ?_
  rw [bR hk hx]
  exact af.rename [0,1,2,3] rfl (af.le (bw t y (fun i=>bif Nat.beq i k then (nY t&&(o x.a.toNat&&o x.b.toNat)) else o i) (k+1)) (by repeat' (first|exact trivial|refine bV rfl ?_)) (rc (.cons (gB (by rw [show nY t=false from h0]; rfl)) (rc (rc .nil)))) rfl g)
def oy (t:ae) (y x:aj) (o:Nat→Bool) (k:Nat):VS:=⟨(mq t k),[.box (lift (cB t)),.arr 4 1 t.ins.n (fun i _=>iB (o i)),.box [.sa 1 t.ins.n],.box (lift (aT y)),.box (lift (aT (yv x 13)))],[]⟩
theorem De (L:LP) (QD:D→Prop) (t:ae) (y x:aj) (o:Nat→Bool) (k:Nat) (h:L (ag 10 8) ⟨[b5,cN,ff,(fz t),(fy t),(30,((int (IntKind.i64.wrap ((↑k:Int)+1))),[]))],[(bC t),(.arr 4 1 t.2.1 (fun i x=>iB (o i))),(eZ t),(b4 y),(.box (lift (aT ({ op:=Int.ofNat 13,a:=x.2,b:=x.3,c:=x.4,n:=x.5,args:=x.6,k:=x.7,names:=x.8,place:=x.9,exit:=x.10,once:=x.11 }))))],[]⟩):dq XH 10 dg L (aZ QD) 12 (oy t y x o k):=Eq.mp (by kernel_rfl) h
theorem Me {Q:D→Prop} (t:ae) (y x:aj) (o:Nat→Bool) (k:Nat) (hk:k<t.ins.n) (hx:t.ins.n≤maxLen) (g:af 10 0 (fun d rs=>cV (bj rs d) Q) (ag 10 8) (bw t y o (k+1))):af 10 0 (fun d rs=>cV (bj rs d) Q) (ag 10 12) (oy t y x o k):=by
 refine reach (X:=XH) (stop:=dg) (De _ Q t y x o k ?_)
 rw [bR hk hx]
 exact af.rename [0,1,2,3] rfl g
def od (t:ae) (y x:aj) (o:Nat→Bool) (k:Nat):VS:=⟨(mq t k),[.box (lift (cB t)),.arr 4 1 t.ins.n (fun i _=>iB (o i)),.box [.sa 1 t.ins.n],.box (lift (aT y)),.box (lift (aT (yv x 14)))],[]⟩
abbrev Gm (ax:aj):List C:=lift (aT ({ op:=Int.ofNat 14,a:=ax.2,b:=ax.3,c:=ax.4,n:=ax.5,args:=ax.6,k:=ax.7,names:=ax.8,place:=ax.9,exit:=ax.10,once:=ax.11 }))
theorem D9 (L:LP) (QD:D→Prop) (t:ae) (y x:aj) (o:Nat→Bool) (k:Nat) (h:(LC 123 [(dw t),(.a (Gm x))] [] (bool true) []∧(LC 32 [(gz x),(.c (.im (.fn 33 1 (fun q=>match nth [I.pt 1 (bH [I.sl 1 t.2.1 fun i x=>iB (o i)])] q with|some x=>x|none=>I.v (Value.tuple #[])))))] [] (bool (decide (cU (fun i => !fG (I.pt 1 (bH [I.sl 1 t.2.1 fun i x=>iB (o i)])) (rI (flat 1 [iI x.2] i)).toNat) 1≥0))) []∧nd (cd (↑k:Int) t.2.1) (nd (k.blt t.2.1) ((LC 123 [(dw t),(.a (Gm x))] [] (bool true) []∧(LC 32 [(gz x),(.c (.im (.fn 33 1 (fun q=>match nth [I.pt 1 (bH [I.sl 1 t.2.1 fun i x=>iB (o i)])] q with|some x=>x|none=>I.v (Value.tuple #[])))))] [] (bool (decide (cU (fun i => !fG (I.pt 1 (bH [I.sl 1 t.2.1 fun i x=>iB (o i)])) (rI (flat 1 [iI x.2] i)).toNat) 1≥0))) []∧nd (cd (↑k:Int) t.2.1) (nd (k.blt t.2.1) (L (ag 10 8) ⟨[b5,cN,ff,(fz t),(fy t),(30,((int (IntKind.i64.wrap ((↑k:Int)+1))),[]))],[(bC t),(.arr 4 1 t.2.1 (jS (fun i x=>iB (o i)) k 0 [I.v (Value.bool !decide (cU (fun i => !fG (I.pt 1 (bH [I.sl 1 t.2.1 fun i x=>iB (o i)])) (rI (flat 1 [iI x.2] i)).toNat) 1≥0))])),(eZ t),(b4 y),(.box (Gm x)),(jY x),.dead,.dead],[]⟩))))))))):dq XH 10 dg L (aZ QD) 12 (od t y x o k):=Eq.mp (by kernel_rfl) h
theorem My {Q:D→Prop} (t:ae) (y x:aj) (o:Nat→Bool) (k:Nat) (hk:k<t.ins.n) (hx:t.ins.n≤maxLen) (ha:cd x.a t.ins.n=true) (g:af 10 0 (fun d rs=>cV (bj rs d) Q) (ag 10 8) (bw t y (fun i=>bif Nat.beq i k then o x.a.toNat else o i) (k+1))):af 10 0 (fun d rs=>cV (bj rs d) Q) (ag 10 12) (od t y x o k):=by
 refine reach (X:=XH) (stop:=dg) (D9 _ Q t y x o k ?_)
 refine ⟨fp _ _,?_⟩
 refine ⟨lI rfl ha,?_⟩
 refine aw (by first|assumption|exact aA hk|(simpa [cD] using hk)) ?_
 refine aw (by first|assumption|exact aA hk|(simpa [cD] using hk)) ?_
 refine ⟨fp _ _,?_⟩
 refine ⟨lI rfl ha,?_⟩
 refine aw (by first|assumption|exact aA hk|(simpa [cD] using hk)) ?_
 refine aw (by first|assumption|exact aA hk|(simpa [cD] using hk)) ?_
 rw [bR hk hx]
 exact af.rename [0,1,2,3] rfl (af.le (bw t y (fun i=>bif Nat.beq i k then o x.a.toNat else o i) (k+1)) (by repeat' (first|exact trivial|refine bV rfl ?_)) (rc (.cons (gB (q1 o x.a)) (rc (rc .nil)))) rfl g)
def oD (t:ae) (y x:aj) (o:Nat→Bool) (k:Nat):VS:=⟨(mq t k),[.box (lift (cB t)),.arr 4 1 t.ins.n (fun i _=>iB (o i)),.box [.sa 1 t.ins.n],.box (lift (aT y)),.box (lift (aT (yv x 15)))],[]⟩
theorem E5 (L:LP) (QD:D→Prop) (t:ae) (y x:aj) (o:Nat→Bool) (k:Nat) (h:L (ag 10 8) ⟨[b5,cN,ff,(fz t),(fy t),(30,((int (IntKind.i64.wrap ((↑k:Int)+1))),[]))],[(bC t),(.arr 4 1 t.2.1 (fun i x=>iB (o i))),(eZ t),(b4 y),(.box (lift (aT ({ op:=Int.ofNat 15,a:=x.2,b:=x.3,c:=x.4,n:=x.5,args:=x.6,k:=x.7,names:=x.8,place:=x.9,exit:=x.10,once:=x.11 }))))],[]⟩):dq XH 10 dg L (aZ QD) 12 (oD t y x o k):=Eq.mp (by kernel_rfl) h
theorem MP {Q:D→Prop} (t:ae) (y x:aj) (o:Nat→Bool) (k:Nat) (hk:k<t.ins.n) (hx:t.ins.n≤maxLen) (g:af 10 0 (fun d rs=>cV (bj rs d) Q) (ag 10 8) (bw t y o (k+1))):af 10 0 (fun d rs=>cV (bj rs d) Q) (ag 10 12) (oD t y x o k):=by
 refine reach (X:=XH) (stop:=dg) (E5 _ Q t y x o k ?_)
 rw [bR hk hx]
 exact af.rename [0,1,2,3] rfl g
def pg (t:ae) (y x:aj) (o:Nat→Bool) (k:Nat):VS:=⟨(mq t k),[.box (lift (cB t)),.arr 4 1 t.ins.n (fun i _=>iB (o i)),.box [.sa 1 t.ins.n],.box (lift (aT y)),.box (lift (aT (yv x 16)))],[]⟩
theorem Ee (L:LP) (QD:D→Prop) (t:ae) (y x:aj) (o:Nat→Bool) (k:Nat) (h:L (ag 10 8) ⟨[b5,cN,ff,(fz t),(fy t),(30,((int (IntKind.i64.wrap ((↑k:Int)+1))),[]))],[(bC t),(.arr 4 1 t.2.1 (fun i x=>iB (o i))),(eZ t),(b4 y),(.box (lift (aT ({ op:=Int.ofNat 16,a:=x.2,b:=x.3,c:=x.4,n:=x.5,args:=x.6,k:=x.7,names:=x.8,place:=x.9,exit:=x.10,once:=x.11 }))))],[]⟩):dq XH 10 dg L (aZ QD) 12 (pg t y x o k):=Eq.mp (by kernel_rfl) h
theorem OA {Q:D→Prop} (t:ae) (y x:aj) (o:Nat→Bool) (k:Nat) (hk:k<t.ins.n) (hx:t.ins.n≤maxLen) (g:af 10 0 (fun d rs=>cV (bj rs d) Q) (ag 10 8) (bw t y o (k+1))):af 10 0 (fun d rs=>cV (bj rs d) Q) (ag 10 12) (pg t y x o k):=by
 refine reach (X:=XH) (stop:=dg) (Ee _ Q t y x o k ?_)
 rw [bR hk hx]
 exact af.rename [0,1,2,3] rfl g
def oB (t:ae) (y x:aj) (o:Nat→Bool) (k:Nat):VS:=⟨(mq t k),[.box (lift (cB t)),.arr 4 1 t.ins.n (fun i _=>iB (o i)),.box [.sa 1 t.ins.n],.box (lift (aT y)),.box (lift (aT (yv x 17)))],[]⟩
theorem Fp (L:LP) (QD:D→Prop) (t:ae) (y x:aj) (o:Nat→Bool) (k:Nat) (h:L (ag 10 8) ⟨[b5,cN,ff,(fz t),(fy t),(30,((int (IntKind.i64.wrap ((↑k:Int)+1))),[]))],[(bC t),(.arr 4 1 t.2.1 (fun i x=>iB (o i))),(eZ t),(b4 y),(.box (lift (aT ({ op:=Int.ofNat 17,a:=x.2,b:=x.3,c:=x.4,n:=x.5,args:=x.6,k:=x.7,names:=x.8,place:=x.9,exit:=x.10,once:=x.11 }))))],[]⟩):dq XH 10 dg L (aZ QD) 12 (oB t y x o k):=Eq.mp (by kernel_rfl) h
theorem MQ {Q:D→Prop} (t:ae) (y x:aj) (o:Nat→Bool) (k:Nat) (hk:k<t.ins.n) (hx:t.ins.n≤maxLen) (g:af 10 0 (fun d rs=>cV (bj rs d) Q) (ag 10 8) (bw t y o (k+1))):af 10 0 (fun d rs=>cV (bj rs d) Q) (ag 10 12) (oB t y x o k):=by
 refine reach (X:=XH) (stop:=dg) (Fp _ Q t y x o k ?_)
 rw [bR hk hx]
 exact af.rename [0,1,2,3] rfl g
def oE (t:ae) (y x:aj) (o:Nat→Bool) (k:Nat):VS:=⟨(mq t k),[.box (lift (cB t)),.arr 4 1 t.ins.n (fun i _=>iB (o i)),.box [.sa 1 t.ins.n],.box (lift (aT y)),.box (lift (aT (yv x 18)))],[]⟩
theorem EN (L:LP) (QD:D→Prop) (t:ae) (y x:aj) (o:Nat→Bool) (k:Nat) (h:L (ag 10 8) ⟨[b5,cN,ff,(fz t),(fy t),(30,((int (IntKind.i64.wrap ((↑k:Int)+1))),[]))],[(bC t),(.arr 4 1 t.2.1 (fun i x=>iB (o i))),(eZ t),(b4 y),(.box (lift (aT ({ op:=Int.ofNat 18,a:=x.2,b:=x.3,c:=x.4,n:=x.5,args:=x.6,k:=x.7,names:=x.8,place:=x.9,exit:=x.10,once:=x.11 }))))],[]⟩):dq XH 10 dg L (aZ QD) 12 (oE t y x o k):=Eq.mp (by kernel_rfl) h
theorem MV {Q:D→Prop} (t:ae) (y x:aj) (o:Nat→Bool) (k:Nat) (hk:k<t.ins.n) (hx:t.ins.n≤maxLen) (g:af 10 0 (fun d rs=>cV (bj rs d) Q) (ag 10 8) (bw t y o (k+1))):af 10 0 (fun d rs=>cV (bj rs d) Q) (ag 10 12) (oE t y x o k):=by
 refine reach (X:=XH) (stop:=dg) (EN _ Q t y x o k ?_)
 rw [bR hk hx]
 exact af.rename [0,1,2,3] rfl g
def oe (t:ae) (y x:aj) (o:Nat→Bool) (k:Nat):VS:=⟨(mq t k),[.box (lift (cB t)),.arr 4 1 t.ins.n (fun i _=>iB (o i)),.box [.sa 1 t.ins.n],.box (lift (aT y)),.box (lift (aT (yv x 19)))],[]⟩
theorem Fj (L:LP) (QD:D→Prop) (t:ae) (y x:aj) (o:Nat→Bool) (k:Nat) (h:L (ag 10 8) ⟨[b5,cN,ff,(fz t),(fy t),(30,((int (IntKind.i64.wrap ((↑k:Int)+1))),[]))],[(bC t),(.arr 4 1 t.2.1 (fun i x=>iB (o i))),(eZ t),(b4 y),(.box (lift (aT ({ op:=Int.ofNat 19,a:=x.2,b:=x.3,c:=x.4,n:=x.5,args:=x.6,k:=x.7,names:=x.8,place:=x.9,exit:=x.10,once:=x.11 }))))],[]⟩):dq XH 10 dg L (aZ QD) 12 (oe t y x o k):=Eq.mp (by kernel_rfl) h
theorem LZ {Q:D→Prop} (t:ae) (y x:aj) (o:Nat→Bool) (k:Nat) (hk:k<t.ins.n) (hx:t.ins.n≤maxLen) (g:af 10 0 (fun d rs=>cV (bj rs d) Q) (ag 10 8) (bw t y o (k+1))):af 10 0 (fun d rs=>cV (bj rs d) Q) (ag 10 12) (oe t y x o k):=by
 refine reach (X:=XH) (stop:=dg) (Fj _ Q t y x o k ?_)
 rw [bR hk hx]
 exact af.rename [0,1,2,3] rfl g
def oT (t:ae) (y x:aj) (o:Nat→Bool) (k:Nat):VS:=⟨(mq t k),[.box (lift (cB t)),.arr 4 1 t.ins.n (fun i _=>iB (o i)),.box [.sa 1 t.ins.n],.box (lift (aT y)),.box (lift (aT (yv x 20)))],[]⟩
theorem ET (L:LP) (QD:D→Prop) (t:ae) (y x:aj) (o:Nat→Bool) (k:Nat) (h:L (ag 10 8) ⟨[b5,cN,ff,(fz t),(fy t),(30,((int (IntKind.i64.wrap ((↑k:Int)+1))),[]))],[(bC t),(.arr 4 1 t.2.1 (fun i x=>iB (o i))),(eZ t),(b4 y),(.box (lift (aT ({ op:=Int.ofNat 20,a:=x.2,b:=x.3,c:=x.4,n:=x.5,args:=x.6,k:=x.7,names:=x.8,place:=x.9,exit:=x.10,once:=x.11 }))))],[]⟩):dq XH 10 dg L (aZ QD) 12 (oT t y x o k):=Eq.mp (by kernel_rfl) h
theorem MG {Q:D→Prop} (t:ae) (y x:aj) (o:Nat→Bool) (k:Nat) (hk:k<t.ins.n) (hx:t.ins.n≤maxLen) (g:af 10 0 (fun d rs=>cV (bj rs d) Q) (ag 10 8) (bw t y o (k+1))):af 10 0 (fun d rs=>cV (bj rs d) Q) (ag 10 12) (oT t y x o k):=by
 refine reach (X:=XH) (stop:=dg) (ET _ Q t y x o k ?_)
 rw [bR hk hx]
 exact af.rename [0,1,2,3] rfl g
def oH (t:ae) (y x:aj) (o:Nat→Bool) (k:Nat):VS:=⟨(mq t k),[.box (lift (cB t)),.arr 4 1 t.ins.n (fun i _=>iB (o i)),.box [.sa 1 t.ins.n],.box (lift (aT y)),.box (lift (aT (yv x 21)))],[]⟩
theorem Ez (L:LP) (QD:D→Prop) (t:ae) (y x:aj) (o:Nat→Bool) (k:Nat) (h:L (ag 10 8) ⟨[b5,cN,ff,(fz t),(fy t),(30,((int (IntKind.i64.wrap ((↑k:Int)+1))),[]))],[(bC t),(.arr 4 1 t.2.1 (fun i x=>iB (o i))),(eZ t),(b4 y),(.box (lift (aT ({ op:=Int.ofNat 21,a:=x.2,b:=x.3,c:=x.4,n:=x.5,args:=x.6,k:=x.7,names:=x.8,place:=x.9,exit:=x.10,once:=x.11 }))))],[]⟩):dq XH 10 dg L (aZ QD) 12 (oH t y x o k):=Eq.mp (by kernel_rfl) h
theorem Nw {Q:D→Prop} (t:ae) (y x:aj) (o:Nat→Bool) (k:Nat) (hk:k<t.ins.n) (hx:t.ins.n≤maxLen) (g:af 10 0 (fun d rs=>cV (bj rs d) Q) (ag 10 8) (bw t y o (k+1))):af 10 0 (fun d rs=>cV (bj rs d) Q) (ag 10 12) (oH t y x o k):=by
 refine reach (X:=XH) (stop:=dg) (Ez _ Q t y x o k ?_)
 rw [bR hk hx]
 exact af.rename [0,1,2,3] rfl g
open Go Go.V
theorem MY {t:ae} {k:Nat} (h:jV t k=true):0≤(t.ins.get k).op∧(t.ins.get k).op≤21:=by
 unfold jV a6 a8 jl at h
 simp only [dz] at h
 have:=h.1.2.2.2.1
 unfold dv at this
 simp at this
 omega
theorem JO {t:ae} {k:Nat} (h:jV t k=true) (ho:(t.ins.get k).op=1):k<js t.ins:=by
 unfold jV a6 at h
 simp only [dz] at h
 have:=h.1.2.1
 simp [ho] at this
 omega
theorem DB {t:ae} {k:Nat} (h:jV t k=true) (ho:(t.ins.get k).op=20):(t.ins.get k).args.n=js t.ins:=by
 unfold jV a12 at h
 simp only [dz] at h
 have:=h.2.1.2
 simp [ho] at this
 omega
theorem Jb (t:ae) (y:aj):∀ k i,k≤i→bB t y k i=false
 | 0,i,_=>rfl
 | k+1,i,h=>by
   show (bif Nat.beq i k then ia t y (bB t y k) k else bB t y k i)=false
   rw [tF (by omega)]
   exact Jb t y k i (by omega)
theorem gx (t:ae) (y:aj) (k:Nat) (h:ia t y (bB t y k) k=false):bB t y (k+1)=bB t y k:=by
 funext i
 show (bif Nat.beq i k then ia t y (bB t y k) k else bB t y k i)=_
 cases hb:Nat.beq i k with
 | false=>rfl
 | true=>
   have:=Nat.eq_of_beq_eq_true hb
   subst this
   rw [Jb t y i i (bk _)]
   exact h
theorem VA {t:ae} {k j:Nat} (h:jV t k=true) (hk:k<t.ins.n) (hj:j<(aC (t.ins.get k)).n):cd ((aC (t.ins.get k)).get j) t.ins.n=true:=nB (tP h j hj) (by omega)
theorem dF {x:aj} {c:Int} (h:x.op=c):x=yv x c:=by
 cases x
 subst h
 rfl
open Go Go.V
theorem ek {t:ae} {y:aj} {f:Nat→Bool} {k:Nat} (h:((t.ins.get k).op==1)=false):ia t y f k=cS t f (t.ins.get k):=by
 unfold ia
 rw [h]; rfl
theorem QP (t:ae) (hx:t.ins.n≤maxLen) (hi:∀ k,k<t.ins.n→jV t k=true) (y:aj) (hy:∀ k,k<t.ins.n→(t.ins.get k).op=1→k<y.args.n):∀ k,k≤t.ins.n→af 10 0 (aW (eT 1 eB ⟨t.ins.n,bB t y t.ins.n⟩)) (ag 10 8) (bw t y (bB t y k) k):=by
 refine aL (fun k hk ih=>?_) ?_
 ·refine aH (X:=XH) (stop:=dg) (J8 _ _ t y (bB t y k) k ?_)
  have h0:=hi k hk
  refine ak (fun h=>?_) (fun h=>(dec_lt h hk).elim)
  refine aw (aA hk) (ak (fun h1=>?_) (fun h1=>?_))
  ·have e1:(t.ins.get k).op=1:=by simpa using h1
   have hk2:=aA (hy k hk e1)
   have hk3:Nat.blt k t.ins.n=true:=by simpa [cD] using hk
   refine aw hk2 (aw (aA hk) (aw hk3 (aw hk2 (aw (aA hk) (aw hk3 ?_)))))
   rw [bR hk hx]
   have e:(y.args.get k==(k:Int))=ia t y (bB t y k) k:=by
    unfold ia
    rw [show ((t.ins.get k).op==1)=true from h1]; rfl
   exact af.rename [0,1,2,3] rfl (af.le (bw t y (bB t y (k+1)) (k+1)) (by repeat' (first|exact trivial|refine bV rfl ?_)) (rc (.cons (gB e) (rc (rc .nil)))) rfl ih)
  ·have Uh:(t.ins.get k).op≠1:=by simpa using h1
   have hop:=MY h0
   have key:=fun j hj=>VA (j:=j) h0 hk hj
   have hc:(t.ins.get k).op=0∨(t.ins.get k).op=2∨(t.ins.get k).op=3∨(t.ins.get k).op=4∨(t.ins.get k).op=5∨(t.ins.get k).op=6∨(t.ins.get k).op=7∨(t.ins.get k).op=8∨(t.ins.get k).op=9∨(t.ins.get k).op=10∨(t.ins.get k).op=11∨(t.ins.get k).op=12∨(t.ins.get k).op=13∨(t.ins.get k).op=14∨(t.ins.get k).op=15∨(t.ins.get k).op=16∨(t.ins.get k).op=17∨(t.ins.get k).op=18∨(t.ins.get k).op=19∨(t.ins.get k).op=20∨(t.ins.get k).op=21:=by omega
   rcases hc with hc|hc|hc|hc|hc|hc|hc|hc|hc|hc|hc|hc|hc|hc|hc|hc|hc|hc|hc|hc|hc
   ·have hw:=dF hc
    rw [gx t y k (by rw [ek h1]; simp [cS,hc,cC])] at ih
    exact af.le (qo t y (t.ins.get k) (bB t y k) k) (by repeat' (first|exact trivial|refine bV rfl ?_)) (rc (rc (rc (rc (.cons (aJ.of_eq (congrArg (fun z=>ah.box (lift (aT z))) hw)) .nil))))) rfl (Sa t y (t.ins.get k) (bB t y k) k hk hx ih)
   ·have hw:=dF hc
    have e:ia t y (bB t y k) k=true:=by rw [ek h1]; simp [cS,hc,cC]
    have ih:af 10 0 (aW (eT 1 eB ⟨t.ins.n,bB t y t.ins.n⟩)) (ag 10 8) (bw t y (fun i=>bif Nat.beq i k then true else bB t y k i) (k+1)):=by rw [← e]; exact ih
    exact af.le (rb t y (t.ins.get k) (bB t y k) k) (by repeat' (first|exact trivial|refine bV rfl ?_)) (rc (rc (rc (rc (.cons (aJ.of_eq (congrArg (fun z=>ah.box (lift (aT z))) hw)) .nil))))) rfl (S6 t y (t.ins.get k) (bB t y k) k hk hx ih)
   ·have hw:=dF hc
    have ha:cd (t.ins.get k).a t.ins.n=true:=by have:=key 0; simp [aC,fM,hc] at this; exact this
    have e:ia t y (bB t y k) k=bB t y k (t.ins.get k).a.toNat:=by rw [ek h1]; simp [cS,hc,cC]
    have ih:af 10 0 (aW (eT 1 eB ⟨t.ins.n,bB t y t.ins.n⟩)) (ag 10 8) (bw t y (fun i=>bif Nat.beq i k then bB t y k (t.ins.get k).a.toNat else bB t y k i) (k+1)):=by rw [← e]; exact ih
    exact af.le (qC t y (t.ins.get k) (bB t y k) k) (by repeat' (first|exact trivial|refine bV rfl ?_)) (rc (rc (rc (rc (.cons (aJ.of_eq (congrArg (fun z=>ah.box (lift (aT z))) hw)) .nil))))) rfl (RQ t y (t.ins.get k) (bB t y k) k hk hx ha ih)
   ·have hw:=dF hc
    have ha:cd (t.ins.get k).a t.ins.n=true:=by have:=key 0; simp [aC,fM,hc] at this; exact this
    have hb:cd (t.ins.get k).b t.ins.n=true:=by have:=key 1; simp [aC,fM,hc] at this; exact this
    have e:ia t y (bB t y k) k=(bB t y k (t.ins.get k).a.toNat&&bB t y k (t.ins.get k).b.toNat):=by rw [ek h1]; simp [cS,hc,cC]
    have ih:af 10 0 (aW (eT 1 eB ⟨t.ins.n,bB t y t.ins.n⟩)) (ag 10 8) (bw t y (fun i=>bif Nat.beq i k then (bB t y k (t.ins.get k).a.toNat&&bB t y k (t.ins.get k).b.toNat) else bB t y k i) (k+1)):=by rw [← e]; exact ih
    exact af.le (qL t y (t.ins.get k) (bB t y k) k) (by repeat' (first|exact trivial|refine bV rfl ?_)) (rc (rc (rc (rc (.cons (aJ.of_eq (congrArg (fun z=>ah.box (lift (aT z))) hw)) .nil))))) rfl (Rx t y (t.ins.get k) (bB t y k) k hk hx ha hb ih)
   ·have hw:=dF hc
    have ha:cd (t.ins.get k).a t.ins.n=true:=by have:=key 0; simp [aC,fM,hc] at this; exact this
    have e:ia t y (bB t y k) k=bB t y k (t.ins.get k).a.toNat:=by rw [ek h1]; simp [cS,hc,cC]
    have ih:af 10 0 (aW (eT 1 eB ⟨t.ins.n,bB t y t.ins.n⟩)) (ag 10 8) (bw t y (fun i=>bif Nat.beq i k then bB t y k (t.ins.get k).a.toNat else bB t y k i) (k+1)):=by rw [← e]; exact ih
    exact af.le (qD t y (t.ins.get k) (bB t y k) k) (by repeat' (first|exact trivial|refine bV rfl ?_)) (rc (rc (rc (rc (.cons (aJ.of_eq (congrArg (fun z=>ah.box (lift (aT z))) hw)) .nil))))) rfl (RL t y (t.ins.get k) (bB t y k) k hk hx ha ih)
   ·have hw:=dF hc
    have ha:cd (t.ins.get k).a t.ins.n=true:=by have:=key 0; simp [aC,fM,hc] at this; exact this
    have e:ia t y (bB t y k) k=bB t y k (t.ins.get k).a.toNat:=by rw [ek h1]; simp [cS,hc,cC]
    have ih:af 10 0 (aW (eT 1 eB ⟨t.ins.n,bB t y t.ins.n⟩)) (ag 10 8) (bw t y (fun i=>bif Nat.beq i k then bB t y k (t.ins.get k).a.toNat else bB t y k i) (k+1)):=by rw [← e]; exact ih
    exact af.le (qs t y (t.ins.get k) (bB t y k) k) (by repeat' (first|exact trivial|refine bV rfl ?_)) (rc (rc (rc (rc (.cons (aJ.of_eq (congrArg (fun z=>ah.box (lift (aT z))) hw)) .nil))))) rfl (Si t y (t.ins.get k) (bB t y k) k hk hx ha ih)
   ·have hw:=dF hc
    have ha:cd (t.ins.get k).a t.ins.n=true:=by have:=key 0; simp [aC,fM,hc] at this; exact this
    have e:ia t y (bB t y k) k=bB t y k (t.ins.get k).a.toNat:=by rw [ek h1]; simp [cS,hc,cC]
    have ih:af 10 0 (aW (eT 1 eB ⟨t.ins.n,bB t y t.ins.n⟩)) (ag 10 8) (bw t y (fun i=>bif Nat.beq i k then bB t y k (t.ins.get k).a.toNat else bB t y k i) (k+1)):=by rw [← e]; exact ih
    exact af.le (qP t y (t.ins.get k) (bB t y k) k) (by repeat' (first|exact trivial|refine bV rfl ?_)) (rc (rc (rc (rc (.cons (aJ.of_eq (congrArg (fun z=>ah.box (lift (aT z))) hw)) .nil))))) rfl (Rh t y (t.ins.get k) (bB t y k) k hk hx ha ih)
   ·have hw:=dF hc
    have ha:cd (t.ins.get k).a t.ins.n=true:=by have:=key 0; simp [aC,fM,hc] at this; exact this
    have e:ia t y (bB t y k) k=bB t y k (t.ins.get k).a.toNat:=by rw [ek h1]; simp [cS,hc,cC]
    have ih:af 10 0 (aW (eT 1 eB ⟨t.ins.n,bB t y t.ins.n⟩)) (ag 10 8) (bw t y (fun i=>bif Nat.beq i k then bB t y k (t.ins.get k).a.toNat else bB t y k i) (k+1)):=by rw [← e]; exact ih
    exact af.le (qn t y (t.ins.get k) (bB t y k) k) (by repeat' (first|exact trivial|refine bV rfl ?_)) (rc (rc (rc (rc (.cons (aJ.of_eq (congrArg (fun z=>ah.box (lift (aT z))) hw)) .nil))))) rfl (Sv t y (t.ins.get k) (bB t y k) k hk hx ha ih)
   ·have hw:=dF hc
    have ha:cd (t.ins.get k).a t.ins.n=true:=by have:=key 0; simp [aC,fM,hc] at this; exact this
    have hb:cd (t.ins.get k).b t.ins.n=true:=by have:=key 1; simp [aC,fM,hc] at this; exact this
    have e:ia t y (bB t y k) k=(bB t y k (t.ins.get k).a.toNat&&bB t y k (t.ins.get k).b.toNat):=by rw [ek h1]; simp [cS,hc,cC]
    have ih:af 10 0 (aW (eT 1 eB ⟨t.ins.n,bB t y t.ins.n⟩)) (ag 10 8) (bw t y (fun i=>bif Nat.beq i k then (bB t y k (t.ins.get k).a.toNat&&bB t y k (t.ins.get k).b.toNat) else bB t y k i) (k+1)):=by rw [← e]; exact ih
    exact af.le (qO t y (t.ins.get k) (bB t y k) k) (by repeat' (first|exact trivial|refine bV rfl ?_)) (rc (rc (rc (rc (.cons (aJ.of_eq (congrArg (fun z=>ah.box (lift (aT z))) hw)) .nil))))) rfl (SI t y (t.ins.get k) (bB t y k) k hk hx ha hb ih)
   ·have hw:=dF hc
    have ha:cd (t.ins.get k).a t.ins.n=true:=by have:=key 0; simp [aC,fM,hc] at this; exact this
    have e:ia t y (bB t y k) k=(kl t (t.ins.get k)&&bB t y k (t.ins.get k).a.toNat):=by rw [ek h1]; simp [cS,hc,cC]
    have ih:af 10 0 (aW (eT 1 eB ⟨t.ins.n,bB t y t.ins.n⟩)) (ag 10 8) (bw t y (fun i=>bif Nat.beq i k then (kl t (t.ins.get k)&&bB t y k (t.ins.get k).a.toNat) else bB t y k i) (k+1)):=by rw [← e]; exact ih
    exact af.le (oQ t y (t.ins.get k) (bB t y k) k) (by repeat' (first|exact trivial|refine bV rfl ?_)) (rc (rc (rc (rc (.cons (aJ.of_eq (congrArg (fun z=>ah.box (lift (aT z))) hw)) .nil))))) rfl (Nf t y (t.ins.get k) (bB t y k) k hk hx ha ih)
   ·have hw:=dF hc
    rw [gx t y k (by rw [ek h1]; simp [cS,hc,cC])] at ih
    exact af.le (ph t y (t.ins.get k) (bB t y k) k) (by repeat' (first|exact trivial|refine bV rfl ?_)) (rc (rc (rc (rc (.cons (aJ.of_eq (congrArg (fun z=>ah.box (lift (aT z))) hw)) .nil))))) rfl (M2 t y (t.ins.get k) (bB t y k) k hk hx ih)
   ·have hw:=dF hc
    have ha:cd (t.ins.get k).a t.ins.n=true:=by have:=key 0; simp [aC,fM,hc] at this; exact this
    have hb:cd (t.ins.get k).b t.ins.n=true:=by have:=key 1; simp [aC,fM,hc] at this; exact this
    have e:ia t y (bB t y k) k=(nY t&&(bB t y k (t.ins.get k).a.toNat&&bB t y k (t.ins.get k).b.toNat)):=by rw [ek h1]; simp [cS,hc,cC]
    have ih:af 10 0 (aW (eT 1 eB ⟨t.ins.n,bB t y t.ins.n⟩)) (ag 10 8) (bw t y (fun i=>bif Nat.beq i k then (nY t&&(bB t y k (t.ins.get k).a.toNat&&bB t y k (t.ins.get k).b.toNat)) else bB t y k i) (k+1)):=by rw [← e]; exact ih
    exact af.le (oF t y (t.ins.get k) (bB t y k) k) (by repeat' (first|exact trivial|refine bV rfl ?_)) (rc (rc (rc (rc (.cons (aJ.of_eq (congrArg (fun z=>ah.box (lift (aT z))) hw)) .nil))))) rfl (MO t y (t.ins.get k) (bB t y k) k hk hx ha hb ih)
   ·have hw:=dF hc
    rw [gx t y k (by rw [ek h1]; simp [cS,hc,cC])] at ih
    exact af.le (oy t y (t.ins.get k) (bB t y k) k) (by repeat' (first|exact trivial|refine bV rfl ?_)) (rc (rc (rc (rc (.cons (aJ.of_eq (congrArg (fun z=>ah.box (lift (aT z))) hw)) .nil))))) rfl (Me t y (t.ins.get k) (bB t y k) k hk hx ih)
   ·have hw:=dF hc
    have ha:cd (t.ins.get k).a t.ins.n=true:=by have:=key 0; simp [aC,fM,hc] at this; exact this
    have e:ia t y (bB t y k) k=bB t y k (t.ins.get k).a.toNat:=by rw [ek h1]; simp [cS,hc,cC]
    have ih:af 10 0 (aW (eT 1 eB ⟨t.ins.n,bB t y t.ins.n⟩)) (ag 10 8) (bw t y (fun i=>bif Nat.beq i k then bB t y k (t.ins.get k).a.toNat else bB t y k i) (k+1)):=by rw [← e]; exact ih
    exact af.le (od t y (t.ins.get k) (bB t y k) k) (by repeat' (first|exact trivial|refine bV rfl ?_)) (rc (rc (rc (rc (.cons (aJ.of_eq (congrArg (fun z=>ah.box (lift (aT z))) hw)) .nil))))) rfl (My t y (t.ins.get k) (bB t y k) k hk hx ha ih)
   ·have hw:=dF hc
    rw [gx t y k (by rw [ek h1]; simp [cS,hc,cC])] at ih
    exact af.le (oD t y (t.ins.get k) (bB t y k) k) (by repeat' (first|exact trivial|refine bV rfl ?_)) (rc (rc (rc (rc (.cons (aJ.of_eq (congrArg (fun z=>ah.box (lift (aT z))) hw)) .nil))))) rfl (MP t y (t.ins.get k) (bB t y k) k hk hx ih)
   ·have hw:=dF hc
    rw [gx t y k (by rw [ek h1]; simp [cS,hc,cC])] at ih
    exact af.le (pg t y (t.ins.get k) (bB t y k) k) (by repeat' (first|exact trivial|refine bV rfl ?_)) (rc (rc (rc (rc (.cons (aJ.of_eq (congrArg (fun z=>ah.box (lift (aT z))) hw)) .nil))))) rfl (OA t y (t.ins.get k) (bB t y k) k hk hx ih)
   ·have hw:=dF hc
    rw [gx t y k (by rw [ek h1]; simp [cS,hc,cC])] at ih
    exact af.le (oB t y (t.ins.get k) (bB t y k) k) (by repeat' (first|exact trivial|refine bV rfl ?_)) (rc (rc (rc (rc (.cons (aJ.of_eq (congrArg (fun z=>ah.box (lift (aT z))) hw)) .nil))))) rfl (MQ t y (t.ins.get k) (bB t y k) k hk hx ih)
   ·have hw:=dF hc
    rw [gx t y k (by rw [ek h1]; simp [cS,hc,cC])] at ih
    exact af.le (oE t y (t.ins.get k) (bB t y k) k) (by repeat' (first|exact trivial|refine bV rfl ?_)) (rc (rc (rc (rc (.cons (aJ.of_eq (congrArg (fun z=>ah.box (lift (aT z))) hw)) .nil))))) rfl (MV t y (t.ins.get k) (bB t y k) k hk hx ih)
   ·have hw:=dF hc
    rw [gx t y k (by rw [ek h1]; simp [cS,hc,cC])] at ih
    exact af.le (oe t y (t.ins.get k) (bB t y k) k) (by repeat' (first|exact trivial|refine bV rfl ?_)) (rc (rc (rc (rc (.cons (aJ.of_eq (congrArg (fun z=>ah.box (lift (aT z))) hw)) .nil))))) rfl (LZ t y (t.ins.get k) (bB t y k) k hk hx ih)
   ·have hw:=dF hc
    rw [gx t y k (by rw [ek h1]; simp [cS,hc,cC])] at ih
    exact af.le (oT t y (t.ins.get k) (bB t y k) k) (by repeat' (first|exact trivial|refine bV rfl ?_)) (rc (rc (rc (rc (.cons (aJ.of_eq (congrArg (fun z=>ah.box (lift (aT z))) hw)) .nil))))) rfl (MG t y (t.ins.get k) (bB t y k) k hk hx ih)
   ·have hw:=dF hc
    rw [gx t y k (by rw [ek h1]; simp [cS,hc,cC])] at ih
    exact af.le (oH t y (t.ins.get k) (bB t y k) k) (by repeat' (first|exact trivial|refine bV rfl ?_)) (rc (rc (rc (rc (.cons (aJ.of_eq (congrArg (fun z=>ah.box (lift (aT z))) hw)) .nil))))) rfl (Nw t y (t.ins.get k) (bB t y k) k hk hx ih)
 ·refine aH (X:=XH) (stop:=dg) (J8 _ _ t y _ _ ?_)
  refine ak (fun h=>bJ h) (fun h=>?_)
  exact zB (dr.sl fun i _ j hj=>dr.refl _)
theorem zW {n:Nat} (h:0<n) (h2:n≤1000000):IntKind.i64.wrap ((n:Int)-1)=((n-1:Nat):Int):=by
 rw [show ((n:Int)-1)=((n-1:Nat):Int) by omega,mR (by omega)]
theorem XC (t:ae) (hS:ed t) (hr:eO t=eu t):LC 10 [bc t] [] (eT 1 eB (nF t)) []:=by
 have hN:=hS.ins
 refine aU (X:=XH) (stop:=dg) ab1 (bg (by kernel_rfl)) (af3 _ _ t ⟨Yr t hS,ak (fun h=>?_) (fun h=>?_)⟩)
 ·rw [show nF t=⟨0,fun _=>false⟩ from by unfold nF; rw [show (eO t != 0)=true from h]; rfl]
  exact fun E av w v q=>ei.nil 1 _ E av w v q
 have h0:eO t=0:=by simpa using h
 have hi:=tZ (hr▸h0)
 have hn:0<t.ins.n:=by
  rw [hr] at h0
  have hb:gA t=true:=by
   unfold eu at h0
   revert h0
   cases decide ((t.ins.n:Int)>200)<;>cases decide ((t.aa.n:Int)>60)<;>cases gA t<;>simp
  unfold gA at hb
  simp at hb
  omega
 have hw:=zW hn (by omega)
 refine aw (by rw [dz,Nat.ble_eq,Nat.ble_eq]; unfold maxLen; omega) (aw (cf _) ?_)
 have hw2:(IntKind.i64.wrap ((t.ins.n:Int)-1)).toNat=t.ins.n-1:=by rw [hw]; omega
 refine aw (by rw [hw]; exact aA (by omega)) ?_
 refine aH (X:=XH) (stop:=dg) (QM _ _ t ?_)
 rw [hw2]
 refine ak (fun h5=>?_) (fun h5=>?_)
 ·rw [show nF t=⟨t.ins.n,fun _=>false⟩ from by unfold nF jx; rw [show (eO t != 0)=false from h,cond_false,show ((t.ins.get (t.ins.n-1)).op != 20)=true from h5]; rfl]
  exact zB (dr.sl fun i _ j hj=>by
   have hj:j=0:=by omega
   subst hj
   exact dr.refl _)
 ·rw [show nF t=⟨t.ins.n,bB t (jx t) t.ins.n⟩ from by unfold nF jx; rw [show (eO t != 0)=false from h,cond_false,show ((t.ins.get (t.ins.n-1)).op != 20)=false from h5]; rfl]
  have e20:(t.ins.get (t.ins.n-1)).op=20:=by simpa using h5
  have hl:=DB (hi (t.ins.n-1) (by omega)) e20
  have hy:∀ k,k<t.ins.n→(t.ins.get k).op=1→k<(jx t).args.n:=fun k hk ho=>by
   have:=JO (hi k hk) ho
   unfold jx
   omega
  exact af.le (bw t (jx t) (bB t (jx t) 0) 0) (by repeat' (first|exact trivial|refine bV rfl ?_)) (rc (.cons (aJ.arr fun i _ j hj=>by
   have hj:j=0:=by omega
   subst hj
   exact dr.refl _) (rc (rc .nil)))) rfl (QP t (by unfold maxLen; omega) hi _ hy 0 (bu _))
open Go Go.V
section
def AR (o:Nat→Bool) (u:Sq Int):Nat→Nat→Bool→Bool
 | 0,_,s=>s
 | m+1,j,s=>AR o u m (j+1) (bif s then o (u.get j).toNat else false)
def fw (t:ae) (y x:aj):Bool:=bif y.op==20 then !qQ (IE t x) t.ins.n else false
def hZ (op:Int):Bool:=cC op [2,3,4,5,6,7,8,9,14,10,12]
def eA (t:ae) (y:aj) (o:Nat→Bool) (k:Nat):Bool:=
 bif (t.ins.get k).op==1 then (bif y.op==20 then y.args.get k==(k:Int) else false) else
 bif hZ (t.ins.get k).op then AR o (aC (t.ins.get k)) (aC (t.ins.get k)).n 0 (fw t y (t.ins.get k)) else false
def cT (t:ae) (y:aj):Nat→Nat→Bool
 | 0=>fun _=>false
 | k+1=>fun i=>bif Nat.blt i k then cT t y k i else eA t y (cT t y k) k
def ri (t:ae):Sq Bool:=bif eu t != 0 then ⟨0,fun _=>false⟩ else ⟨t.ins.n,cT t (jx t) t.ins.n⟩
end
def lJ:Nat→Bool:=fun i=>Nat.beq i 5||Nat.beq i 6||Nat.beq i 24||Nat.beq i 28||Nat.beq i 31
theorem Z2:Fn 27:=⟨by kernel_rfl,by kernel_rfl⟩
theorem YJ (L:LP) (QD:D→Prop) (t:ae) (h:(LC 38 [(dw t)] [] (int (eu t)) []∧br (eu t != 0) (QD (.c b6)) (nd (cd (IntKind.i64.wrap ((↑t.2.1:Int)-1)) t.2.1) (L (ag 27 5) ⟨[b5,AY,bM],[(bC t),(.box (lift (aT (t.2.2 (IntKind.i64.wrap ((↑t.2.1:Int)-1)).toNat))))],[]⟩)))):fS XH 27 lJ L (aZ QD) [bc t] []:=Eq.mp (by kernel_rfl) h
def QA (t:ae)  : VS:=⟨[lV,(3,(.c b6),[]),lx],[(bC t),(.box (lift (aT (t.2.2 (IntKind.i64.wrap ((↑t.2.1:Int)-1)).toNat))))],[]⟩
theorem RX (L:LP) (QD:D→Prop) (t:ae)  (h:L (ag 27 6) ⟨[b5,AY,bM,nv],[(bC t),(.box (lift (aT (t.2.2 (IntKind.i64.wrap ((↑t.2.1:Int)-1)).toNat))))],[]⟩):dq XH 27 lJ L (aZ QD) 5 (QA t ):=Eq.mp (by kernel_rfl) h
def sj (t:ae) (y:aj) (o:Nat→Bool) (k:Nat):VS:=⟨[ka,(3,.c (.sa 2 k),[]),mN,(5,int k,[])],[.box (lift (cB t)),.box (lift (aT y)),.arr 4 1 k (fun i _=>iB (o i))],[]⟩
abbrev l9 (ax:Nat):gF:=(3,((.c (.sa 2 ax)),[]))
abbrev wG (ax:ae) (aF:aj) (aR:Nat) (bZ:Nat→Bool):List ah:=[(bC ax),(b4 aF),(.arr 4 1 aR (fun i x=>iB (bZ i))),(.box (lift (aT (ax.2.2 aR))))]
abbrev tX:gF:=(7,((bool false),[]))
abbrev Hu:gF:=(6,((.c (.rt 3 0 0)),[]))
abbrev qj (ax:Nat) (aF:ae) (aR:aj) (bZ:Nat→Bool):VS:=⟨[b5,(l9 ax),bM,(kv ax),Hu,tX,(35,((int ((aF.2.2 ax).1)),[])),CP],(wG aF aR ax bZ),[]⟩
theorem IA (L:LP) (QD:D→Prop) (t:ae) (y:aj) (o:Nat→Bool) (k:Nat) (h:br (decide ((↑k:Int)<(↑t.2.1:Int))) (nd (cd (↑k:Int) t.2.1) (br ((t.2.2 k).1==1) (br (y.1==20) (nd (cd (↑k:Int) y.6.1) (L (ag 27 31) ⟨[b5,(l9 k),bM,(kv k),(7,((bool (y.6.2 k==(↑k:Int))),[]))],(wG t y k o),[]⟩)) (L (ag 27 31) ⟨[b5,(l9 k),bM,(kv k),tX],(wG t y k o),[]⟩)) (br ((t.2.2 k).1==2) (L (ag 27 24) (qj k t y o)) (br ((t.2.2 k).1==3) (L (ag 27 24) (qj k t y o)) (br ((t.2.2 k).1==4) (L (ag 27 24) (qj k t y o)) (br ((t.2.2 k).1==5) (L (ag 27 24) (qj k t y o)) (br ((t.2.2 k).1==6) (L (ag 27 24) (qj k t y o)) (br ((t.2.2 k).1==7) (L (ag 27 24) (qj k t y o)) (br ((t.2.2 k).1==8) (L (ag 27 24) (qj k t y o)) (br ((t.2.2 k).1==9) (L (ag 27 24) (qj k t y o)) (br ((t.2.2 k).1==14) (L (ag 27 24) (qj k t y o)) (br ((t.2.2 k).1==10) (L (ag 27 24) (qj k t y o)) (br ((t.2.2 k).1==12) (L (ag 27 24) ⟨[b5,(l9 k),bM,(kv k),Hu,tX,CP],(wG t y k o),[]⟩) (L (ag 27 31) ⟨[b5,(l9 k),bM,(kv k),Hu,tX,(50,((bool false),[]))],(wG t y k o),[]⟩)))))))))))))) (QD (.c (.im (.sl 1 k (fun i x=>iB (o i))))))):dq XH 27 lJ L (aZ QD) 6 (sj t y o k):=Eq.mp (by kernel_rfl) h
def fR (t:ae) (y:aj) (o:Nat→Bool) (k:Nat) (x:aj):VS:=⟨[ka,(3,.c (.sa 2 k),[]),mN,(5,int k,[]),(6,.c (.rt 3 0 0),[]),(7,bool false,[])],[.box (lift (cB t)),.box (lift (aT y)),.arr 4 1 k (fun i _=>iB (o i)),.box (lift (aT x))],[]⟩
abbrev Am (ax:aj):D:=.c (.im (.sl 1 ((aC ax).1) (fun i=>b8 ((aC ax).2 i))))
theorem Nt (L:LP) (QD:D→Prop) (t:ae) (y:aj) (o:Nat→Bool) (k:Nat) (x:aj) (h:(LC 39 [(dw t),(rk x)] [] (bool (qQ (IE t x) t.2.1)) []∧br (y.1==20) ((LC 40 [(rk x)] [] (Am x) []∧L (ag 27 28) ⟨[b5,(l9 k),bM,(kv k),(7,((bool (!qQ (IE t x) t.2.1)),[])),(9,((Am x),[])),(10,((int 0),[]))],[(bC t),(b4 y),(.arr 4 1 k (fun i x=>iB (o i))),(b4 x)],[]⟩)) ((LC 40 [(rk x)] [] (Am x) []∧L (ag 27 28) ⟨[b5,(l9 k),bM,(kv k),tX,(9,((Am x),[])),(10,((int 0),[]))],[(bC t),(b4 y),(.arr 4 1 k (fun i x=>iB (o i))),(b4 x)],[]⟩)))):dq XH 27 lJ L (aZ QD) 24 (fR t y o k x):=Eq.mp (by kernel_rfl) h
def DQ (t:ae) (y:aj) (o:Nat→Bool) (k:Nat) (x:aj) (u:Sq Int) (s:Bool) (j:Nat):VS:=⟨[ka,(3,.c (.sa 2 k),[]),mN,(5,int k,[]),(7,bool s,[]),(9,eT 1 b8 u,[]),(10,int j,[])],[.box (lift (cB t)),.box (lift (aT y)),.arr 4 1 k (fun i _=>iB (o i)),.box (lift (aT x))],[]⟩
theorem EM (L:LP) (QD:D→Prop) (t:ae) (y:aj) (o:Nat→Bool) (k:Nat) (x:aj) (u:Sq Int) (s:Bool) (j:Nat) (h:br (decide ((↑j:Int)<(↑u.1:Int))) (br (s) (nd (cd (↑j:Int) u.1) (nd (cd (u.2 j) k) (nd ((u.2 j).toNat.blt k) (L (ag 27 28) ⟨[b5,(l9 k),bM,(kv k),(7,((bool (o (u.2 j).toNat)),[])),(9,((mE u),[])),(10,((int (IntKind.i64.wrap ((↑j:Int)+1))),[]))],[(bC t),(b4 y),(.arr 4 1 k (fun i x=>iB (o i))),(b4 x)],[]⟩)))) (L (ag 27 28) ⟨[b5,(l9 k),bM,(kv k),tX,(9,((mE u),[])),(10,((int (IntKind.i64.wrap ((↑j:Int)+1))),[]))],[(bC t),(b4 y),(.arr 4 1 k (fun i x=>iB (o i))),(b4 x)],[]⟩)) (L (ag 27 31) ⟨[b5,(l9 k),bM,(kv k),(7,((bool s),[])),(9,((mE u),[])),(10,((int (↑j:Int)),[])),(77,((bool false),[]))],[(bC t),(b4 y),(.arr 4 1 k (fun i x=>iB (o i))),(b4 x)],[]⟩)):dq XH 27 lJ L (aZ QD) 28 (DQ t y o k x u s j):=Eq.mp (by kernel_rfl) h
def jP (t:ae) (y:aj) (o:Nat→Bool) (k:Nat) (s:Bool):VS:=⟨[ka,(3,.c (.sa 2 k),[]),mN,(5,int k,[]),(7,bool s,[])],[.box (lift (cB t)),.box (lift (aT y)),.arr 4 1 k (fun i _=>iB (o i))],[]⟩
theorem LV (L:LP) (QD:D→Prop) (t:ae) (y:aj) (o:Nat→Bool) (k:Nat) (s:Bool) (h:nd (cg (k+1) 1) (nd (k.beq k) (L (ag 27 6) ⟨[b5,(3,((.c (.sa 4 (.succ k))),[])),bM,(5,((int (IntKind.i64.wrap ((↑k:Int)+1))),[]))],[(bC t),(b4 y),.dead,(.row 4 1 1 [(.im (.v (.bool s)))]),(.arr 4 1 (k+1) (gP k (fun i x=>iB (o i)) (1,flat 1 [I.v (Value.bool s)]).snd))],[]⟩))):dq XH 27 lJ L (aZ QD) 31 (jP t y o k s):=Eq.mp (by kernel_rfl) h
theorem SX (x:aj):(aC x).n≤x.args.n+3:=by
 unfold aC
 cases x.op==20 with
 | true=>exact Nat.le_add_right _ _
 | false=>
   show (fM x.op).toNat≤_
   rcases tc x.op with h|h|h|h<;>rw [h]<;>simp
theorem KV {t:ae} (h0:eu t=0):0<t.ins.n:=by
 have hb:gA t=true:=by
  unfold eu at h0
  revert h0
  cases decide ((t.ins.n:Int)>200)<;>cases decide ((t.aa.n:Int)>60)<;>cases gA t<;>simp
 unfold gA at hb
 simp at hb
 omega
theorem YW {o:Nat→Bool} {k:Nat} {s:Bool}:aJ (.arr 4 1 (k+1) (gP k (fun i _=>iB (o i)) (flat 1 [I.v (.bool s)]))) (.arr 4 1 (k+1) (fun i _=>iB (bif Nat.blt i k then o i else s))):=
 aJ.arr fun i hi j hj=>by
  have hj:j=0:=by omega
  subst hj
  show dr (Bool.rec (flat 1 [I.v (.bool s)] (i-k) 0) (iB (o i)) (Nat.blt i k)) (iB (bif Nat.blt i k then o i else s))
  cases hb:Nat.blt i k with
  | true=>exact dr.refl _
  | false=>
    have:¬ i<k:=fun h=>by rw [(by simpa [cD] using h:Nat.blt i k=true)] at hb; cases hb
    rw [show i-k=0 by omega]
    exact dr.refl _
theorem iK {a b:Nat} (h:a<b):Nat.blt a b=true:=by simpa [cD] using h
theorem MA {v:Int} {k:Nat} (h:cd v k=true):v.toNat<k:=by
 have:=ox h
 omega
theorem fE {d:D} (t:ae) (y:aj) (o:Nat→Bool) (k:Nat) (s:Bool) (hk:k<t.ins.n) (hN:t.ins.n≤1000) (g:af 27 0 (aW d) (ag 27 6) (sj t y (fun i=>bif Nat.blt i k then o i else s) (k+1))):af 27 0 (aW d) (ag 27 31) (jP t y o k s):=by
 refine aH (X:=XH) (stop:=lJ) (LV _ _ t y o k s ?_)
 refine aw (cj (by omega) (by omega)) (aw (cf k) ?_)
 rw [bR hk (by unfold maxLen; omega)]
 exact af.rename [0,1,4] rfl (af.le (sj t y (fun i=>bif Nat.blt i k then o i else s) (k+1)) (by repeat' (first|exact trivial|refine bV rfl ?_)) (rc (rc (.cons YW .nil))) rfl g)
theorem ER {d:D} (t:ae) (y:aj) (o:Nat→Bool) (k:Nat) (x:aj) (u:Sq Int) (a:Bool) (hu:∀ j,j<u.n→cd (u.get j) k=true) (hn:u.n≤maxLen) (g:af 27 0 (aW d) (ag 27 31) (jP t y o k a)):∀ j,j≤u.n→∀ s,AR o u (u.n-j) j s=a→af 27 0 (aW d) (ag 27 28) (DQ t y o k x u s j):=by
 refine aL (fun j hj ih s ha=>?_) (fun s ha=>?_)
 ·have e:u.n-j=(u.n-(j+1))+1:=by omega
  rw [e] at ha
  refine aH (X:=XH) (stop:=lJ) (EM _ _ t y o k x u s j ?_)
  refine ak (fun h=>?_) (fun h=>(dec_lt h hj).elim)
  rw [bR hj hn]
  refine ak (fun h1=>?_) (fun h1=>?_)
  ·subst h1
   exact aw (aA hj) (aw (hu j hj) (aw (iK (MA (hu j hj))) (ih _ ha)))
  ·subst h1
   exact ih _ ha
 ·rw [Nat.sub_self] at ha
  refine aH (X:=XH) (stop:=lJ) (EM _ _ t y o k x u s _ ?_)
  refine ak (fun h=>bJ h) (fun h=>?_)
  have ha:s=a:=ha
  subst ha
  exact af.rename [0,1,2] rfl (af.le (jP t y o k s) (by repeat' (first|exact trivial|refine bV rfl ?_)) (rc (rc (rc .nil))) rfl g)
theorem gS {d:D} (t:ae) (y:aj) (o:Nat→Bool) (k:Nat) (x:aj) (hx:t.ins.n≤maxLen) (hu:∀ j,j<(aC x).n→cd ((aC x).get j) k=true) (hn:(aC x).n≤maxLen) (g:af 27 0 (aW d) (ag 27 31) (jP t y o k (AR o (aC x) (aC x).n 0 (fw t y x)))):af 27 0 (aW d) (ag 27 24) (fR t y o k x):=by
 refine aH (X:=XH) (stop:=lJ) (Nt _ _ t y o k x ⟨W5 t x hx,?_⟩)
 refine ak (fun h=>?_) (fun h=>?_)
 ·exact ⟨zP x,ER t y o k x (aC x) _ hu hn g 0 (bu _) _ (by unfold fw; rw [show (y.op==20)=true from h]; rfl)⟩
 ·exact ⟨zP x,ER t y o k x (aC x) _ hu hn g 0 (bu _) _ (by unfold fw; rw [show (y.op==20)=false from h]; rfl)⟩
theorem Sn (t:ae) (hN:t.ins.n≤1000) (hi:∀ k,k<t.ins.n→jV t k=true) (hA:∀ k,k<t.ins.n→(t.ins.get k).args.n≤1000) (y:aj) (hy:∀ k,k<t.ins.n→(t.ins.get k).op=1→y.op=20→k<y.args.n):∀ k,k≤t.ins.n→af 27 0 (aW (eT 1 eB ⟨t.ins.n,cT t y t.ins.n⟩)) (ag 27 6) (sj t y (cT t y k) k):=by
 have hx:t.ins.n≤maxLen:=by unfold maxLen; omega
 refine aL (fun k hk ih=>?_) ?_
 ·refine aH (X:=XH) (stop:=lJ) (IA _ _ t y (cT t y k) k ?_)
  have hu:∀ j,j<(aC (t.ins.get k)).n→cd ((aC (t.ins.get k)).get j) k=true:=fun j hj=>by
   have:=B4 (tP (hi k hk) j hj)
   exact lR this.1 (by omega)
  have hnu:(aC (t.ins.get k)).n≤maxLen:=by
   have:=SX (t.ins.get k)
   have:=hA k hk
   unfold maxLen
   omega
  refine ak (fun h0=>?_) (fun h=>(dec_lt h hk).elim)
  refine aw (by first|exact aA hk|exact aA (hy k hk (by simpa using h1) (by simpa using h2))) ?_
  refine ak (fun h1=>?_) (fun h1=>?_)
  ·refine ak (fun h2=>?_) (fun h2=>?_)
   ·refine aw (by first|exact aA hk|exact aA (hy k hk (by simpa using h1) (by simpa using h2))) ?_
    have e:eA t y (cT t y k) k=(y.args.get k==(k:Int)):=by unfold eA; rw [show ((t.ins.get k).op==1)=true from h1,cond_true,show (y.op==20)=true from h2]; rfl
    exact af.rename [0,1,2] rfl (af.le (jP t y (cT t y k) k (y.args.get k==(k:Int))) (by repeat' (first|exact trivial|refine bV rfl ?_)) (rc (rc (rc .nil))) rfl (fE t y _ k _ hk hN (by rw [← e]; exact ih)))
   ·have e:eA t y (cT t y k) k=false:=by unfold eA; rw [show ((t.ins.get k).op==1)=true from h1,cond_true,show (y.op==20)=false from h2]; rfl
    exact af.rename [0,1,2] rfl (af.le (jP t y (cT t y k) k false) (by repeat' (first|exact trivial|refine bV rfl ?_)) (rc (rc (rc .nil))) rfl (fE t y _ k _ hk hN (by rw [← e]; exact ih)))
  ·refine ak (fun h2=>?_) (fun h2=>?_)
   ·have e0:(t.ins.get k).op=2:=by simpa using h2
    have e:eA t y (cT t y k) k=AR (cT t y k) (aC (t.ins.get k)) (aC (t.ins.get k)).n 0 (fw t y (t.ins.get k)):=by unfold eA; rw [show ((t.ins.get k).op==1)=false from h1,cond_false,show hZ (t.ins.get k).op=true from by rw [e0]; rfl]; rfl
    exact af.le (fR t y (cT t y k) k (t.ins.get k)) (by repeat' (first|exact trivial|refine bV rfl ?_)) (rc (rc (rc (rc .nil)))) rfl (gS t y _ k _ hx hu hnu (fE t y _ k _ hk hN (by rw [← e]; exact ih)))
   ·refine ak (fun h3=>?_) (fun h3=>?_)
    ·have e0:(t.ins.get k).op=3:=by simpa using h3
     have e:eA t y (cT t y k) k=AR (cT t y k) (aC (t.ins.get k)) (aC (t.ins.get k)).n 0 (fw t y (t.ins.get k)):=by unfold eA; rw [show ((t.ins.get k).op==1)=false from h1,cond_false,show hZ (t.ins.get k).op=true from by rw [e0]; rfl]; rfl
     exact af.le (fR t y (cT t y k) k (t.ins.get k)) (by repeat' (first|exact trivial|refine bV rfl ?_)) (rc (rc (rc (rc .nil)))) rfl (gS t y _ k _ hx hu hnu (fE t y _ k _ hk hN (by rw [← e]; exact ih)))
    ·refine ak (fun h4=>?_) (fun h4=>?_)
     ·have e0:(t.ins.get k).op=4:=by simpa using h4
      have e:eA t y (cT t y k) k=AR (cT t y k) (aC (t.ins.get k)) (aC (t.ins.get k)).n 0 (fw t y (t.ins.get k)):=by unfold eA; rw [show ((t.ins.get k).op==1)=false from h1,cond_false,show hZ (t.ins.get k).op=true from by rw [e0]; rfl]; rfl
      exact af.le (fR t y (cT t y k) k (t.ins.get k)) (by repeat' (first|exact trivial|refine bV rfl ?_)) (rc (rc (rc (rc .nil)))) rfl (gS t y _ k _ hx hu hnu (fE t y _ k _ hk hN (by rw [← e]; exact ih)))
     ·refine ak (fun h5=>?_) (fun h5=>?_)
      ·have e0:(t.ins.get k).op=5:=by simpa using h5
       have e:eA t y (cT t y k) k=AR (cT t y k) (aC (t.ins.get k)) (aC (t.ins.get k)).n 0 (fw t y (t.ins.get k)):=by unfold eA; rw [show ((t.ins.get k).op==1)=false from h1,cond_false,show hZ (t.ins.get k).op=true from by rw [e0]; rfl]; rfl
       exact af.le (fR t y (cT t y k) k (t.ins.get k)) (by repeat' (first|exact trivial|refine bV rfl ?_)) (rc (rc (rc (rc .nil)))) rfl (gS t y _ k _ hx hu hnu (fE t y _ k _ hk hN (by rw [← e]; exact ih)))
      ·refine ak (fun h6=>?_) (fun h6=>?_)
       ·have e0:(t.ins.get k).op=6:=by simpa using h6
        have e:eA t y (cT t y k) k=AR (cT t y k) (aC (t.ins.get k)) (aC (t.ins.get k)).n 0 (fw t y (t.ins.get k)):=by unfold eA; rw [show ((t.ins.get k).op==1)=false from h1,cond_false,show hZ (t.ins.get k).op=true from by rw [e0]; rfl]; rfl
        exact af.le (fR t y (cT t y k) k (t.ins.get k)) (by repeat' (first|exact trivial|refine bV rfl ?_)) (rc (rc (rc (rc .nil)))) rfl (gS t y _ k _ hx hu hnu (fE t y _ k _ hk hN (by rw [← e]; exact ih)))
       ·refine ak (fun h7=>?_) (fun h7=>?_)
        ·have e0:(t.ins.get k).op=7:=by simpa using h7
         have e:eA t y (cT t y k) k=AR (cT t y k) (aC (t.ins.get k)) (aC (t.ins.get k)).n 0 (fw t y (t.ins.get k)):=by unfold eA; rw [show ((t.ins.get k).op==1)=false from h1,cond_false,show hZ (t.ins.get k).op=true from by rw [e0]; rfl]; rfl
         exact af.le (fR t y (cT t y k) k (t.ins.get k)) (by repeat' (first|exact trivial|refine bV rfl ?_)) (rc (rc (rc (rc .nil)))) rfl (gS t y _ k _ hx hu hnu (fE t y _ k _ hk hN (by rw [← e]; exact ih)))
        ·refine ak (fun h8=>?_) (fun h8=>?_)
         ·have e0:(t.ins.get k).op=8:=by simpa using h8
          have e:eA t y (cT t y k) k=AR (cT t y k) (aC (t.ins.get k)) (aC (t.ins.get k)).n 0 (fw t y (t.ins.get k)):=by unfold eA; rw [show ((t.ins.get k).op==1)=false from h1,cond_false,show hZ (t.ins.get k).op=true from by rw [e0]; rfl]; rfl
          exact af.le (fR t y (cT t y k) k (t.ins.get k)) (by repeat' (first|exact trivial|refine bV rfl ?_)) (rc (rc (rc (rc .nil)))) rfl (gS t y _ k _ hx hu hnu (fE t y _ k _ hk hN (by rw [← e]; exact ih)))
         ·refine ak (fun h9=>?_) (fun h9=>?_)
          ·have e0:(t.ins.get k).op=9:=by simpa using h9
           have e:eA t y (cT t y k) k=AR (cT t y k) (aC (t.ins.get k)) (aC (t.ins.get k)).n 0 (fw t y (t.ins.get k)):=by unfold eA; rw [show ((t.ins.get k).op==1)=false from h1,cond_false,show hZ (t.ins.get k).op=true from by rw [e0]; rfl]; rfl
           exact af.le (fR t y (cT t y k) k (t.ins.get k)) (by repeat' (first|exact trivial|refine bV rfl ?_)) (rc (rc (rc (rc .nil)))) rfl (gS t y _ k _ hx hu hnu (fE t y _ k _ hk hN (by rw [← e]; exact ih)))
          ·refine ak (fun nN=>?_) (fun nN=>?_)
           ·have e0:(t.ins.get k).op=14:=by simpa using nN
            have e:eA t y (cT t y k) k=AR (cT t y k) (aC (t.ins.get k)) (aC (t.ins.get k)).n 0 (fw t y (t.ins.get k)):=by unfold eA; rw [show ((t.ins.get k).op==1)=false from h1,cond_false,show hZ (t.ins.get k).op=true from by rw [e0]; rfl]; rfl
            exact af.le (fR t y (cT t y k) k (t.ins.get k)) (by repeat' (first|exact trivial|refine bV rfl ?_)) (rc (rc (rc (rc .nil)))) rfl (gS t y _ k _ hx hu hnu (fE t y _ k _ hk hN (by rw [← e]; exact ih)))
           ·refine ak (fun uP=>?_) (fun uP=>?_)
            ·have e0:(t.ins.get k).op=10:=by simpa using uP
             have e:eA t y (cT t y k) k=AR (cT t y k) (aC (t.ins.get k)) (aC (t.ins.get k)).n 0 (fw t y (t.ins.get k)):=by unfold eA; rw [show ((t.ins.get k).op==1)=false from h1,cond_false,show hZ (t.ins.get k).op=true from by rw [e0]; rfl]; rfl
             exact af.le (fR t y (cT t y k) k (t.ins.get k)) (by repeat' (first|exact trivial|refine bV rfl ?_)) (rc (rc (rc (rc .nil)))) rfl (gS t y _ k _ hx hu hnu (fE t y _ k _ hk hN (by rw [← e]; exact ih)))
            ·refine ak (fun yX=>?_) (fun yX=>?_)
             ·have e0:(t.ins.get k).op=12:=by simpa using yX
              have e:eA t y (cT t y k) k=AR (cT t y k) (aC (t.ins.get k)) (aC (t.ins.get k)).n 0 (fw t y (t.ins.get k)):=by unfold eA; rw [show ((t.ins.get k).op==1)=false from h1,cond_false,show hZ (t.ins.get k).op=true from by rw [e0]; rfl]; rfl
              exact af.le (fR t y (cT t y k) k (t.ins.get k)) (by repeat' (first|exact trivial|refine bV rfl ?_)) (rc (rc (rc (rc .nil)))) rfl (gS t y _ k _ hx hu hnu (fE t y _ k _ hk hN (by rw [← e]; exact ih)))
             ·have e2:(t.ins.get k).op≠2:=by simpa using h2
              have e3:(t.ins.get k).op≠3:=by simpa using h3
              have e4:(t.ins.get k).op≠4:=by simpa using h4
              have e5:(t.ins.get k).op≠5:=by simpa using h5
              have e6:(t.ins.get k).op≠6:=by simpa using h6
              have e7:(t.ins.get k).op≠7:=by simpa using h7
              have e8:(t.ins.get k).op≠8:=by simpa using h8
              have e9:(t.ins.get k).op≠9:=by simpa using h9
              have e14:(t.ins.get k).op≠14:=by simpa using nN
              have e10:(t.ins.get k).op≠10:=by simpa using uP
              have e12:(t.ins.get k).op≠12:=by simpa using yX
              have e:eA t y (cT t y k) k=false:=by unfold eA; rw [show ((t.ins.get k).op==1)=false from h1,cond_false,show hZ (t.ins.get k).op=false from by simp [hZ,cC,e2,e3,e4,e5,e6,e7,e8,e9,e14,e10,e12]]; rfl
              exact af.le ⟨[(1,.c (.rt 0 0 0),[]),(3,.c (.sa 2 k),[]),(4,.c (.rt 1 0 0),[]),(5,int k,[]),(7,bool false,[])],[.box (lift (cB t)),.box (lift (aT y)),.arr 4 1 k (fun i _=>iB (cT t y k i)),.box (lift (aT (t.ins.get k)))],[]⟩ (by repeat' (first|exact trivial|refine bV rfl ?_)) (rc (rc (rc (rc .nil)))) rfl (af.rename [0,1,2] rfl (af.le (jP t y (cT t y k) k false) (by repeat' (first|exact trivial|refine bV rfl ?_)) (rc (rc (rc .nil))) rfl (fE t y _ k _ hk hN (by rw [← e]; exact ih))))
 ·refine aH (X:=XH) (stop:=lJ) (IA _ _ t y _ _ ?_)
  refine ak (fun h=>bJ h) (fun h=>?_)
  exact zB (dr.sl fun i _ j hj=>dr.refl _)
theorem Wi (t:ae) (hS:ed t):LC 27 [bc t] [] (eT 1 eB (ri t)) []:=by
 have hN:=hS.ins
 refine aU (X:=XH) (stop:=lJ) Z2 (bg (by kernel_rfl)) (YJ _ _ t ⟨ae7 t hS,ak (fun h=>?_) (fun h=>?_)⟩)
 ·rw [show ri t=⟨0,fun _=>false⟩ from by unfold ri; rw [show (eu t != 0)=true from h]; rfl]
  exact fun E av w v q=>ei.nil 1 _ E av w v q
 have h0:eu t=0:=by simpa using h
 have hi:=tZ h0
 have hn:0<t.ins.n:=KV h0
 have hw:=zW hn (by omega)
 have hw2:(IntKind.i64.wrap ((t.ins.n:Int)-1)).toNat=t.ins.n-1:=by rw [hw]; omega
 refine aw (by rw [hw]; exact aA (by omega)) ?_
 refine aH (X:=XH) (stop:=lJ) (RX _ _ t ?_)
 rw [hw2]
 rw [show ri t=⟨t.ins.n,cT t (jx t) t.ins.n⟩ from by unfold ri; rw [show (eu t != 0)=false from h]; rfl]
 have hy:∀ k,k<t.ins.n→(t.ins.get k).op=1→(jx t).op=20→k<(jx t).args.n:=fun k hk ho h20=>by
  have:=JO (hi k hk) ho
  have:=DB (hi (t.ins.n-1) (by omega)) h20
  unfold jx
  omega
 exact af.xJ 3 4 1 rfl (af.le (sj t (jx t) (cT t (jx t) 0) 0) (by repeat' (first|exact trivial|refine bV rfl ?_)) (rc (rc (.cons (aJ.arr fun i hi=>absurd hi (Nat.not_lt_zero i)) .nil))) rfl (Sn t hN hi hS.args _ hy 0 (bu _)))
open Go Go.V
theorem wB {p:Nat→Bool}:∀ (m k:Nat),(∀ i,p i=false)→gu p m k = -1
 | 0,k,_=>rfl
 | m+1,k,h=>by rw [fI (h k)]; exact wB m (k+1) h
theorem GI {p:Nat→Bool} {n:Nat} (h:∀ i,p i=false):qQ p n=false:=by
 unfold qQ cU
 rw [wB n 0 h]
 rfl
theorem wa {p q:Nat→Bool} {n:Nat} (h:∀ i,p i=q i):qQ p n=qQ q n:=by rw [show p=q from funext h]
theorem zR (o:Nat→Bool) (u:Sq Int):∀ m j,AR o u m j false=false
 | 0,_=>rfl
 | m+1,j=>zR o u m (j+1)
theorem w8 {t:ae} {y x:aj} (hy:y.op=20):fw t y x = !qQ (IE t x) t.ins.n:=by unfold fw; rw [hy]; rfl
theorem KE {t:ae} {y x:aj} (hy:y.op=20) (h1:x.op≠10) (h2:x.op≠12):fw t y x=true:=by
 rw [w8 hy,GI fun i=>by simp [IE,h1,h2]]
 rfl
theorem Kg {t:ae} {y x:aj} (hy:y.op=20) (h:x.op=10):fw t y x=kl t x:=by
 rw [w8 hy]
 unfold kl
 rw [wa (q:=fun i=>ou x (t.ins.get i)) fun i=>by
  simp only [IE,h,ou]
  cases (t.ins.get i).op==11<;>simp]
theorem RK {t:ae} {y x:aj} (hy:y.op=20) (h:x.op=12):fw t y x=nY t:=by
 rw [w8 hy]
 unfold nY
 rw [wa (q:=fun i=>tG (t.ins.get i)) fun i=>by simp [IE,h,tG]]
theorem ss {x:aj} {n:Nat} (h:x.op≠20) (hm:fM x.op=n):aC x=⟨n,fun i=>[x.a,x.b,x.c].getD i 0⟩:=by
 unfold aC
 rw [show (x.op==20)=false from by simpa using h,hm]
 rfl
theorem RP {t:ae} {y:aj} {k:Nat} {o o':Nat→Bool} (hi:jV t k=true) (hy:y.op=20) (ho:∀ i,i<k→o i=o' i):ia t y o k=eA t y o' k:=by
 by_cases h1:(t.ins.get k).op=1
 ·unfold ia eA
  rw [h1,hy]; rfl
 have hop:=MY hi
 have e1:((t.ins.get k).op==1)=false:=by simpa using h1
 have key:∀ j,j<(aC (t.ins.get k)).n→o ((aC (t.ins.get k)).get j).toNat=o' ((aC (t.ins.get k)).get j).toNat:=fun j hj=>by
  have:=B4 (tP hi j hj)
  exact ho _ (by omega)
 rw [ek e1]
 unfold eA
 rw [e1,cond_false]
 generalize t.ins.get k=x at *
 have c0:∀ c:Int,x.op=c→hZ c=false→cS t o x=false→cS t o x=bif hZ x.op then AR o' (aC x) (aC x).n 0 (fw t y x) else false:=fun c h2 h3 h4=>by
  rw [h4,h2,h3]; rfl
 have u1:∀ c:Int,x.op=c→c≠20→fM c=1→o x.a.toNat=o' x.a.toNat:=fun c h2 h3 h4=>by
  have hu:=ss (x:=x) (n:=1) (by omega) (by rw [h2,h4]; rfl)
  rw [hu] at key
  exact key 0 (Nat.lt_succ_self 0)
 have u2:∀ c:Int,x.op=c→c≠20→fM c=2→o x.a.toNat=o' x.a.toNat∧o x.b.toNat=o' x.b.toNat:=fun c h2 h3 h4=>by
  have hu:=ss (x:=x) (n:=2) (by omega) (by rw [h2,h4]; rfl)
  rw [hu] at key
  exact ⟨key 0 (Nat.zero_lt_succ _),key 1 (Nat.lt_succ_self 1)⟩
 have one:∀ c:Int,x.op=c→c≠20→fM c=1→hZ c=true→cS t o x=(fw t y x&&o x.a.toNat)→cS t o x=bif hZ x.op then AR o' (aC x) (aC x).n 0 (fw t y x) else false:=fun c h2 h3 h4 h5 h6=>by
  rw [h6,h2,h5,cond_true,ss (x:=x) (n:=1) (by omega) (by rw [h2,h4]; rfl),u1 c h2 h3 h4]
  show _=bif fw t y x then o' x.a.toNat else false
  cases fw t y x<;>rfl
 have two:∀ c:Int,x.op=c→c≠20→fM c=2→hZ c=true→cS t o x=(fw t y x&&(o x.a.toNat&&o x.b.toNat))→cS t o x=bif hZ x.op then AR o' (aC x) (aC x).n 0 (fw t y x) else false:=fun c h2 h3 h4 h5 h6=>by
  obtain ⟨ha,hb⟩:=u2 c h2 h3 h4
  rw [h6,h2,h5,cond_true,ss (x:=x) (n:=2) (by omega) (by rw [h2,h4]; rfl),ha,hb]
  show _=bif (bif fw t y x then o' x.a.toNat else false) then o' x.b.toNat else false
  cases fw t y x<;>cases o' x.a.toNat<;>rfl
 have bt:=KE (t:=t) (y:=y) (x:=x) hy
 have hc:x.op=0∨x.op=2∨x.op=3∨x.op=4∨x.op=5∨x.op=6∨x.op=7∨x.op=8∨x.op=9∨x.op=10∨x.op=11∨x.op=12∨x.op=13∨x.op=14∨x.op=15∨x.op=16∨x.op=17∨x.op=18∨x.op=19∨x.op=20∨x.op=21:=by omega
 rcases hc with h|h|h|h|h|h|h|h|h|h|h|h|h|h|h|h|h|h|h|h|h
 ·exact c0 _ h rfl (by simp [cS,h,cC])
 ·have e:aC x=⟨0,fun i=>[x.a,x.b,x.c].getD i 0⟩:=ss (n:=0) (by omega) (by rw [h]; rfl)
  rw [show cS t o x=true from by simp [cS,h],e,show hZ x.op=true from by rw [h]; rfl]
  exact (bt (by omega) (by omega)).symm
 ·exact one _ h (by decide) rfl rfl (by rw [bt (by omega) (by omega)]; simp [cS,h,cC])
 ·exact two _ h (by decide) rfl rfl (by rw [bt (by omega) (by omega)]; simp [cS,h,cC])
 ·exact one _ h (by decide) rfl rfl (by rw [bt (by omega) (by omega)]; simp [cS,h,cC])
 ·exact one _ h (by decide) rfl rfl (by rw [bt (by omega) (by omega)]; simp [cS,h,cC])
 ·exact one _ h (by decide) rfl rfl (by rw [bt (by omega) (by omega)]; simp [cS,h,cC])
 ·exact one _ h (by decide) rfl rfl (by rw [bt (by omega) (by omega)]; simp [cS,h,cC])
 ·exact two _ h (by decide) rfl rfl (by rw [bt (by omega) (by omega)]; simp [cS,h,cC])
 ·exact one _ h (by decide) rfl rfl (by rw [Kg hy h]; simp [cS,h,cC])
 ·exact c0 _ h rfl (by simp [cS,h,cC])
 ·exact two _ h (by decide) rfl rfl (by rw [RK hy h]; simp [cS,h,cC])
 ·exact c0 _ h rfl (by simp [cS,h,cC])
 ·exact one _ h (by decide) rfl rfl (by rw [bt (by omega) (by omega)]; simp [cS,h,cC])
 ·exact c0 _ h rfl (by simp [cS,h,cC])
 ·exact c0 _ h rfl (by simp [cS,h,cC])
 ·exact c0 _ h rfl (by simp [cS,h,cC])
 ·exact c0 _ h rfl (by simp [cS,h,cC])
 ·exact c0 _ h rfl (by simp [cS,h,cC])
 ·exact c0 _ h rfl (by simp [cS,h,cC])
 ·exact c0 _ h rfl (by simp [cS,h,cC])
theorem Gp {t:ae} {y:aj} (hi:∀ k,k<t.ins.n→jV t k=true) (hy:y.op=20):∀ k,k≤t.ins.n→∀ i,i<k→bB t y k i=cT t y k i
 | 0,_,i,h=>absurd h (Nat.not_lt_zero i)
 | k+1,hk,i,h=>by
   show (bif Nat.beq i k then ia t y (bB t y k) k else bB t y k i)=(bif Nat.blt i k then cT t y k i else eA t y (cT t y k) k)
   by_cases e:i=k
   ·subst e
    rw [cf,show Nat.blt i i=false from by
     cases hb:Nat.blt i i with
     | false=>rfl
     | true=>simp [cD] at hb]
    exact RP (hi i (by omega)) hy (Gp hi hy i (by omega))
   ·rw [tF e,iK (by omega)]
    exact Gp hi hy k (by omega) i (by omega)
theorem yc {t:ae} {y:aj} (hy:y.op≠20):∀ k i,i<k→cT t y k i=false
 | 0,i,h=>absurd h (Nat.not_lt_zero i)
 | k+1,i,h=>by
   show (bif Nat.blt i k then cT t y k i else eA t y (cT t y k) k)=false
   cases hb:Nat.blt i k with
   | true=>exact yc hy k i (by simpa [cD] using hb)
   | false=>
     have e:(y.op==20)=false:=by simpa using hy
     show eA t y (cT t y k) k=false
     unfold eA fw
     rw [e,cond_false,cond_false,zR]
     cases (t.ins.get k).op==1<;>cases hZ (t.ins.get k).op<;>rfl
theorem inv_eq {t:ae} (h:eO t=eu t):(nF t).n=(ri t).n∧∀ i,i<(nF t).n→(nF t).get i=(ri t).get i:=by
 unfold nF ri
 rw [h]
 cases hr:eu t != 0 with
 | true=>exact ⟨rfl,fun i hi=>rfl⟩
 | false=>
   have hi:=tZ (by simpa using hr:eu t=0)
   simp only [cond_false]
   cases hl:(jx t).op != 20 with
   | true=>exact ⟨rfl,fun i hi=>(yc (by simpa using hl) _ i hi).symm⟩
   | false=>exact ⟨rfl,fun i hk=>Gp hi (by simpa using hl) _ (bk _) i hk⟩
open Go Go.V
section
def BL (k:Nat):Nat→I:=U3 [iI 5,iI k,iI 0,iI 0,iI 0,iS ⟨⟨[]⟩⟩]
def j9 (t:ae) (v:Sq Bool) (k:Nat):Bool:=v.get k&&((t.ins.get k).op != 1 && !(t.ins.get k).once)
def mv (p:Nat→Bool):Nat→Sq Nat
 | 0=>⟨0,fun _=>0⟩
 | k+1=>bif p k then jy (mv p k) k else mv p k
def XS (v:Sq Bool):hX:={ F:=ext FH [(10,fun _ _=>(eT 1 eB v,[],[])),(27,fun _ _=>(eT 1 eB v,[],[]))] }
end
def Ex:Nat→Bool:=fun i=>Nat.beq i 3
theorem Z9:Fn 18:=⟨by kernel_rfl,by kernel_rfl⟩
abbrev gZ (ax:Sq Bool):D:=.c (.im (.sl 1 ax.1 (fun i=>eB (ax.2 i))))
abbrev xp (ax:Sq Bool):gF:=(8,((int (↑ax.1:Int)),[]))
theorem ZR (L:LP) (QD:D→Prop) (t:ae) (v:Sq Bool) (h:(LC 10 [(dw t)] [] (gZ v) []∧L (ag 18 3) ⟨[b5,AY,(7,((gZ v),[])),(xp v),(9,((int 0),[]))],[(bC t)],[]⟩)):fS (XS v) 18 Ex L (aZ QD) [bc t] []:=Eq.mp (by kernel_rfl) h
def vf (t:ae) (v:Sq Bool) (q:Sq Nat) (k:Nat):VS:=⟨[ka,(3,.c (.sa 1 q.n),[]),(7,eT 1 eB v,[]),(8,int v.n,[]),(9,int k,[])],[.box (lift (cB t)),.arr 45 6 q.n (fun i=>BL (q.get i))],[]⟩
abbrev TV (ax:ae) (aF:Nat) (aR:Sq Nat):List ah:=[(bC ax),.dead,(.row 45 6 1 [(ci 5),(ci (↑aF:Int)),(ci 0),(ci 0),(ci 0),dk]),(.arr 45 6 (aR.1+1) (gP aR.1 (fun i=>BL (aR.2 i)) (1,flat 6 [I.v (Value.int IntKind.i64 5),I.v (Value.int IntKind.i64 (↑aF:Int)),I.v (Value.int IntKind.i64 0),I.v (Value.int IntKind.i64 0),I.v (Value.int IntKind.i64 0),I.v (Value.string { data:={ toList:=[] } })]).snd))]
abbrev tL (ax:ae) (aF:Sq Nat):List ah:=[(bC ax),(.arr 45 6 aF.1 (fun i=>BL (aF.2 i)))]
abbrev nJ (ax:Sq Nat):D:=.c (.im (.sl 6 ax.1 (fun i=>BL (ax.2 i))))
theorem JP (L:LP) (QD:D→Prop) (t:ae) (v:Sq Bool) (q:Sq Nat) (k:Nat) (h:br (decide ((↑k:Int)<(↑v.1:Int))) (nd (cd (↑k:Int) v.1) (br (v.2 k) (nd (cd (↑k:Int) t.2.1) (br ((t.2.2 k).1 != 1) (nd (cd (↑k:Int) t.2.1) (br (!(t.2.2 k).11) (nd (cg (q.1+1) 56) (nd (q.1.beq q.1) (L (ag 18 3) ⟨[b5,(3,((.c (.sa 3 (.succ q.1))),[])),(7,((gZ v),[])),(xp v),(9,((int (IntKind.i64.wrap ((↑k:Int)+1))),[]))],(TV t k q),[]⟩))) (L (ag 18 3) ⟨[b5,(3,((.c (.sa 1 q.1)),[])),(7,((gZ v),[])),(xp v),(9,((int (IntKind.i64.wrap ((↑k:Int)+1))),[]))],(tL t q),[]⟩))) (L (ag 18 3) ⟨[b5,(3,((.c (.sa 1 q.1)),[])),(7,((gZ v),[])),(xp v),(9,((int (IntKind.i64.wrap ((↑k:Int)+1))),[]))],(tL t q),[]⟩))) (L (ag 18 3) ⟨[b5,(3,((.c (.sa 1 q.1)),[])),(7,((gZ v),[])),(xp v),(9,((int (IntKind.i64.wrap ((↑k:Int)+1))),[]))],(tL t q),[]⟩))) (QD (nJ q))):dq (XS v) 18 Ex L (aZ QD) 3 (vf t v q k):=Eq.mp (by kernel_rfl) h
theorem MW (p:Nat→Bool):∀ k,(mv p k).n≤k
 | 0=>bk 0
 | k+1=>by
   show (bif p k then jy (mv p k) k else mv p k).n≤k+1
   have:=MW p k
   cases p k with
   | true=>exact Nat.succ_le_succ this
   | false=>exact Nat.le_succ_of_le this
theorem zX {p p':Nat→Bool}:∀ k,(∀ i,i<k→p i=p' i)→mv p k=mv p' k
 | 0,_=>rfl
 | k+1,h=>by
   show (bif p k then jy (mv p k) k else mv p k)=(bif p' k then jy (mv p' k) k else mv p' k)
   rw [h k (Nat.lt_succ_self k),zX k fun i hi=>h i (Nat.lt_succ_of_lt hi)]
theorem Qd {q:Sq Nat} {k:Nat}:aJ (.arr 45 6 (q.n+1) (gP q.n (fun i=>BL (q.get i)) (flat 6 [iI 5,iI k,iI 0,iI 0,iI 0,iS ⟨⟨[]⟩⟩]))) (.arr 45 6 (q.n+1) (fun i=>BL ((jy q k).get i))):=
 aJ.arr fun i hi j hj=>by
  show dr (Bool.rec (flat 6 [iI 5,iI k,iI 0,iI 0,iI 0,iS ⟨⟨[]⟩⟩] (i-q.n) j) (BL (q.get i) j) (Nat.blt i q.n)) (BL (bif Nat.blt i q.n then q.get i else k) j)
  cases hb:Nat.blt i q.n with
  | true=>exact dr.refl _
  | false=>
    have:¬ i<q.n:=fun h=>by rw [iK h] at hb; cases hb
    rw [show i-q.n=0 by omega]
    show dr (bH [iI 5,iI k,iI 0,iI 0,iI 0,iS ⟨⟨[]⟩⟩] (0*6+j)) (U3 [iI 5,iI k,iI 0,iI 0,iI 0,iS ⟨⟨[]⟩⟩] j)
    rw [Nat.zero_mul,Nat.zero_add,vV _ _ hj]
    exact dr.refl _
theorem RC (t:ae) (v:Sq Bool) (hv:v.n≤t.ins.n) (hN:t.ins.n≤1000):∀ k,k≤v.n→af 18 0 (aW (eT 6 BL (mv (j9 t v) v.n))) (ag 18 3) (vf t v (mv (j9 t v) k) k):=by
 refine aL (fun k hk ih=>?_) ?_
 ·refine aH (X:=XS v) (stop:=Ex) (JP _ _ t v (mv (j9 t v) k) k ?_)
  have hq:=MW (j9 t v) k
  have hk2:k<t.ins.n:=by omega
  refine ak (fun h=>?_) (fun h=>(dec_lt h hk).elim)
  rw [bR hk (by unfold maxLen; omega)]
  have no:j9 t v k=false→mv (j9 t v) (k+1)=mv (j9 t v) k:=fun e=>by
   show (bif j9 t v k then jy (mv (j9 t v) k) k else mv (j9 t v) k)=_
   rw [e]; rfl
  refine aw (aA hk) (ak (fun h1=>aw (aA hk2) (ak (fun h2=>aw (aA hk2) (ak (fun h3=>aw (cj (by omega) (by omega)) (aw (cf _) ?_)) (fun h3=>?_))) (fun h2=>?_))) (fun h1=>?_))
  ·have e:mv (j9 t v) (k+1)=jy (mv (j9 t v) k) k:=by
    show (bif j9 t v k then jy (mv (j9 t v) k) k else mv (j9 t v) k)=_
    rw [show j9 t v k=true from by unfold j9; rw [show v.get k=true from h1,show ((t.ins.get k).op != 1)=true from h2,show (!(t.ins.get k).once)=true from h3]; rfl]; rfl
   rw [e] at ih
   exact af.rename [0,3] rfl (af.le (vf t v (jy (mv (j9 t v) k) k) (k+1)) (by repeat' (first|exact trivial|refine bV rfl ?_)) (rc (.cons Qd .nil)) rfl ih)
  ·rw [no (by unfold j9; rw [show v.get k=true from h1,show ((t.ins.get k).op != 1)=true from h2,show (!(t.ins.get k).once)=false from h3]; rfl)] at ih
   exact ih
  ·rw [no (by unfold j9; rw [show v.get k=true from h1,show ((t.ins.get k).op != 1)=false from h2]; rfl)] at ih
   exact ih
  ·rw [no (by unfold j9; rw [show v.get k=false from h1]; rfl)] at ih
   exact ih
 ·refine aH (X:=XS v) (stop:=Ex) (JP _ _ t v _ _ ?_)
  refine ak (fun h=>bJ h) (fun h=>?_)
  exact aX.refl _
theorem Wu (t:ae) (v:Sq Bool) (hv:v.n≤t.ins.n) (hN:t.ins.n≤1000) (hi:LC 10 [bc t] [] (eT 1 eB v) []):LC 18 [bc t] [] (eT 6 BL (mv (j9 t v) v.n)) []:=by
 refine aU (X:=XS v) (stop:=Ex) Z9 (bg (by kernel_rfl)) (ZR _ _ t v ⟨hi,?_⟩)
 exact af.xJ 3 45 6 rfl (af.le (vf t v (mv (j9 t v) 0) 0) (by repeat' (first|exact trivial|refine bV rfl ?_)) (rc (.cons (aJ.arr fun i hi=>absurd hi (Nat.not_lt_zero i)) .nil)) rfl (RC t v hv hN 0 (bu _)))
def EO:Nat→Bool:=fun i=>Nat.beq i 4
theorem YD:Fn 28:=⟨by kernel_rfl,by kernel_rfl⟩
theorem ZJ (L:LP) (QD:D→Prop) (t:ae) (v:Sq Bool) (h:(LC 27 [(dw t)] [] (gZ v) []∧L (ag 28 4) ⟨[b5,(3,((gZ v),[])),(4,((.c b6),[])),nv],[(bC t)],[]⟩)):fS (XS v) 28 EO L (aZ QD) [bc t] []:=Eq.mp (by kernel_rfl) h
def vF (t:ae) (v:Sq Bool) (q:Sq Nat) (k:Nat):VS:=⟨[ka,(3,eT 1 eB v,[]),(4,.c (.sa 1 q.n),[]),(5,int k,[])],[.box (lift (cB t)),.arr 45 6 q.n (fun i=>BL (q.get i))],[]⟩
theorem Iw (L:LP) (QD:D→Prop) (t:ae) (v:Sq Bool) (q:Sq Nat) (k:Nat) (h:br (decide ((↑k:Int)<(↑v.1:Int))) (nd (cd (↑k:Int) v.1) (br (v.2 k) (nd (cd (↑k:Int) t.2.1) (br ((t.2.2 k).1 != 1) (nd (cd (↑k:Int) t.2.1) (br (!(t.2.2 k).11) (nd (cg (q.1+1) 56) (nd (q.1.beq q.1) (L (ag 28 4) ⟨[b5,(3,((gZ v),[])),(4,((.c (.sa 3 (.succ q.1))),[])),(5,((int (IntKind.i64.wrap ((↑k:Int)+1))),[]))],(TV t k q),[]⟩))) (L (ag 28 4) ⟨[b5,(3,((gZ v),[])),(4,((.c (.sa 1 q.1)),[])),(5,((int (IntKind.i64.wrap ((↑k:Int)+1))),[]))],(tL t q),[]⟩))) (L (ag 28 4) ⟨[b5,(3,((gZ v),[])),(4,((.c (.sa 1 q.1)),[])),(5,((int (IntKind.i64.wrap ((↑k:Int)+1))),[]))],(tL t q),[]⟩))) (L (ag 28 4) ⟨[b5,(3,((gZ v),[])),(4,((.c (.sa 1 q.1)),[])),(5,((int (IntKind.i64.wrap ((↑k:Int)+1))),[]))],(tL t q),[]⟩))) (QD (nJ q))):dq (XS v) 28 EO L (aZ QD) 4 (vF t v q k):=Eq.mp (by kernel_rfl) h
theorem Tp (t:ae) (v:Sq Bool) (hv:v.n≤t.ins.n) (hN:t.ins.n≤1000):∀ k,k≤v.n→af 28 0 (aW (eT 6 BL (mv (j9 t v) v.n))) (ag 28 4) (vF t v (mv (j9 t v) k) k):=by
 refine aL (fun k hk ih=>?_) ?_
 ·refine aH (X:=XS v) (stop:=EO) (Iw _ _ t v (mv (j9 t v) k) k ?_)
  have hq:=MW (j9 t v) k
  have hk2:k<t.ins.n:=by omega
  refine ak (fun h=>?_) (fun h=>(dec_lt h hk).elim)
  rw [bR hk (by unfold maxLen; omega)]
  have no:j9 t v k=false→mv (j9 t v) (k+1)=mv (j9 t v) k:=fun e=>by
   show (bif j9 t v k then jy (mv (j9 t v) k) k else mv (j9 t v) k)=_
   rw [e]; rfl
  refine aw (aA hk) (ak (fun h1=>aw (aA hk2) (ak (fun h2=>aw (aA hk2) (ak (fun h3=>aw (cj (by omega) (by omega)) (aw (cf _) ?_)) (fun h3=>?_))) (fun h2=>?_))) (fun h1=>?_))
  ·have e:mv (j9 t v) (k+1)=jy (mv (j9 t v) k) k:=by
    show (bif j9 t v k then jy (mv (j9 t v) k) k else mv (j9 t v) k)=_
    rw [show j9 t v k=true from by unfold j9; rw [show v.get k=true from h1,show ((t.ins.get k).op != 1)=true from h2,show (!(t.ins.get k).once)=true from h3]; rfl]; rfl
   rw [e] at ih
   exact af.rename [0,3] rfl (af.le (vF t v (jy (mv (j9 t v) k) k) (k+1)) (by repeat' (first|exact trivial|refine bV rfl ?_)) (rc (.cons Qd .nil)) rfl ih)
  ·rw [no (by unfold j9; rw [show v.get k=true from h1,show ((t.ins.get k).op != 1)=true from h2,show (!(t.ins.get k).once)=false from h3]; rfl)] at ih
   exact ih
  ·rw [no (by unfold j9; rw [show v.get k=true from h1,show ((t.ins.get k).op != 1)=false from h2]; rfl)] at ih
   exact ih
  ·rw [no (by unfold j9; rw [show v.get k=false from h1]; rfl)] at ih
   exact ih
 ·refine aH (X:=XS v) (stop:=EO) (Iw _ _ t v _ _ ?_)
  refine ak (fun h=>bJ h) (fun h=>?_)
  exact aX.refl _
theorem VO (t:ae) (v:Sq Bool) (hv:v.n≤t.ins.n) (hN:t.ins.n≤1000) (hi:LC 27 [bc t] [] (eT 1 eB v) []):LC 28 [bc t] [] (eT 6 BL (mv (j9 t v) v.n)) []:=by
 refine aU (X:=XS v) (stop:=EO) YD (bg (by kernel_rfl)) (ZJ _ _ t v ⟨hi,?_⟩)
 exact af.xJ 4 45 6 rfl (af.le (vF t v (mv (j9 t v) 0) 0) (by repeat' (first|exact trivial|refine bV rfl ?_)) (rc (.cons (aJ.arr fun i hi=>absurd hi (Nat.not_lt_zero i)) .nil)) rfl (Tp t v hv hN 0 (bu _)))
def Df:Nat→Bool:=fun i=>Nat.beq i 4
theorem UA:Fn 16:=⟨by kernel_rfl,by kernel_rfl⟩
theorem ac6 (L:LP) (QD:D→Prop) (x y:Sq Bool) (h:br ((↑x.1:Int)!=(↑y.1:Int)) (QD (bool false)) (L (ag 16 4) ⟨[(0,((gZ x),[])),(1,((gZ y),[])),(12,((int (↑x.1:Int)),[])),(13,((int 0),[]))],[],[]⟩)):fS XH 16 Df L (aZ QD) [eT 1 eB x,eT 1 eB y] []:=Eq.mp (by kernel_rfl) h
def J7 (x y:Sq Bool) (k:Nat):VS:=⟨[(0,(gZ x),[]),(1,(gZ y),[]),(12,(int (↑x.1:Int)),[]),(13,int k,[])],[],[]⟩
theorem ID (L:LP) (QD:D→Prop) (x y:Sq Bool) (k:Nat) (h:br (decide ((↑k:Int)<(↑x.1:Int))) (nd (cd (↑k:Int) x.1) (nd (cd (↑k:Int) y.1) (br (!x.2 k==y.2 k) (QD (bool false)) (L (ag 16 4) ⟨[(0,((gZ x),[])),(1,((gZ y),[])),(12,((int (↑x.1:Int)),[])),(13,((int (IntKind.i64.wrap ((↑k:Int)+1))),[]))],[],[]⟩)))) (QD (bool true))):dq XH 16 Df L (aZ QD) 4 (J7 x y k):=Eq.mp (by kernel_rfl) h
theorem Zo (x y:Sq Bool) (hn:x.n=y.n) (he:∀ i,i<x.n→x.get i=y.get i) (hx:x.n≤maxLen):∀ k,k≤x.n→af 16 0 (aW (bool true)) (ag 16 4) (J7 x y k):=by
 refine aL (fun k hk ih=>?_) ?_
 ·refine aH (X:=XH) (stop:=Df) (ID _ _ x y k ?_)
  refine ak (fun h=>?_) (fun h=>(dec_lt h hk).elim)
  rw [bR hk hx]
  refine aw (aA hk) (aw (aA (by omega)) (ak (fun h1=>?_) (fun h1=>ih)))
  rw [he k hk] at h1
  simp at h1
 ·refine aH (X:=XH) (stop:=Df) (ID _ _ x y _ ?_)
  exact ak (fun h=>bJ h) (fun h=>aX.refl _)
theorem WN (x y:Sq Bool) (hn:x.n=y.n) (he:∀ i,i<x.n→x.get i=y.get i):LC 16 [eT 1 eB x,eT 1 eB y] [] (bool true) []:=
 cu.with UA (p:=x.n≤maxLen) (fun E av w vs h=>by cases h with|cons q _=>exact jc q) fun hx=>by
  refine aU (X:=XH) (stop:=Df) UA (bg (by kernel_rfl)) (ac6 _ _ x y (ak (fun h=>?_) (fun h=>Zo x y hn he hx 0 (bu _))))
  rw [hn] at h
  simp at h
def Ef:Nat→Bool:=fun i=>Nat.beq i 4
theorem UJ:Fn 17:=⟨by kernel_rfl,by kernel_rfl⟩
theorem Zu (L:LP) (QD:D→Prop) (x y:Sq Nat) (h:br ((↑x.1:Int)!=(↑y.1:Int)) (QD (bool false)) (L (ag 17 4) ⟨[(0,((nJ x),[])),(1,((nJ y),[])),(12,((int (↑x.1:Int)),[])),(13,((int 0),[]))],[],[]⟩)):fS XH 17 Ef L (aZ QD) [eT 6 BL x,eT 6 BL y] []:=Eq.mp (by kernel_rfl) h
def Ja (x y:Sq Nat) (k:Nat):VS:=⟨[(0,(nJ x),[]),(1,(nJ y),[]),(12,(int (↑x.1:Int)),[]),(13,int k,[])],[],[]⟩
theorem I0 (L:LP) (QD:D→Prop) (x y:Sq Nat) (k:Nat) (h:br (decide ((↑k:Int)<(↑x.1:Int))) (nd (cd (↑k:Int) x.1) (nd (cd (↑k:Int) y.1) (br (!(5==5&&((↑(x.2 k):Int)==(↑(y.2 k):Int)&&(0==0&&(0==0&&(0==0&&((⟨⟨[]⟩⟩:ByteArray)==(⟨⟨[]⟩⟩:ByteArray)&&true))))))) (QD (bool false)) (L (ag 17 4) ⟨[(0,((nJ x),[])),(1,((nJ y),[])),(12,((int (↑x.1:Int)),[])),(13,((int (IntKind.i64.wrap ((↑k:Int)+1))),[]))],[],[]⟩)))) (QD (bool true))):dq XH 17 Ef L (aZ QD) 4 (Ja x y k):=Eq.mp (by kernel_rfl) h
theorem YX (x y:Sq Nat) (hn:x.n=y.n) (he:∀ i,i<x.n→x.get i=y.get i) (hx:x.n≤maxLen):∀ k,k≤x.n→af 17 0 (aW (bool true)) (ag 17 4) (Ja x y k):=by
 refine aL (fun k hk ih=>?_) ?_
 ·refine aH (X:=XH) (stop:=Ef) (I0 _ _ x y k ?_)
  refine ak (fun h=>?_) (fun h=>(dec_lt h hk).elim)
  rw [bR hk hx]
  refine aw (aA hk) (aw (aA (by omega)) (ak (fun h1=>?_) (fun h1=>ih)))
  rw [he k hk] at h1
  simp at h1; exact absurd h1 (by decide)
 ·refine aH (X:=XH) (stop:=Ef) (I0 _ _ x y _ ?_)
  exact ak (fun h=>bJ h) (fun h=>aX.refl _)
theorem V2 (x y:Sq Nat) (hn:x.n=y.n) (he:∀ i,i<x.n→x.get i=y.get i):LC 17 [eT 6 BL x,eT 6 BL y] [] (bool true) []:=
 cu.with UJ (p:=x.n≤maxLen) (fun E av w vs h=>by cases h with|cons q _=>exact jc q) fun hx=>by
  refine aU (X:=XH) (stop:=Ef) UJ (bg (by kernel_rfl)) (Zu _ _ x y (ak (fun h=>?_) (fun h=>YX x y hn he hx 0 (bu _))))
  rw [hn] at h
  simp at h
open Go Go.V
theorem EC:∀ (m k p p':Nat) (ins:Sq aj) (ex:Sq ai),dM ⟨p,ins,ex⟩ ⟨p',Od m k ins,ex⟩ m 0
 | 0,k,p,p',ins,ex=>⟨bk _,bk _,fun h=>h,fun h=>h⟩
 | m+1,k,p,p',ins,ex=>by
   have h1:=dM.add ⟨p,ins,ex⟩ p (x:=pI k) ⟨by show (0:Int)≤_; omega,bu _,bu _,bu _⟩
   have h2:=EC m (k+1) p p' (cx ins (pI k)) ex
   exact (h1.trans h2).le (by omega) (by omega)
theorem Dv (l:Sq Int) (fuel:Int) (param:Nat) (hP:param≤900):∀ (m:Nat) (s:eU),dM s (Uu l fuel param m s) (4*m) (2*m)
 | 0,s=>dM.refl s
 | m+1,s=>((Dz l fuel param hP s).trans (Dv l fuel param hP m _)).le (by omega) (by omega)
theorem M9 (l:Sq Int) (ins:Sq aj):∀ (m k p:Nat) (h:Sq Int),(yC l ins m k p h).n=h.n+m
 | 0,k,p,h=>rfl
 | m+1,k,p,h=>by
   unfold yC
   cases (nx l p 2).1==0 with
   | true=>
     show (yC l ins m _ _ _).n=_
     rw [M9]
     show h.n+1+m=_
     omega
   | false=>
     show (yC l ins m _ _ _).n=_
     rw [M9]
     show h.n+1+m=_
     omega
structure AL (t:ae):Prop where
 ins:t.ins.n≤900
 aa:t.aa.n≤900
 gi:∀ k,k<t.ins.n→qg (t.ins.get k)
 ge:∀ k,k<t.aa.n→wu (t.aa.get k)
theorem dM.Yg {p:Nat} {s:eU} {c d:Nat} (h:dM ⟨p,qW,xB⟩ s c d) (hc:c≤900) (hd:d≤900):AL ⟨⟨0,0⟩,s.ins,s.ex⟩:=by
 have g1:=h.gi fun k hk=>absurd hk (Nat.not_lt_zero k)
 have g2:=h.ge fun k hk=>absurd hk (Nat.not_lt_zero k)
 have g3:s.ins.n≤0+c:=h.ins
 have g4:s.ex.n≤0+d:=h.ex
 exact ⟨by show s.ins.n≤_; omega,by show s.ex.n≤_; omega,g1,g2⟩
theorem LG (l:Sq Int):AL (made l):=by
 obtain ⟨d,hd,dD⟩:=l8 (l:=l) (p:=0) (n:=4) (by omega) (by omega)
 unfold made
 rw [hd]
 show AL (Qq l (1+d) (nx l 0 4).2 (Od (1+d) 0 qW) xB)
 have h1:=EC (1+d) 0 0 0 qW xB
 generalize (nx l 0 4).2=p
 unfold Qq
 have hf:=Im (l:=l) (p:=p) (n:=4) (by omega) (by omega)
 obtain ⟨e,he,hle⟩:=l8 (l:=l) (p:=(lv l (nx l p 4).2 (Od (1+d) 0 qW) 0 (1+d)).2) (n:=14) (by omega) (by omega)
 rw [he]
 generalize hF:1+(nx l p 4).1=fuel
 have h2:dM ⟨0,Od (1+d) 0 qW,xB⟩ (Uo l fuel (1+d) (nx l p 4).2 (Od (1+d) 0 qW) xB) 1 1:=
  dM.both _ _ (fP (by omega)) (sr l _ _ _ _ (by omega))
 have h3:=(h1.trans h2).trans (Dv l fuel (1+d) (by omega) e (Uo l fuel (1+d) (nx l p 4).2 (Od (1+d) 0 qW) xB))
 show AL (uY l fuel (1+d) (Uu l fuel (1+d) e _))
 generalize Uu l fuel (1+d) e (Uo l fuel (1+d) (nx l p 4).2 (Od (1+d) 0 qW) xB)=s at h3 ⊢
 unfold uY
 cases (nx l s.p 6).1==0 with
 | true=>exact dM.Yg (h3.trans (dM.both s 0 (fP (by omega)) (sr l _ _ _ _ (by omega)))) (by omega) (by omega)
 | false=>
   refine dM.Yg (h3.trans (dM.add s 0 (x:={ dt 20 0 0 0 0 (-1) with args:=yC l s.ins (1+d) 0 (nx l s.p 6).2 (dx 0) }) ⟨by show (0:Int)≤_; omega,?_,bu _,bu _⟩)) (by omega) (by omega)
   show (yC l s.ins (1+d) 0 (nx l s.p 6).2 (dx 0)).n≤900
   rw [M9]
   show 0+(1+d)≤900
   omega
open Go Go.V
structure EG (m:Nat) (x:aj):Prop where
 n:x.n≤9223372036854775807
 args:x.args.n≤m
 names:x.names.n≤m
 str:x.k.s.size≤m
structure EB (m:Nat) (e:ai):Prop where
 frames:e.frames.n≤m
 vars:∀ j,j<e.frames.n→(e.frames.get j).vars.n≤m
 az:e.az.n≤m
 names:∀ j,j<e.az.n→(e.az.get j).names.n≤m
 items:∀ j,j<e.az.n→(e.az.get j).items.n≤m
 pos:0<e.frames.n
structure yu (m:Nat) (t:ae):Prop where
 ins:t.ins.n≤m
 aa:t.aa.n≤m
 gi:∀ k,k<t.ins.n→EG m (t.ins.get k)
 ge:∀ k,k<t.aa.n→EB m (t.aa.get k)
theorem EG.le {m m':Nat} {x:aj} (h:EG m x) (hm:m≤m'):EG m' x:=⟨h.n,cM h.args hm,cM h.names hm,cM h.str hm⟩
theorem EB.le {m m':Nat} {x:ai} (h:EB m x) (hm:m≤m'):EB m' x:=⟨cM h.frames hm,fun j q=>cM (h.vars j q) hm,cM h.az hm,fun j q=>cM (h.names j q) hm,fun j q=>cM (h.items j q) hm,h.pos⟩
theorem yu.le {m m':Nat} {t:ae} (h:yu m t) (hm:m≤m'):yu m' t:=⟨cM h.ins hm,cM h.aa hm,fun k q=>(h.gi k q).le hm,fun k q=>(h.ge k q).le hm⟩
theorem yu.small {m:Nat} {t:ae} (h:yu m t) (hm:m≤1000):ed t:=
 ⟨cM h.ins hm,cM h.aa hm,fun k q=>cM (h.gi k q).args hm,fun k q=>cM (h.gi k q).names hm,fun k q=>cM (h.gi k q).str hm,fun k q=>
  ⟨cM (h.ge k q).frames hm,fun j r=>cM ((h.ge k q).vars j r) hm,cM (h.ge k q).az hm,fun j r=>cM ((h.ge k q).names j r) hm,fun j r=>cM ((h.ge k q).items j r) hm⟩⟩
theorem PU (l:Sq Int):yu 900 (made l):=by
 have h:=LG l
 exact ⟨h.ins,h.aa,fun k q=>⟨(h.gi k q).n,(h.gi k q).args,(h.gi k q).names,(h.gi k q).str⟩,fun k q=>⟨(h.ge k q).frames,(h.ge k q).vars,(h.ge k q).az,(h.ge k q).names,(h.ge k q).items,(h.ge k q).pos⟩⟩
theorem yu.num {m:Nat} {t:ae} (h:yu m t):∀ k,k<t.ins.n→(t.ins.get k).n≤9223372036854775807:=fun k q=>(h.gi k q).n
theorem Nx {m:Nat} {t:ae} (h:yu m t) {k:Nat} {x:aj} (hx:k<t.ins.n→EG (m+1) x):yu (m+1) (fO t k x):=by
 have h':=h.le (Nat.le_succ m)
 refine ⟨h'.ins,h'.aa,fun i q=>?_,h'.ge⟩
 show EG (m+1) (bif Nat.beq i k then x else t.ins.get i)
 cases hb:Nat.beq i k with
 | false=>exact h'.gi i q
 | true=>exact hx (by rw [← Nat.eq_of_beq_eq_true hb]; exact q)
theorem MZ {m:Nat} {t:ae} (h:yu m t) {k:Nat} {x:ai} (hx:k<t.aa.n→EB (m+1) x):yu (m+1) (sb t k x):=by
 have h':=h.le (Nat.le_succ m)
 refine ⟨h'.ins,h'.aa,h'.gi,fun i q=>?_⟩
 show EB (m+1) (bif Nat.beq i k then x else t.aa.get i)
 cases hb:Nat.beq i k with
 | false=>exact h'.ge i q
 | true=>exact hx (by rw [← Nat.eq_of_beq_eq_true hb]; exact q)
theorem Fb {m:Nat} {t:ae} (h:yu m t) (hm:2≤m) (XX:m≤1000) (hn:0<t.ins.n) (q0 q1 q2:Int) (hq:q2≤9223372036854775807):yu (m+1) (bP t q0 q1 q2):=by
 have h':=h.le (Nat.le_succ m)
 have G:∀ {b:Bool} {x y:ae},yu (m+1) x→yu (m+1) y→yu (m+1) (bif b then x else y):=fun {b x y} h1 h2=>by cases b<;>assumption
 have I:∀ {k:Nat} {f:aj→aj},(∀ x,EG m x→EG (m+1) (f x))→yu (m+1) (fO t k (f (t.ins.get k))):=fun hf=>Nx h fun hk=>hf _ (h.gi _ hk)
 have E:∀ {k:Nat} {f:ai→ai},(∀ x,EB m x→EB (m+1) (f x))→yu (m+1) (Qv t (sb t k (f (t.aa.get k)))):=fun hf=>G (MZ h fun hk=>hf _ (h.ge _ hk)) h'
 unfold bP
 refine G ?_ (G ?_ (G ?_ (G ?_ (G ?_ (G ?_ (G ?_ (G ?_ (G ?_ (G ?_ (G ?_ (G ?_ (G ?_ (G ?_ h')))))))))))))
 ·exact I (f:=fun x=>{ x with op:=et q2 23 }) fun x hx=>let hx:=hx.le (Nat.le_succ m); ⟨hx.n,hx.args,hx.names,hx.str⟩
 ·exact I (f:=fun x=>{ x with a:=q2 }) fun x hx=>let hx:=hx.le (Nat.le_succ m); ⟨hx.n,hx.args,hx.names,hx.str⟩
 ·exact I (f:=fun x=>{ x with b:=q2 }) fun x hx=>let hx:=hx.le (Nat.le_succ m); ⟨hx.n,hx.args,hx.names,hx.str⟩
 ·exact I (f:=fun x=>{ x with n:=q2 }) fun x hx=>let hx:=hx.le (Nat.le_succ m); ⟨hq,hx.args,hx.names,hx.str⟩
 ·exact I (f:=fun x=>{ x with exit:=IntKind.i64.wrap (et q2 (IntKind.i64.wrap ((t.aa.n:Int)+2))-1) }) fun x hx=>let hx:=hx.le (Nat.le_succ m); ⟨hx.n,hx.args,hx.names,hx.str⟩
 ·exact I (f:=fun x=>{ x with once := !x.once }) fun x hx=>let hx:=hx.le (Nat.le_succ m); ⟨hx.n,hx.args,hx.names,hx.str⟩
 ·exact I (f:=fun x=>{ x with args:=jy x.args q2 }) fun x hx=>⟨hx.n,Nat.succ_le_succ hx.args,Nat.le_succ_of_le hx.names,Nat.le_succ_of_le hx.str⟩
 ·exact I (f:=fun x=>{ x with names:=jy x.names (Z3 (et q2 3).toNat) }) fun x hx=>⟨hx.n,Nat.le_succ_of_le hx.args,Nat.succ_le_succ hx.names,Nat.le_succ_of_le hx.str⟩
 ·exact I (f:=fun x=>{ x with k:=⟨et q2 8,et q2 3,⟨⟨[]⟩⟩⟩ }) fun x hx=>let hx:=hx.le (Nat.le_succ m); ⟨hx.n,hx.args,hx.names,bu _⟩
 ·exact E (f:=fun x=>{ x with back:=q2 }) fun x hx=>let hx:=hx.le (Nat.le_succ m); ⟨hx.frames,hx.vars,hx.az,hx.names,hx.items,hx.pos⟩
 ·refine E (f:=fun x=>{ x with frames:=S8 x.frames 0 { x.frames.get 0 with vars:=jy (x.frames.get 0).vars q2 } }) fun x hx=>⟨Nat.le_succ_of_le hx.frames,fun j hj=>?_,Nat.le_succ_of_le hx.az,fun j hj=>Nat.le_succ_of_le (hx.names j hj),fun j hj=>Nat.le_succ_of_le (hx.items j hj),hx.pos⟩
  show (bif Nat.beq j 0 then ({ x.frames.get 0 with vars:=jy (x.frames.get 0).vars q2 }:eV) else x.frames.get j).vars.n≤m+1
  cases Nat.beq j 0 with
  | true=>exact Nat.succ_le_succ (hx.vars 0 hx.pos)
  | false=>exact Nat.le_succ_of_le (hx.vars j hj)
 ·refine E (f:=fun x=>{ x with az:=jy x.az ⟨q2,0,yt,xD⟩ }) fun x hx=>⟨Nat.le_succ_of_le hx.frames,fun j hj=>Nat.le_succ_of_le (hx.vars j hj),Nat.succ_le_succ hx.az,fun j hj=>?_,fun j hj=>?_,hx.pos⟩
  ·show (bif Nat.blt j x.az.n then x.az.get j else (⟨q2,0,yt,xD⟩:iR)).names.n≤m+1
   cases hb:Nat.blt j x.az.n with
   | true=>exact Nat.le_succ_of_le (hx.names j (by simpa [cD] using hb))
   | false=>show 2≤m+1; omega
  ·show (bif Nat.blt j x.az.n then x.az.get j else (⟨q2,0,yt,xD⟩:iR)).items.n≤m+1
   cases hb:Nat.blt j x.az.n with
   | true=>exact Nat.le_succ_of_le (hx.items j (by simpa [cD] using hb))
   | false=>show 2≤m+1; omega
 ·have dD:=(jg q2 t.ins.n hn (by have:=h.ins; omega)).2.2
  have hI:=h'.ins
  refine ⟨?_,h'.aa,fun k hk=>?_,h'.ge⟩
  ·show (et q2 (Int.ofNat t.ins.n)).toNat≤m+1
   omega
  ·have hk:k<(et q2 (Int.ofNat t.ins.n)).toNat:=hk
   exact h'.gi k (by omega)
 ·exact ⟨h'.ins,h'.aa,h'.gi,h'.ge⟩
theorem L2 (l:Sq Int):0<(made l).ins.n:=by
 unfold made Qq
 generalize Uu l _ _ _ _=s
 unfold uY
 cases (nx l s.p 6).1==0 with
 | true=>exact Nat.zero_lt_succ _
 | false=>exact Nat.zero_lt_succ _
end
end Go.Proofs.YtghfgcfabbbbbaaDoor
