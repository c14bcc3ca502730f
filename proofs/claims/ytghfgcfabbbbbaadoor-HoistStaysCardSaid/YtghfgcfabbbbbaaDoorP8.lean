/- Loops: what is to be shown. -/
import Derived.Test.YtghfgcfabbbbbaaDoorP7
import Derived.Test.YtghfgcfabbbbbaaDoorP6
set_option linter.unusedVariables false
set_option linter.unusedSimpArgs false
set_option maxRecDepth 1000000
namespace Go.Proofs.YtghfgcfabbbbbaaDoor
open Go Go.V
noncomputable section
section
def A84 (x:aj):Out:=(.a (Eu x 0),[],[.own [CW x.args,Pa x.names]])
def A85 (e:ai):Out:=(.a (Dm e 0),[],[.own [xb e.frames,Ec e.az]])
def F46:FuncId→List D→List ah→Out:=ext Qr [(36,fun ds _=>A84 (si ds 0)),(37,fun ds _=>A85 (Ei ds 0))]
def Uj:hX:={ F:=F46 }
def Pv (t:ae) (p q:Nat):List C:=[.im (iI t.place.fn),.im (iI t.place.line),.sa p t.ins.n,.sa q t.aa.n]
def ap4 (t:ae) (k:Nat):ah:=.cR 40 14 k (fun i=>j7 (t.ins.get i)) none
def exK (t:ae) (k:Nat):ah:=.cR 73 3 k (fun i=>iX (t.aa.get i)) none
end
def DR:Nat→Bool:=fun i=>Nat.beq i 3||Nat.beq i 7
theorem an2:Fn 24:=⟨by kernel_rfl,by kernel_rfl⟩
theorem au3 (L:LP) (QE:D→List ah→Prop) (t:ae) (h:L (ag 24 3) ⟨[b5,l5,cN,vX],[(bC t),eb,(.box [(ci t.1.1),(ci t.1.2),b6,b6])],[]⟩):fS Uj 24 DR L QE [bc t] []:=Eq.mp (by kernel_rfl) h
def CJ (t:ae) (k:Nat):VS:=⟨[ka,tk,jn,(4,int k,[])],[.box (lift (cB t)),.box [.im (iI 0),.im (iI 0),sc,sc],.box [.im (iI t.place.fn),.im (iI t.place.line),.sa 3 k,sc],ap4 t k],[]⟩
abbrev nK (ax:ae) (aF:Nat):C:=.im (.v (.string ((ax.2.2 aF).7.3)))
abbrev j8 (ax:ae) (aF:Nat):C:=.im (.v (.bool ((ax.2.2 aF).11)))
abbrev OX (ax:ae) (aF:Nat):D:=.a [(ci ((ax.2.2 aF).1)),(ci ((ax.2.2 aF).2)),(ci ((ax.2.2 aF).3)),(ci ((ax.2.2 aF).4)),(ci ((ax.2.2 aF).5)),(.ow 0 0),(ci ((ax.2.2 aF).7.1)),(ci ((ax.2.2 aF).7.2)),(nK ax aF),(.ow 0 1),(ci ((ax.2.2 aF).9.1)),(ci ((ax.2.2 aF).9.2)),(ci ((ax.2.2 aF).10)),(j8 ax aF)]
abbrev nI (ax:ae) (aF:Nat):O:=.ar 3 1 ((ax.2.2 aF).6.1) (fun i=>b8 ((ax.2.2 aF).6.2 i))
abbrev nR (ax:ae) (aF:Nat):O:=.ar 9 1 ((ax.2.2 aF).8.1) (fun i=>eD ((ax.2.2 aF).8.2 i))
abbrev l0 (ax:ae) (aF:Nat):Fc:=.c (ci ((ax.2.2 aF).1))
abbrev ml (ax:ae) (aF:Nat):Fc:=.c (ci ((ax.2.2 aF).2))
abbrev l7 (ax:ae) (aF:Nat):Fc:=.c (ci ((ax.2.2 aF).3))
abbrev kR (ax:ae) (aF:Nat):Fc:=.c (ci ((ax.2.2 aF).4))
abbrev mj (ax:ae) (aF:Nat):Fc:=.c (ci ((ax.2.2 aF).5))
abbrev mw (ax:ae) (aF:Nat):Fc:=.c (ci ((ax.2.2 aF).7.1))
abbrev mm (ax:ae) (aF:Nat):Fc:=.c (ci ((ax.2.2 aF).7.2))
abbrev lk (ax:ae) (aF:Nat):Fc:=.c (ci ((ax.2.2 aF).9.1))
abbrev lz (ax:ae) (aF:Nat):Fc:=.c (ci ((ax.2.2 aF).9.2))
abbrev mr (ax:ae) (aF:Nat):Fc:=.c (ci ((ax.2.2 aF).10))
theorem Ox (L:LP) (QE:D→List ah→Prop) (t:ae) (k:Nat) (h:br (decide ((↑k:Int)<(↑t.2.1:Int))) (nd (cd (↑k:Int) t.2.1) ((LC 36 [(.a (lift (aT (t.2.2 k))))] [] (OX t k) [(.own [(nI t k),(nR t k)])]∧nd (cg (k+1) 152) (nd (k.beq k) (nd (cd (↑k:Int) t.2.1) ((LC 36 [(.a (lift (aT (t.2.2 k))))] [] (OX t k) [(.own [(nI t k),(nR t k)])]∧nd (cg (k+1) 152) (nd (k.beq k) (L (ag 24 3) ⟨[b5,l5,cN,(4,((int (IntKind.i64.wrap ((↑k:Int)+1))),[]))],[(bC t),eb,(.box [(ci t.1.1),(ci t.1.2),(.sa 6 (.succ k)),b6]),.dead,(.own [(nI t k),(nR t k)]),(.row 40 14 1 [(ci ((t.2.2 k).1)),(ci ((t.2.2 k).2)),(ci ((t.2.2 k).3)),(ci ((t.2.2 k).4)),(ci ((t.2.2 k).5)),(.ow 4 0),(ci ((t.2.2 k).7.1)),(ci ((t.2.2 k).7.2)),(nK t k),(.ow 4 1),(ci ((t.2.2 k).9.1)),(ci ((t.2.2 k).9.2)),(ci ((t.2.2 k).10)),(j8 t k)]),(.cR 40 14 (k+1) (fun i=>j7 (t.2.2 i)) (.some (k,[(l0 t k),(ml t k),(l7 t k),(kR t k),(mj t k),(.c (.ow 4 0)),(mw t k),(mm t k),(.c (nK t k)),(.c (.ow 4 1)),(lk t k),(lz t k),(mr t k),(.c (j8 t k))])))],[]⟩))))))))) (L (ag 24 7) ⟨[b5,l5,cN,nv],[(bC t),eb,(.box [(ci t.1.1),(ci t.1.2),(.sa 3 k),b6]),(.cR 40 14 k (fun i=>j7 (t.2.2 i)) .none)],[]⟩)):dq Uj 24 DR L QE 3 (CJ t k):=Eq.mp (by kernel_rfl) h
def BM (t:ae) (k:Nat):VS:=⟨[ka,tk,jn,(5,int k,[])],[.box (lift (cB t)),.box [.im (iI 0),.im (iI 0),sc,sc],.box [.im (iI t.place.fn),.im (iI t.place.line),.sa 3 t.ins.n,.sa 4 k],j5 t.ins,exK t k],[]⟩
abbrev th (ax:ae) (aF:Nat):O:=.ns 75 3 ((ax.3.2 aF).1.1) (fun i=>gN ((ax.3.2 aF).1.2 i))
abbrev tI (ax:ae) (aF:Nat):O:=.ns 78 4 ((ax.3.2 aF).2.1) (fun i=>oo ((ax.3.2 aF).2.2 i))
abbrev kp (ax:ae):ah:=.cR 40 14 ax.2.1 (fun i=>j7 (ax.2.2 i)) .none
theorem Mq (L:LP) (QE:D→List ah→Prop) (t:ae) (k:Nat) (h:br (decide ((↑k:Int)<(↑t.3.1:Int))) (nd (cd (↑k:Int) t.3.1) ((LC 37 [(.a (lift (bn (t.3.2 k))))] [] (.a [(.ow 0 0),(.ow 0 1),(ci ((t.3.2 k).3))]) [(.own [(th t k),(tI t k)])]∧nd (cg (k+1) 56) (nd (k.beq k) (nd (cd (↑k:Int) t.3.1) ((LC 37 [(.a (lift (bn (t.3.2 k))))] [] (.a [(.ow 0 0),(.ow 0 1),(ci ((t.3.2 k).3))]) [(.own [(th t k),(tI t k)])]∧nd (cg (k+1) 56) (nd (k.beq k) (L (ag 24 7) ⟨[b5,l5,cN,(5,((int (IntKind.i64.wrap ((↑k:Int)+1))),[]))],[(bC t),eb,(.box [(ci t.1.1),(ci t.1.2),(.sa 3 t.2.1),(.sa 7 (.succ k))]),(kp t),.dead,(.own [(th t k),(tI t k)]),(.row 73 3 1 [(.ow 5 0),(.ow 5 1),(ci ((t.3.2 k).3))]),(.cR 73 3 (k+1) (fun i=>iX (t.3.2 i)) (.some (k,[(.c (.ow 5 0)),(.c (.ow 5 1)),(.c (ci ((t.3.2 k).3)))])))],[]⟩))))))))) (QE (.a [(ci t.1.1),(ci t.1.2),(.sa 3 t.2.1),(.sa 4 k)]) [(.box (lift (cB (t)))),(.box [(ci t.1.1),(ci t.1.2),(.sa 3 t.2.1),(.sa 4 k)]),(.box [(ci t.1.1),(ci t.1.2),(.sa 3 t.2.1),(.sa 4 k)]),(.cR 40 14 t.2.1 (fun i=>j7 (t.2.2 i)) .none),(.cR 73 3 k (fun i=>iX (t.3.2 i)) .none)])):dq Uj 24 DR L QE 7 (BM t k):=Eq.mp (by kernel_rfl) h
set_option maxHeartbeats 4000000
theorem Wp (t:ae) (hS:ed t):∀ k,k≤t.aa.n→af 24 0 (lF [] (.a (Pv t 0 1)) [j5 t.ins,ry t.aa]) (ag 24 7) (BM t k):=by
 have hN:=hS.aa
 refine aL (fun k hk ih=>?_) ?_
 ·refine bA (X:=Uj) (stop:=DR) (Mq _ _ t k ?_)
  refine ak (fun h=>?_) (fun h=>(dec_lt h hk).elim)
  have h1:=Yi _ (hS.ex k hk)
  have h2:=cj (n:=k+1) (b:=56) (by omega) (by omega)
  refine aw (aA hk) ⟨h1,aw h2 (aw (cf k) (aw (aA hk) ⟨h1,aw h2 (aw (cf k) ?_)⟩))⟩
  rw [bR hk (by unfold maxLen; omega)]
  refine af.split 7 5 rfl rfl (List.forall_mem_cons.2 ⟨trivial,List.forall_mem_cons.2 ⟨trivial,List.forall_mem_nil _⟩⟩) ?_
  refine af.close 7 0 8 rfl rfl rfl rfl rfl rfl (af.close 7 1 9 rfl rfl rfl rfl rfl rfl ?_)
  exact af.rename [0,1,2,3,7] rfl (af.le (BM t (k+1)) (by repeat' (first|exact trivial|refine bV rfl ?_)) (rc (rc (rc (rc (.cons (aJ.GQ ⟨bG.refl _,bG.refl _,bG.aP _,trivial⟩) .nil))))) rfl ih)
 ·refine bA (X:=Uj) (stop:=DR) (Mq _ _ t _ ?_)
  refine ak (fun h=>bJ h) (fun h=>?_)
  exact ⟨[3,4],.a (Pv t 0 1),_,_,rfl,(rc (rc .nil)),⟨2,bg rfl,bg rfl,rfl,rfl,aX.refl _,⟨rfl,⟨rfl,trivial⟩⟩⟩⟩
theorem WX (t:ae) (hS:ed t):∀ k,k≤t.ins.n→af 24 0 (lF [] (.a (Pv t 0 1)) [j5 t.ins,ry t.aa]) (ag 24 3) (CJ t k):=by
 have hN:=hS.ins
 refine aL (fun k hk ih=>?_) ?_
 ·refine bA (X:=Uj) (stop:=DR) (Ox _ _ t k ?_)
  refine ak (fun h=>?_) (fun h=>(dec_lt h hk).elim)
  have q1:=hS.args k hk
  have q2:=hS.names k hk
  have h1:=ZW (t.ins.get k) (cj (by omega) (by omega)) (cj (by omega) (by omega))
  have h2:=cj (n:=k+1) (b:=152) (by omega) (by omega)
  refine aw (aA hk) ⟨h1,aw h2 (aw (cf k) (aw (aA hk) ⟨h1,aw h2 (aw (cf k) ?_)⟩))⟩
  rw [bR hk (by unfold maxLen; omega)]
  refine af.split 6 4 rfl rfl (List.forall_mem_cons.2 ⟨trivial,List.forall_mem_cons.2 ⟨trivial,List.forall_mem_nil _⟩⟩) ?_
  refine af.close 6 5 7 rfl rfl rfl rfl rfl rfl (af.close 6 9 8 rfl rfl rfl rfl rfl rfl ?_)
  exact af.rename [0,1,2,6] rfl (af.le (CJ t (k+1)) (by repeat' (first|exact trivial|refine bV rfl ?_)) (rc (rc (rc (.cons (aJ.GQ ⟨bG.aP _,bG.aP _,bG.aP _,bG.aP _,bG.aP _,bG.refl _,bG.aP _,bG.aP _,bG.aP _,bG.refl _,bG.aP _,bG.aP _,bG.aP _,bG.aP _,trivial⟩) .nil)))) rfl ih)
 ·refine bA (X:=Uj) (stop:=DR) (Ox _ _ t _ ?_)
  refine ak (fun h=>bJ h) (fun h=>?_)
  exact af.iz 2 3 73 3 _ rfl rfl (af.le (BM t 0) (by repeat' (first|exact trivial|refine bV rfl ?_)) (rc (rc (rc (rc (.cons (aJ.wm fun i hi=>absurd hi (Nat.not_lt_zero i)) .nil))))) rfl (Wp t hS 0 (bu _)))
theorem Zs (t:ae) (hS:ed t):LC 24 [bc t] [] (.a (Pv t 0 1)) [j5 t.ins,ry t.aa]:=by
 refine jA an2 (bg (by kernel_rfl)) (ig (X:=Uj) (stop:=DR) (au3 _ _ t ?_))
 exact af.iz 2 2 40 14 _ rfl rfl (af.le (CJ t 0) (by repeat' (first|exact trivial|refine bV rfl ?_)) (rc (rc (rc (.cons (aJ.wm fun i hi=>absurd hi (Nat.not_lt_zero i)) .nil)))) rfl (WX t hS 0 (bu _)))
open Go Go.V
section
def F17:FuncId→List D→List ah→Out:=ext F46 [(24,fun ds rs=>(.a (Pv (gj ds 0) rs.length (rs.length+1)),[],[j5 (gj ds 0).ins,ry (gj ds 0).aa])),(26,fun _ _=>(eT 1 eD yt,[],[]))]
def kE:hX:={ F:=F17,S:=TA }
def QB (q0 q1 q2:Int):ah:=.box [ci q0,ci q1,ci q2]
def ZT:ah:=.box [ci 0,ci 0,sc,sc]
def SY (t:ae) (k:Nat) (l:List Fc):ah:=.cR 40 14 t.ins.n (fun i=>j7 (t.ins.get i)) (some (k,l))
def Cf (t:ae) (k:Nat) (l:List Fc):ah:=.cR 73 3 t.aa.n (fun i=>iX (t.aa.get i)) (some (k,l))
def X9 (x:aj):List Fc:=Cc (j7 x) 14 0
def Fu (x:ai):List Fc:=Cc (iX x) 3 0
def lD (t:ae) (p q m:Nat):ah:=.box [.im (iI t.place.fn),.im (iI t.place.line),.sa p m,.sa q t.aa.n]
end
def fb:Nat→Bool:=fun i=>Nat.beq i 2||Nat.beq i 6||Nat.beq i 8||Nat.beq i 10||Nat.beq i 12||Nat.beq i 14||Nat.beq i 16||Nat.beq i 18||Nat.beq i 20||Nat.beq i 22||Nat.beq i 24||Nat.beq i 26||Nat.beq i 29||Nat.beq i 30||Nat.beq i 32||Nat.beq i 33||Nat.beq i 35||Nat.beq i 37||Nat.beq i 38
theorem aj4:Fn 7:=⟨by kernel_rfl,by kernel_rfl⟩
abbrev fA (ax aF aR:Int):ah:=.box [(ci ax),(ci aF),(ci aR)]
abbrev ye (ax:ae):List C:=[(ci ax.1.1),(ci ax.1.2),(.sa 3 ax.2.1),(.sa 4 ax.3.1)]
abbrev rX (ax:ae):ah:=.cR 73 3 ax.3.1 (fun i=>iX (ax.3.2 i)) .none
abbrev HI:gF:=(4,((.c (.rt 2 0 0)),[]))
theorem ap6 (L:LP) (QD:D→Prop) (t:ae) (q0 q1 q2:Int) (h:(LC 24 [(dw t)] [(bC t),(fA q0 q1 q2),eb] (.a (ye t)) [(bC t),(fA q0 q1 q2),eb,(kp t),(rX t)]∧L (ag 7 2) ⟨[fY,HI,mf],[(bC t),(fA q0 q1 q2),eb,(kp t),(rX t),(.box (ye t))],[]⟩)):fS kE 7 fb L (aZ QD) [bc t,.a [ci q0,ci q1,ci q2]] []:=Eq.mp (by kernel_rfl) h
def Ob (t:ae) (q0 q1 q2:Int)  : VS:=⟨[BA,(4,(.c (.rt 2 0 0)),[]),(5,(.c (.rt 5 0 0)),[])],[(bC t),(fA q0 q1 q2),eb,(kp t),(rX t),(.box (ye t))],[]⟩
abbrev kq:gF:=(7,((.c (.im (.v (.pointer .none)))),[]))
theorem Vq (L:LP) (QD:D→Prop) (t:ae) (q0 q1 q2:Int)  (h:(LC 25 [(int q1),(pk t)] [] (int (et q1 (Int.ofNat t.2.1))) []∧nd (cd (et q1 (Int.ofNat t.2.1)) t.2.1) (br (decide ((↑t.3.1:Int)>0)) ((LC 25 [(int q1),(int (↑t.3.1:Int))] [] (int (et q1 (Int.ofNat t.3.1))) []∧nd (cd (et q1 (Int.ofNat t.3.1)) t.3.1) (L (ag 7 6) ⟨[fY,HI,mf,(6,((.c (.rt 3 ((et q1 (Int.ofNat t.2.1)).toNat) 0)),[])),(7,((.c (.rt 4 ((et q1 (Int.ofNat t.3.1)).toNat) 0)),[]))],[(bC t),(fA q0 q1 q2),eb,(kp t),(rX t),(.box (ye t)),.dead,.dead],[]⟩))) (L (ag 7 6) ⟨[fY,HI,mf,(6,((.c (.rt 3 ((et q1 (Int.ofNat t.2.1)).toNat) 0)),[])),kq,(22,((bool false),[]))],[(bC t),(fA q0 q1 q2),eb,(kp t),(rX t),(.box (ye t)),.dead],[]⟩)))):dq kE 7 fb L (aZ QD) 2 (Ob t q0 q1 q2 ):=Eq.mp (by kernel_rfl) h
abbrev oh:gF:=(3,.c (.rt 0 0 0),[])
abbrev mN:gF:=(4,.c (.rt 1 0 0),[])
def Hw (t:ae) (q0 q1 q2:Int) (k e:Nat):VS:=⟨[oh,mN,oM,(6,.c (.rt 2 k 0),[]),(7,.c (.rt 3 e 0),[])],[QB q0 q1 q2,ZT,SY t k (X9 (t.ins.get k)),Cf t e (Fu (t.aa.get e)),lD t 2 3 t.ins.n],[]⟩
abbrev C0 (ax:Int):D:=int (et ax (Int.ofNat 14))
abbrev jv (ax:Nat):gF:=(6,((.c (.rt 2 ax 0)),[]))
abbrev iW (ax:Nat):gF:=(7,((.c (.rt 3 ax 0)),[]))
abbrev fZ (ax:Int):gF:=(34,((C0 ax),[]))
abbrev WI (ax:ae) (aF:Nat):ah:=.cR 40 14 ax.2.1 (fun i=>j7 (ax.2.2 i)) (.some (aF,[(l0 ax aF),(ml ax aF),(l7 ax aF),(kR ax aF),(mj ax aF),(.o (nI ax aF)),(mw ax aF),(mm ax aF),(.c (nK ax aF)),(.o (nR ax aF)),(lk ax aF),(lz ax aF),(mr ax aF),(.c (j8 ax aF))]))
abbrev NI (ax:ae) (aF:Nat):ah:=.cR 73 3 ax.3.1 (fun i=>iX (ax.3.2 i)) (.some (aF,[(.o (th ax aF)),(.o (tI ax aF)),(.c (ci ((ax.3.2 aF).3)))]))
abbrev hU (ax:ae):ah:=.box [(ci ax.1.1),(ci ax.1.2),(.sa 2 ax.2.1),(.sa 3 ax.3.1)]
abbrev qI (ax aF aR:Int) (bZ:ae) (ct dX:Nat):List ah:=[(fA ax aF aR),eb,(WI bZ ct),(NI bZ dX),(hU bZ)]
abbrev CP:gF:=(50,((bool true),[]))
theorem XQ (L:LP) (QD:D→Prop) (t:ae) (q0 q1 q2:Int) (k e:Nat) (h:(LC 25 [(int q0),(int 14)] [] (C0 q0) []∧br (et q0 (Int.ofNat 14)==0) (L (ag 7 8) ⟨[dA,bM,cP,(jv k),(iW e),(fZ q0),(35,((bool true),[]))],(qI q0 q1 q2 t k e),[]⟩) (br (et q0 (Int.ofNat 14)==1) (L (ag 7 10) ⟨[dA,bM,cP,(jv k),(iW e),(fZ q0),(43,((bool true),[]))],(qI q0 q1 q2 t k e),[]⟩) (br (et q0 (Int.ofNat 14)==2) (L (ag 7 12) ⟨[dA,bM,cP,(jv k),(iW e),(fZ q0),CP],(qI q0 q1 q2 t k e),[]⟩) (br (et q0 (Int.ofNat 14)==3) (L (ag 7 14) ⟨[dA,bM,cP,(jv k),(iW e),(fZ q0),(57,((bool true),[]))],(qI q0 q1 q2 t k e),[]⟩) (br (et q0 (Int.ofNat 14)==4) (L (ag 7 16) ⟨[dA,bM,cP,(jv k),(iW e),(fZ q0),(64,((bool true),[]))],(qI q0 q1 q2 t k e),[]⟩) (br (et q0 (Int.ofNat 14)==5) (L (ag 7 18) ⟨[dA,bM,cP,(jv k),(iW e),(fZ q0),(77,((bool true),[]))],(qI q0 q1 q2 t k e),[]⟩) (br (et q0 (Int.ofNat 14)==6) (L (ag 7 20) ⟨[dA,bM,cP,(jv k),(iW e),(fZ q0),(87,((bool true),[]))],(qI q0 q1 q2 t k e),[]⟩) (br (et q0 (Int.ofNat 14)==7) (L (ag 7 22) ⟨[dA,bM,cP,(jv k),(iW e),(fZ q0),(100,((bool true),[]))],(qI q0 q1 q2 t k e),[]⟩) (br (et q0 (Int.ofNat 14)==8) (L (ag 7 24) ⟨[dA,bM,cP,(jv k),(iW e),(fZ q0),(117,((bool true),[]))],(qI q0 q1 q2 t k e),[]⟩) (br (et q0 (Int.ofNat 14)==9) (L (ag 7 26) ⟨[dA,bM,cP,(iW e),(fZ q0),(129,((bool true),[]))],(qI q0 q1 q2 t k e),[]⟩) (br (et q0 (Int.ofNat 14)==10) (L (ag 7 29) ⟨[dA,bM,cP,(iW e),(fZ q0),(138,((bool true),[]))],(qI q0 q1 q2 t k e),[]⟩) (br (et q0 (Int.ofNat 14)==11) (L (ag 7 32) ⟨[dA,bM,cP,(iW e),(fZ q0),(159,((bool true),[]))],(qI q0 q1 q2 t k e),[]⟩) (br (et q0 (Int.ofNat 14)==12) (L (ag 7 35) ⟨[dA,bM,cP,(fZ q0),(177,((bool true),[]))],(qI q0 q1 q2 t k e),[]⟩) (br (et q0 (Int.ofNat 14)==13) (L (ag 7 37) ⟨[dA,bM,cP,(189,((bool true),[]))],(qI q0 q1 q2 t k e),[]⟩) (L (ag 7 38) ⟨[dA,bM,cP,(189,((bool false),[]))],(qI q0 q1 q2 t k e),[]⟩)))))))))))))))):dq kE 7 fb L (aZ QD) 6 (Hw t q0 q1 q2 k e):=Eq.mp (by kernel_rfl) h
abbrev qJ:gF:=(5,(.c (.rt 4 0 0)),[])
abbrev rm (ax:Nat):gF:=(6,(.c (.rt 2 ax 0)),[])
abbrev qZ (ax:Int):gF:=(34,(C0 ax),[])
abbrev rn (ax aF aR:Int) (bZ:ae) (ct:Nat) (dX:ah):List ah:=[(fA ax aF aR),eb,(WI bZ ct),dX,(hU bZ)]
def Aw (t:ae) (q0 q1 q2:Int) (k:Nat) (x3:ah):VS:=⟨[mh,lx,qJ,(rm k),(qZ q0),(35,(bool true),[])],(rn q0 q1 q2 t k x3),[]⟩
theorem VG (L:LP) (QD:D→Prop) (t:ae) (q0 q1 q2:Int) (k:Nat) (x3:ah) (h:(LC 25 [(int q2),(int 23)] [] (int (et q2 (Int.ofNat 23))) []∧nd (k.beq k) (L (ag 7 38) ⟨[bM,cP],[(fA q0 q1 q2),eb,(.cR 40 14 t.2.1 (fun i=>j7 (t.2.2 i)) (.some (k,[(.c (ci (et q2 (Int.ofNat 23)))),(ml t k),(l7 t k),(kR t k),(mj t k),(.o (nI t k)),(mw t k),(mm t k),(.c (nK t k)),(.o (nR t k)),(lk t k),(lz t k),(mr t k),(.c (j8 t k))]))),x3,(hU t)],[]⟩))):dq kE 7 fb L (aZ QD) 8 (Aw t q0 q1 q2 k x3):=Eq.mp (by kernel_rfl) h
def vr (t:ae) (q0 q1 q2:Int) (k:Nat) (x3:ah):VS:=⟨[mh,lx,qJ,(rm k),(qZ q0),(43,(bool true),[])],(rn q0 q1 q2 t k x3),[]⟩
theorem Q7 (L:LP) (QD:D→Prop) (t:ae) (q0 q1 q2:Int) (k:Nat) (x3:ah) (h:nd (k.beq k) (L (ag 7 38) ⟨[bM,cP],[(fA q0 q1 q2),eb,(.cR 40 14 t.2.1 (fun i=>j7 (t.2.2 i)) (.some (k,[(l0 t k),(.c (ci q2)),(l7 t k),(kR t k),(mj t k),(.o (nI t k)),(mw t k),(mm t k),(.c (nK t k)),(.o (nR t k)),(lk t k),(lz t k),(mr t k),(.c (j8 t k))]))),x3,(hU t)],[]⟩)):dq kE 7 fb L (aZ QD) 10 (vr t q0 q1 q2 k x3):=Eq.mp (by kernel_rfl) h
def vo (t:ae) (q0 q1 q2:Int) (k:Nat) (x3:ah):VS:=⟨[mh,lx,qJ,(rm k),(qZ q0),(50,(bool true),[])],(rn q0 q1 q2 t k x3),[]⟩
theorem TG (L:LP) (QD:D→Prop) (t:ae) (q0 q1 q2:Int) (k:Nat) (x3:ah) (h:nd (k.beq k) (L (ag 7 38) ⟨[bM,cP],[(fA q0 q1 q2),eb,(.cR 40 14 t.2.1 (fun i=>j7 (t.2.2 i)) (.some (k,[(l0 t k),(ml t k),(.c (ci q2)),(kR t k),(mj t k),(.o (nI t k)),(mw t k),(mm t k),(.c (nK t k)),(.o (nR t k)),(lk t k),(lz t k),(mr t k),(.c (j8 t k))]))),x3,(hU t)],[]⟩)):dq kE 7 fb L (aZ QD) 12 (vo t q0 q1 q2 k x3):=Eq.mp (by kernel_rfl) h
def vg (t:ae) (q0 q1 q2:Int) (k:Nat) (x3:ah):VS:=⟨[mh,lx,qJ,(rm k),(qZ q0),(57,(bool true),[])],(rn q0 q1 q2 t k x3),[]⟩
theorem TL (L:LP) (QD:D→Prop) (t:ae) (q0 q1 q2:Int) (k:Nat) (x3:ah) (h:nd (k.beq k) (L (ag 7 38) ⟨[bM,cP],[(fA q0 q1 q2),eb,(.cR 40 14 t.2.1 (fun i=>j7 (t.2.2 i)) (.some (k,[(l0 t k),(ml t k),(l7 t k),(kR t k),(.c (ci q2)),(.o (nI t k)),(mw t k),(mm t k),(.c (nK t k)),(.o (nR t k)),(lk t k),(lz t k),(mr t k),(.c (j8 t k))]))),x3,(hU t)],[]⟩)):dq kE 7 fb L (aZ QD) 14 (vg t q0 q1 q2 k x3):=Eq.mp (by kernel_rfl) h
def vk (t:ae) (q0 q1 q2:Int) (k:Nat) (x3:ah):VS:=⟨[mh,lx,qJ,(rm k),(qZ q0),(64,(bool true),[])],(rn q0 q1 q2 t k x3),[]⟩
theorem S9 (L:LP) (QD:D→Prop) (t:ae) (q0 q1 q2:Int) (k:Nat) (x3:ah) (h:(LC 25 [(int q2),(int (IntKind.i64.wrap ((↑t.3.1:Int)+2)))] [] (int (et q2 (aI [D.c (C.im (I.v (Value.int IntKind.i64 q2))),D.c (C.im (I.v (Value.int IntKind.i64 (IntKind.i64.wrap ((↑t.3.1:Int)+2)))))] 1))) []∧nd (k.beq k) (L (ag 7 38) ⟨[bM,cP],[(fA q0 q1 q2),eb,(.cR 40 14 t.2.1 (fun i=>j7 (t.2.2 i)) (.some (k,[(l0 t k),(ml t k),(l7 t k),(kR t k),(mj t k),(.o (nI t k)),(mw t k),(mm t k),(.c (nK t k)),(.o (nR t k)),(lk t k),(lz t k),(.c (ci (IntKind.i64.wrap (et q2 (aI [D.c (C.im (I.v (Value.int IntKind.i64 q2))),D.c (C.im (I.v (Value.int IntKind.i64 (IntKind.i64.wrap ((↑t.3.1:Int)+2)))))] 1)-1)))),(.c (j8 t k))]))),x3,(hU t)],[]⟩))):dq kE 7 fb L (aZ QD) 16 (vk t q0 q1 q2 k x3):=Eq.mp (by kernel_rfl) h
def vI (t:ae) (q0 q1 q2:Int) (k:Nat) (x3:ah):VS:=⟨[mh,lx,qJ,(rm k),(qZ q0),(77,(bool true),[])],(rn q0 q1 q2 t k x3),[]⟩
theorem RO (L:LP) (QD:D→Prop) (t:ae) (q0 q1 q2:Int) (k:Nat) (x3:ah) (h:nd (k.blt t.2.1) (nd (k.beq k) (nd (k.beq k) (L (ag 7 38) ⟨[bM,cP],[(fA q0 q1 q2),eb,(.cR 40 14 t.2.1 (fun i=>j7 (t.2.2 i)) (.some (k,[(l0 t k),(ml t k),(l7 t k),(kR t k),(mj t k),(.o (nI t k)),(mw t k),(mm t k),(.c (nK t k)),(.o (nR t k)),(lk t k),(lz t k),(mr t k),(.c (.im (.v (.bool (!(t.2.2 k).11)))))]))),x3,(hU t)],[]⟩)))):dq kE 7 fb L (aZ QD) 18 (vI t q0 q1 q2 k x3):=Eq.mp (by kernel_rfl) h
def vA (t:ae) (q0 q1 q2:Int) (k:Nat) (x3:ah):VS:=⟨[oh,mN,oM,(6,.c (.rt 2 k 0),[])],[QB q0 q1 q2,ZT,.cR 40 14 t.ins.n (fun i=>j7 (t.ins.get i)) (some (k,setAt (X9 (t.ins.get k)) 5 (.c (.sa 5 (t.ins.get k).args.n)))),x3,lD t 2 3 t.ins.n,RA (t.ins.get k).args],[]⟩
theorem Sk (L:LP) (QD:D→Prop) (t:ae) (q0 q1 q2:Int) (k:Nat) (x3:ah) (h:nd (k.blt t.2.1) (nd (k.beq k) (nd (cg ((t.2.2 k).6.1+1) 8) (nd ((t.2.2 k).6.1.beq (t.2.2 k).6.1) (nd (k.beq k) (nd (k.blt t.2.1) (nd (k.beq k) (nd (cg ((t.2.2 k).6.1+1) 8) (nd ((t.2.2 k).6.1.beq (t.2.2 k).6.1) (nd (k.beq k) (L (ag 7 38) ⟨[bM,cP],[(fA q0 q1 q2),eb,(.cR 40 14 t.2.1 (fun i=>j7 (t.2.2 i)) (.some (k,[(l0 t k),(ml t k),(l7 t k),(kR t k),(mj t k),(.c (.sa 7 (.succ ((t.2.2 k).6.1)))),(mw t k),(mm t k),(.c (nK t k)),(.o (nR t k)),(lk t k),(lz t k),(mr t k),(.c (j8 t k))]))),x3,(hU t),.dead,(.row 3 1 1 [(ci q2)]),(.arr 3 1 ((t.2.2 k).6.1+1) (gP (t.2.2 k).6.1 (fun i=>b8 ((t.2.2 k).6.2 i)) (1,flat 1 [I.v (Value.int IntKind.i64 q2)]).snd))],[]⟩))))))))))):dq kE 7 fb L (aZ QD) 20 (vA t q0 q1 q2 k x3):=Eq.mp (by kernel_rfl) h
def vC (t:ae) (q0 q1 q2:Int) (k:Nat) (x3:ah):VS:=⟨[oh,mN,oM,(6,.c (.rt 2 k 0),[])],[QB q0 q1 q2,ZT,.cR 40 14 t.ins.n (fun i=>j7 (t.ins.get i)) (some (k,setAt (X9 (t.ins.get k)) 9 (.c (.sa 5 (t.ins.get k).names.n)))),x3,lD t 2 3 t.ins.n,ap7 (t.ins.get k).names],[]⟩
abbrev td (ax:Int):D:=int (et ax (Int.ofNat 3))
abbrev VC (ax:ae) (aF:Nat):ah:=.cR 40 14 ax.2.1 (fun i=>j7 (ax.2.2 i)) (.some (aF,[(l0 ax aF),(ml ax aF),(l7 ax aF),(kR ax aF),(mj ax aF),(.o (nI ax aF)),(mw ax aF),(mm ax aF),(.c (nK ax aF)),(.c (.sa 9 (.succ ((ax.2.2 aF).8.1)))),(lk ax aF),(lz ax aF),(mr ax aF),(.c (j8 ax aF))]))
abbrev OD:ah:=.row 9 1 3 [(.im (.v (.string ({ data := #[120] })))),(.im (.v (.string ({ data := #[122] })))),(.im (.v (.string ((ByteArray.mk #[])))))]
abbrev P1 (ax aF aR:Int) (bZ:ae) (ct:Nat) (dX:ah):VS:=⟨[bM,cP],[(fA ax aF aR),eb,(VC bZ ct),dX,(hU bZ),.dead,OD,.dead,(.row 9 1 1 [(.im (.v (.string ({ data := #[120] }))))]),(.arr 9 1 ((bZ.2.2 ct).8.1+1) (gP (bZ.2.2 ct).8.1 (fun i=>eD ((bZ.2.2 ct).8.2 i)) (1,flat 1 [I.v (Value.string { data := #[120] })]).snd))],[]⟩
abbrev On (ax aF aR:Int) (bZ:ae) (ct:Nat) (dX:ah):VS:=⟨[bM,cP],[(fA ax aF aR),eb,(VC bZ ct),dX,(hU bZ),.dead,OD,.dead,(.row 9 1 1 [(.im (.v (.string ({ data := #[122] }))))]),(.arr 9 1 ((bZ.2.2 ct).8.1+1) (gP (bZ.2.2 ct).8.1 (fun i=>eD ((bZ.2.2 ct).8.2 i)) (1,flat 1 [I.v (Value.string { data := #[122] })]).snd))],[]⟩
abbrev N5 (ax aF aR:Int) (bZ:ae) (ct:Nat) (dX:ah):VS:=⟨[bM,cP],[(fA ax aF aR),eb,(VC bZ ct),dX,(hU bZ),.dead,OD,.dead,(.row 9 1 1 [(.im (.v (.string ((ByteArray.mk #[])))))]),(.arr 9 1 ((bZ.2.2 ct).8.1+1) (gP (bZ.2.2 ct).8.1 (fun i=>eD ((bZ.2.2 ct).8.2 i)) (1,flat 1 [I.v (Value.string (ByteArray.mk #[]))]).snd))],[]⟩
theorem TQ (L:LP) (QD:D→Prop) (t:ae) (q0 q1 q2:Int) (k:Nat) (x3:ah) (h:nd (k.blt t.2.1) (nd (k.beq k) ((LC 25 [(int q2),(int 3)] [] (td q2) []∧nd (cd (et q2 (Int.ofNat 3)) 3) (br ((et q2 (Int.ofNat 3)).toNat.beq 0) (nd (cg ((t.2.2 k).8.1+1) 16) (nd ((t.2.2 k).8.1.beq (t.2.2 k).8.1) (nd (k.beq k) (nd (k.blt t.2.1) (nd (k.beq k) ((LC 25 [(int q2),(int 3)] [] (td q2) []∧nd (cd (et q2 (Int.ofNat 3)) 3) (br ((et q2 (Int.ofNat 3)).toNat.beq 0) (nd (cg ((t.2.2 k).8.1+1) 16) (nd ((t.2.2 k).8.1.beq (t.2.2 k).8.1) (nd (k.beq k) (L (ag 7 38) (P1 q0 q1 q2 t k x3))))) (br ((et q2 (Int.ofNat 3)).toNat.beq 1) (nd (cg ((t.2.2 k).8.1+1) 16) (nd ((t.2.2 k).8.1.beq (t.2.2 k).8.1) (nd (k.beq k) (L (ag 7 38) (On q0 q1 q2 t k x3))))) (br ((et q2 (Int.ofNat 3)).toNat.beq 2) (nd (cg ((t.2.2 k).8.1+1) 16) (nd ((t.2.2 k).8.1.beq (t.2.2 k).8.1) (nd (k.beq k) (L (ag 7 38) (N5 q0 q1 q2 t k x3))))) (False))))))))))) (br ((et q2 (Int.ofNat 3)).toNat.beq 1) (nd (cg ((t.2.2 k).8.1+1) 16) (nd ((t.2.2 k).8.1.beq (t.2.2 k).8.1) (nd (k.beq k) (nd (k.blt t.2.1) (nd (k.beq k) ((LC 25 [(int q2),(int 3)] [] (td q2) []∧nd (cd (et q2 (Int.ofNat 3)) 3) (br ((et q2 (Int.ofNat 3)).toNat.beq 0) (nd (cg ((t.2.2 k).8.1+1) 16) (nd ((t.2.2 k).8.1.beq (t.2.2 k).8.1) (nd (k.beq k) (L (ag 7 38) (P1 q0 q1 q2 t k x3))))) (br ((et q2 (Int.ofNat 3)).toNat.beq 1) (nd (cg ((t.2.2 k).8.1+1) 16) (nd ((t.2.2 k).8.1.beq (t.2.2 k).8.1) (nd (k.beq k) (L (ag 7 38) (On q0 q1 q2 t k x3))))) (br ((et q2 (Int.ofNat 3)).toNat.beq 2) (nd (cg ((t.2.2 k).8.1+1) 16) (nd ((t.2.2 k).8.1.beq (t.2.2 k).8.1) (nd (k.beq k) (L (ag 7 38) (N5 q0 q1 q2 t k x3))))) (False))))))))))) (br ((et q2 (Int.ofNat 3)).toNat.beq 2) (nd (cg ((t.2.2 k).8.1+1) 16) (nd ((t.2.2 k).8.1.beq (t.2.2 k).8.1) (nd (k.beq k) (nd (k.blt t.2.1) (nd (k.beq k) ((LC 25 [(int q2),(int 3)] [] (td q2) []∧nd (cd (et q2 (Int.ofNat 3)) 3) (br ((et q2 (Int.ofNat 3)).toNat.beq 0) (nd (cg ((t.2.2 k).8.1+1) 16) (nd ((t.2.2 k).8.1.beq (t.2.2 k).8.1) (nd (k.beq k) (L (ag 7 38) (P1 q0 q1 q2 t k x3))))) (br ((et q2 (Int.ofNat 3)).toNat.beq 1) (nd (cg ((t.2.2 k).8.1+1) 16) (nd ((t.2.2 k).8.1.beq (t.2.2 k).8.1) (nd (k.beq k) (L (ag 7 38) (On q0 q1 q2 t k x3))))) (br ((et q2 (Int.ofNat 3)).toNat.beq 2) (nd (cg ((t.2.2 k).8.1+1) 16) (nd ((t.2.2 k).8.1.beq (t.2.2 k).8.1) (nd (k.beq k) (L (ag 7 38) (N5 q0 q1 q2 t k x3))))) (False))))))))))) (False)))))))):dq kE 7 fb L (aZ QD) 22 (vC t q0 q1 q2 k x3):=Eq.mp (by kernel_rfl) h
def vH (t:ae) (q0 q1 q2:Int) (k:Nat) (x3:ah):VS:=⟨[mh,lx,qJ,(rm k),(qZ q0),(117,(bool true),[])],(rn q0 q1 q2 t k x3),[]⟩
theorem Tz (L:LP) (QD:D→Prop) (t:ae) (q0 q1 q2:Int) (k:Nat) (x3:ah) (h:(LC 25 [(int q2),(int 8)] [] (int (et q2 (Int.ofNat 8))) []∧(LC 25 [(int q2),(int 3)] [] (td q2) []∧nd (k.beq k) ((LC 25 [(int q2),(int 8)] [] (int (et q2 (Int.ofNat 8))) []∧(LC 25 [(int q2),(int 3)] [] (td q2) []∧nd (k.beq k) (L (ag 7 38) ⟨[bM,cP],[(fA q0 q1 q2),eb,(.cR 40 14 t.2.1 (fun i=>j7 (t.2.2 i)) (.some (k,[(l0 t k),(ml t k),(l7 t k),(kR t k),(mj t k),(.o (nI t k)),(.c (ci (et q2 (Int.ofNat 8)))),(.c (ci (et q2 (Int.ofNat 3)))),(.c dk),(.o (nR t k)),(lk t k),(lz t k),(mr t k),(.c (j8 t k))]))),x3,(hU t),.dead,.dead],[]⟩))))))):dq kE 7 fb L (aZ QD) 24 (vH t q0 q1 q2 k x3):=Eq.mp (by kernel_rfl) h
abbrev GG (ax:Nat):aN:=[oh,mN,oM,(7,.c (.rt 3 ax 0),[])]
abbrev FR (ax:Nat) (aF aR bZ:Int) (ct:ae):VS:=⟨(GG ax),[QB aF aR bZ,ZT,j5 ct.ins,Cf ct ax (Fu (ct.aa.get ax)),lD ct 2 3 ct.ins.n],[]⟩
def CS (t:ae) (q0 q1 q2:Int) (k e:Nat):VS:=(FR e q0 q1 q2 t)
theorem Sc (L:LP) (QD:D→Prop) (t:ae) (q0 q1 q2:Int) (k e:Nat) (h:nd (e.beq e) (L (ag 7 38) ⟨[bM,cP],[(fA q0 q1 q2),eb,(kp t),(.cR 73 3 t.3.1 (fun i=>iX (t.3.2 i)) (.some (e,[(.o (th t e)),(.o (tI t e)),(.c (ci q2))]))),(hU t)],[]⟩)):dq kE 7 fb L (aZ QD) 26 (CS t q0 q1 q2 k e):=Eq.mp (by kernel_rfl) h
def A2 (t:ae) (q0 q1 q2:Int) (k e:Nat):VS:=(FR e q0 q1 q2 t)
theorem RR (L:LP) (QD:D→Prop) (t:ae) (q0 q1 q2:Int) (k e:Nat) (h:L (ag 7 30) ⟨[dA,bM,cP,(iW e),(141,((bool true),[]))],[(fA q0 q1 q2),eb,(kp t),(NI t e),(hU t)],[]⟩):dq kE 7 fb L (aZ QD) 29 (A2 t q0 q1 q2 k e):=Eq.mp (by kernel_rfl) h
def CD (t:ae) (q0 q1 q2:Int) (e:Nat):VS:=⟨(GG e),[QB q0 q1 q2,ZT,j5 t.ins,.cR 73 3 t.aa.n (fun i=>iX (t.aa.get i)) (some (e,setAt (Fu (t.aa.get e)) 0 (.c (.sa 5 (t.aa.get e).frames.n)))),lD t 2 3 t.ins.n,.cR 75 3 (t.aa.get e).frames.n (fun i=>gN ((t.aa.get e).frames.get i)) (some (0,setAt (Cc (gN ((t.aa.get e).frames.get 0)) 3 0) 2 (.c (.sa 6 ((t.aa.get e).frames.get 0).vars.n)))),RA ((t.aa.get e).frames.get 0).vars],[]⟩
theorem SR (L:LP) (QD:D→Prop) (t:ae) (q0 q1 q2:Int) (e:Nat) (h:nd (e.blt t.3.1) (nd (e.beq e) (nd (e.blt t.3.1) (nd (e.beq e) (nd (cd 0 (t.3.2 e).1.1) (nd (Nat.blt 0 (t.3.2 e).1.1) (nd (cg (((t.3.2 e).1.2 0).3.1+1) 8) (nd (((t.3.2 e).1.2 0).3.1.beq ((t.3.2 e).1.2 0).3.1) (nd (cd 0 (t.3.2 e).1.1) (nd (e.blt t.3.1) (nd (e.beq e) (nd (e.blt t.3.1) (nd (e.beq e) (nd (cd 0 (t.3.2 e).1.1) (nd (Nat.blt 0 (t.3.2 e).1.1) (nd (cg (((t.3.2 e).1.2 0).3.1+1) 8) (nd (((t.3.2 e).1.2 0).3.1.beq ((t.3.2 e).1.2 0).3.1) (nd (cd 0 (t.3.2 e).1.1) (L (ag 7 38) ⟨[bM,cP],[(fA q0 q1 q2),eb,(kp t),(.cR 73 3 t.3.1 (fun i=>iX (t.3.2 i)) (.some (e,[(.c (.sa 5 ((t.3.2 e).1.1))),(.o (tI t e)),(.c (ci ((t.3.2 e).3)))]))),(hU t),(.cR 75 3 ((t.3.2 e).1.1) (fun i=>gN ((t.3.2 e).1.2 i)) (.some (0,[(.c (ci (((t.3.2 e).1.2 0).1))),(.c (ci (((t.3.2 e).1.2 0).2))),(.c (.sa 8 (.succ (((t.3.2 e).1.2 0).3.1))))]))),.dead,(.row 3 1 1 [(ci q2)]),(.arr 3 1 (((t.3.2 e).1.2 0).3.1+1) (gP ((t.3.2 e).1.2 0).3.1 (fun i=>b8 (((t.3.2 e).1.2 0).3.2 i)) (1,flat 1 [I.v (Value.int IntKind.i64 q2)]).snd))],[]⟩))))))))))))))))))):dq kE 7 fb L (aZ QD) 30 (CD t q0 q1 q2 e):=Eq.mp (by kernel_rfl) h
def Ah (t:ae) (q0 q1 q2:Int) (k e:Nat):VS:=(FR e q0 q1 q2 t)
theorem RB (L:LP) (QD:D→Prop) (t:ae) (q0 q1 q2:Int) (k e:Nat) (h:L (ag 7 33) ⟨[dA,bM,cP,(iW e),(162,((bool true),[]))],[(fA q0 q1 q2),eb,(kp t),(NI t e),(hU t)],[]⟩):dq kE 7 fb L (aZ QD) 32 (Ah t q0 q1 q2 k e):=Eq.mp (by kernel_rfl) h
def A4 (t:ae) (q0 q1 q2:Int) (e:Nat):VS:=⟨(GG e),[QB q0 q1 q2,ZT,j5 t.ins,.cR 73 3 t.aa.n (fun i=>iX (t.aa.get i)) (some (e,setAt (Fu (t.aa.get e)) 1 (.c (.sa 5 (t.aa.get e).az.n)))),lD t 2 3 t.ins.n,am2 (t.aa.get e).az],[]⟩
theorem QT (L:LP) (QD:D→Prop) (t:ae) (q0 q1 q2:Int) (e:Nat) (h:nd (e.blt t.3.1) (nd (e.beq e) ((LC 26 [] [] (.c sy) []∧nd (cg ((t.3.2 e).2.1+1) 64) (nd ((t.3.2 e).2.1.beq (t.3.2 e).2.1) (nd (e.beq e) (nd (e.blt t.3.1) (nd (e.beq e) ((LC 26 [] [] (.c sy) []∧nd (cg ((t.3.2 e).2.1+1) 64) (nd ((t.3.2 e).2.1.beq (t.3.2 e).2.1) (nd (e.beq e) (L (ag 7 38) ⟨[bM,cP],[(fA q0 q1 q2),eb,(kp t),(.cR 73 3 t.3.1 (fun i=>iX (t.3.2 i)) (.some (e,[(.o (th t e)),(.c (.sa 9 (.succ ((t.3.2 e).2.1)))),(.c (ci ((t.3.2 e).3)))]))),(hU t),.dead,.dead,(.row 3 1 2 [(ci (-1)),(ci 0)]),(.row 78 4 1 [(ci q2),(ci 0),sy,(.sa 7 2)]),(.cR 78 4 ((t.3.2 e).2.1+1) (fun i=>oo ((t.3.2 e).2.2 i)) (.some (((t.3.2 e).2.1),[(.c (ci q2)),(.c (ci 0)),(.c sy),(.c (.sa 7 2))])))],[]⟩))))))))))))):dq kE 7 fb L (aZ QD) 33 (A4 t q0 q1 q2 e):=Eq.mp (by kernel_rfl) h
def vb (t:ae) (q0 q1 q2:Int) (x3:ah):VS:=⟨[oh,mN,oM],[QB q0 q1 q2,ZT,j5 t.ins,x3,lD t 2 3 t.ins.n],[]⟩
theorem S3 (L:LP) (QD:D→Prop) (t:ae) (q0 q1 q2:Int) (x3:ah) (h:(LC 25 [(int q2),(pk t)] [] (int (et q2 (Int.ofNat t.2.1))) []∧nd (HH (et q2 (Int.ofNat t.2.1)) t.2.1) ((LC 25 [(int q2),(pk t)] [] (int (et q2 (Int.ofNat t.2.1))) []∧nd (HH (et q2 (Int.ofNat t.2.1)) t.2.1) (L (ag 7 38) ⟨[bM,cP],[(fA q0 q1 q2),eb,(kp t),x3,(.box [(ci t.1.1),(ci t.1.2),(.sa 2 ((et q2 (Int.ofNat t.2.1)).toNat)),(.sa 3 t.3.1)]),.dead],[]⟩))))):dq kE 7 fb L (aZ QD) 35 (vb t q0 q1 q2 x3):=Eq.mp (by kernel_rfl) h
def vm (t:ae) (q0 q1 q2:Int) (x3:ah):VS:=⟨[oh,mN,oM],[QB q0 q1 q2,ZT,j5 t.ins,x3,lD t 2 3 t.ins.n],[]⟩
theorem SC (L:LP) (QD:D→Prop) (t:ae) (q0 q1 q2:Int) (x3:ah) (h:L (ag 7 38) ⟨[bM,cP],[(fA q0 q1 q2),eb,(kp t),x3,(.box [(ci t.1.1),(ci q2),(.sa 2 t.2.1),(.sa 3 t.3.1)])],[]⟩):dq kE 7 fb L (aZ QD) 37 (vm t q0 q1 q2 x3):=Eq.mp (by kernel_rfl) h
def dZ (t:ae) (q0 q1 q2:Int) (m:Nat) (gE:Nat→Nat→O):VS:=⟨[mN,oM],[QB q0 q1 q2,ZT,j5 t.ins,.cR 73 3 t.aa.n gE none,lD t 2 3 m],[]⟩
theorem Rk (L:LP) (QD:D→Prop) (t:ae) (q0 q1 q2:Int) (m:Nat) (gE:Nat→Nat→O) (h:QD (.a [(ci t.1.1),(ci t.1.2),(.im (.sl 14 m (fun i j=>oI (j7 (t.2.2 i) j)))),(.im (.sl 3 t.3.1 (fun i j=>oI (gE i j))))])):dq kE 7 fb L (aZ QD) 38 (dZ t q0 q1 q2 m gE):=Eq.mp (by kernel_rfl) h
section
def jy {α:Type} (s:Sq α) (x:α):Sq α:=⟨s.n+1,fun i=>bif Nat.blt i s.n then s.get i else x⟩
def fO (t:ae) (k:Nat) (x:aj):ae:={ t with ins:=⟨t.ins.n,fun i=>bif Nat.beq i k then x else t.ins.get i⟩ }
def sb (t:ae) (k:Nat) (x:ai):ae:={ t with aa:=⟨t.aa.n,fun i=>bif Nat.beq i k then x else t.aa.get i⟩ }
def S8 (s:Sq eV) (k:Nat) (x:eV):Sq eV:=⟨s.n,fun i=>bif Nat.beq i k then x else s.get i⟩
def Z3 (k:Nat):ByteArray:=bif Nat.beq k 0 then ⟨⟨[120]⟩⟩ else bif Nat.beq k 1 then ⟨⟨[122]⟩⟩ else ⟨⟨[]⟩⟩
def xD:Sq Int:=⟨2,fun i=>bif Nat.beq i 0 then -1 else 0⟩
def bI (t:ae) (q1:Int):Nat:=(et q1 (Int.ofNat t.ins.n)).toNat
def bE (t:ae) (q1:Int):Nat:=(et q1 (Int.ofNat t.aa.n)).toNat
def Sz (t:ae) (k:Nat) (q:Int):ae:=fO t k { t.ins.get k with op:=et q (Int.ofNat 23) }
def SE (t:ae) (k:Nat) (q:Int):ae:=fO t k { t.ins.get k with a:=q }
def QH (t:ae) (k:Nat) (q:Int):ae:=fO t k { t.ins.get k with b:=q }
def Td (t:ae) (k:Nat) (q:Int):ae:=fO t k { t.ins.get k with n:=q }
def TF (t:ae) (k:Nat) (q:Int):ae:=fO t k { t.ins.get k with exit:=IntKind.i64.wrap (et q (IntKind.i64.wrap ((t.aa.n:Int)+2))-1) }
def QZ (t:ae) (k:Nat) (q:Int):ae:=fO t k { t.ins.get k with once := !(t.ins.get k).once }
def Kl (t:ae) (k:Nat) (q:Int):ae:=fO t k { t.ins.get k with args:=jy (t.ins.get k).args q }
def Qn (t:ae) (k:Nat) (q:Int):ae:=fO t k { t.ins.get k with names:=jy (t.ins.get k).names (Z3 (et q (Int.ofNat 3)).toNat) }
def Lb (t:ae) (k:Nat) (q:Int):ae:=fO t k { t.ins.get k with k:=⟨et q (Int.ofNat 8),et q (Int.ofNat 3),⟨⟨[]⟩⟩⟩ }
def UR (t:ae) (e:Nat) (q:Int):ae:=sb t e { t.aa.get e with back:=q }
def tV (t:ae) (e:Nat) (q:Int):ae:=sb t e { t.aa.get e with frames:=S8 (t.aa.get e).frames 0 { (t.aa.get e).frames.get 0 with vars:=jy ((t.aa.get e).frames.get 0).vars q } }
def xv (t:ae) (e:Nat) (q:Int):ae:=sb t e { t.aa.get e with az:=jy (t.aa.get e).az ⟨q,0,yt,xD⟩ }
def SK (t:ae) (q:Int):ae:={ t with ins:=⟨(et q (Int.ofNat t.ins.n)).toNat,t.ins.get⟩ }
def Cs (t:ae) (q:Int):ae:={ t with place:={ t.place with line:=q } }
def Qv (t u:ae):ae:=bif decide ((t.aa.n:Int)>0) then u else t
def bP (t:ae) (q0 q1 q2:Int):ae:=
 bif et q0 (Int.ofNat 14)==0 then Sz t (bI t q1) q2 else
 bif et q0 (Int.ofNat 14)==1 then SE t (bI t q1) q2 else
 bif et q0 (Int.ofNat 14)==2 then QH t (bI t q1) q2 else
 bif et q0 (Int.ofNat 14)==3 then Td t (bI t q1) q2 else
 bif et q0 (Int.ofNat 14)==4 then TF t (bI t q1) q2 else
 bif et q0 (Int.ofNat 14)==5 then QZ t (bI t q1) q2 else
 bif et q0 (Int.ofNat 14)==6 then Kl t (bI t q1) q2 else
 bif et q0 (Int.ofNat 14)==7 then Qn t (bI t q1) q2 else
 bif et q0 (Int.ofNat 14)==8 then Lb t (bI t q1) q2 else
 bif et q0 (Int.ofNat 14)==9 then Qv t (UR t (bE t q1) q2) else
 bif et q0 (Int.ofNat 14)==10 then Qv t (tV t (bE t q1) q2) else
 bif et q0 (Int.ofNat 14)==11 then Qv t (xv t (bE t q1) q2) else
 bif et q0 (Int.ofNat 14)==12 then SK t q2 else
 bif et q0 (Int.ofNat 14)==13 then Cs t q2 else t
end
theorem tF {i k:Nat} (h:i≠k):Nat.beq i k=false:=by
 cases hb:Nat.beq i k with
 | false=>rfl
 | true=>exact (h (Nat.eq_of_beq_eq_true hb)).elim
theorem wY {t:ae} {k:Nat} {x:aj} {l:List Fc} (h:Mn (j7 x) l 0):aJ (SY t k l) (j5 (fO t k x).ins):=
 aJ.ZG (by show Mn (j7 (bif Nat.beq k k then x else _)) l 0; rw [cf]; exact h) (fun i hi rA j hj=>by
  show qX _ (j7 (bif Nat.beq i k then x else _) j)
  rw [tF rA]
  exact qX.refl _)
theorem Zl {t:ae} {k:Nat} {x:ai} {l:List Fc} (h:Mn (iX x) l 0):aJ (Cf t k l) (ry (sb t k x).aa):=
 aJ.ZG (by show Mn (iX (bif Nat.beq k k then x else _)) l 0; rw [cf]; exact h) (fun i hi rA j hj=>by
  show qX _ (iX (bif Nat.beq i k then x else _) j)
  rw [tF rA]
  exact qX.refl _)
theorem XM (x:aj):∀ j,j<14→dr (oI (j7 x j)) (cy x j)
 | 0,_=>dr.refl _
 | 1,_=>dr.refl _
 | 2,_=>dr.refl _
 | 3,_=>dr.refl _
 | 4,_=>dr.refl _
 | 5,_=>dr.refl _
 | 6,_=>dr.refl _
 | 7,_=>dr.refl _
 | 8,_=>dr.refl _
 | 9,_=>dr.refl _
 | 10,_=>dr.refl _
 | 11,_=>dr.refl _
 | 12,_=>dr.refl _
 | 13,_=>dr.refl _
 | n+14,h=>absurd h (by omega)
theorem M0 (x:eV):∀ j,j<3→dr (oI (gN x j)) (ja x j)
 | 0,_=>dr.refl _
 | 1,_=>dr.refl _
 | 2,_=>dr.refl _
 | n+3,h=>absurd h (by omega)
theorem Qg (x:iR):∀ j,j<4→dr (oI (oo x j)) (uJ x j)
 | 0,_=>dr.refl _
 | 1,_=>dr.refl _
 | 2,_=>dr.refl _
 | 3,_=>dr.refl _
 | n+4,h=>absurd h (by omega)
theorem U6 (x:ai):∀ j,j<3→dr (oI (iX x j)) (dS x j)
 | 0,_=>dr.sl fun i _ j hj=>M0 _ j hj
 | 1,_=>dr.sl fun i _ j hj=>Qg _ j hj
 | 2,_=>dr.refl _
 | n+3,h=>absurd h (by omega)
theorem ei.im {x y:I} (h:dr x y):ei (.im x) (.im y):=fun E av w v q=>h av w v q
theorem jg (a:Int) (m:Nat) (h0:0<m) (hm:m≤1000000):cd (et a (Int.ofNat m)) m=true∧0≤et a (Int.ofNat m)∧(et a (Int.ofNat m)).toNat<m:=by
 have e1:a.tmod (m:Int)<m:=Int.tmod_lt_of_pos _ (by omega)
 have e2 : -(m:Int)<a.tmod m:=by
  have:=Int.tmod_nonneg (a := -a) (b:=(m:Int))
  by_cases h:0≤a
  ·have:=Int.tmod_nonneg (m:Int) h; omega
  ·have h1:a.tmod m = -((-a).tmod m):=by rw [Int.neg_tmod,Int.neg_neg]
   have:=Int.tmod_lt_of_pos (-a) (b:=(m:Int)) (by omega)
   omega
 have key:∃ d:Nat,et a (Int.ofNat m)=(d:Int)∧d<m:=by
  unfold et
  by_cases h:a.tmod (m:Int)<0
  ·have hd:decide (a.tmod (Int.ofNat m)<0)=true:=decide_eq_true h
   rw [hd,cond_true]
   refine ⟨(a.tmod (m:Int)+m).toNat,?_,by omega⟩
   show IntKind.i64.wrap (a.tmod (m:Int)+m)=_
   rw [ir (by omega) (by omega)]
   omega
  ·have hd:decide (a.tmod (Int.ofNat m)<0)=false:=decide_eq_false h
   rw [hd,cond_false]
   exact ⟨(a.tmod (m:Int)).toNat,by show a.tmod (m:Int)=_; omega,by omega⟩
 obtain ⟨d,hd,dD⟩:=key
 rw [hd]
 exact ⟨aA dD,by omega,by simpa using dD⟩
def gX (t:ae):Nat→Nat→O:=fun i=>iX (t.aa.get i)
theorem iM (t:ae):∀ i,i<t.aa.n→∀ j,j<3→dr (oI (gX t i j)) (dS (t.aa.get i) j):=fun i _ j hj=>U6 _ j hj
theorem Ik {s:Sq Int} {q:Int}:∀ i,i<s.n+1→∀ j,j<1→dr (gP s.n (fun i=>b8 (s.get i)) (flat 1 [I.v (Value.int IntKind.i64 q)]) i j) (b8 ((jy s q).get i) j):=by
 intro i hi j hj
 have hj:j=0:=by omega
 subst hj
 show dr (Bool.rec (flat 1 [I.v (Value.int IntKind.i64 q)] (i-s.n) 0) (b8 (s.get i) 0) (Nat.blt i s.n)) (b8 (bif Nat.blt i s.n then s.get i else q) 0)
 cases hb:Nat.blt i s.n with
 | true=>exact dr.refl _
 | false=>
   have:¬ i<s.n:=fun h=>by rw [(by simpa [cD] using h:Nat.blt i s.n=true)] at hb; cases hb
   rw [show i-s.n=0 by omega]
   exact dr.refl _
theorem xX {s:Sq ByteArray} {q:ByteArray}:∀ i,i<s.n+1→∀ j,j<1→dr (gP s.n (fun i=>eD (s.get i)) (flat 1 [I.v (Value.string q)]) i j) (eD ((jy s q).get i) j):=by
 intro i hi j hj
 have hj:j=0:=by omega
 subst hj
 show dr (Bool.rec (flat 1 [I.v (Value.string q)] (i-s.n) 0) (eD (s.get i) 0) (Nat.blt i s.n)) (eD (bif Nat.blt i s.n then s.get i else q) 0)
 cases hb:Nat.blt i s.n with
 | true=>exact dr.refl _
 | false=>
   have:¬ i<s.n:=fun h=>by rw [(by simpa [cD] using h:Nat.blt i s.n=true)] at hb; cases hb
   rw [show i-s.n=0 by omega]
   exact dr.refl _
theorem ai4 {n:Nat} (h:n<3) (h0:Nat.beq n 0=false) (h1:Nat.beq n 1=false) (h2:Nat.beq n 2=false):False:=by
 match n,h,h0,h1,h2 with
 | 0,_,h0,_,_=>cases h0
 | 1,_,_,h1,_=>cases h1
 | 2,_,_,_,h2=>cases h2
 | n+3,h,_,_,_=>omega
theorem ak2 {s:Sq eV} {k:Nat} {x:eV} {l:List Fc} (h:Mn (gN x) l 0):aJ (.cR 75 3 s.n (fun i=>gN (s.get i)) (some (k,l))) (W3 (S8 s k x)):=
 aJ.ZG (by show Mn (gN (bif Nat.beq k k then x else _)) l 0; rw [cf]; exact h) (fun i hi rA j hj=>by
  show qX _ (gN (bif Nat.beq i k then x else _) j)
  rw [tF rA]
  exact qX.refl _)
theorem P7 {n:Int} {m:Nat} (h0:0≤n) (h:n.toNat<m):HH n m=true:=by
 obtain ⟨k,rfl⟩:=Int.eq_ofNat_of_zero_le h0
 show Nat.ble k m=true
 rw [Nat.ble_eq]
 have:k<m:=by simpa using h
 omega
section
def gO (s:Sq iR) (q:Int):Nat→Nat→O:=fun i=>bif Nat.blt i s.n then oo (s.get i) else Wa [.im (iI q),.im (iI 0),.im (.sl 1 2 fun i=>eD (yt.get i)),CW xD]
def A9 (t:ae) (e:Nat) (q:Int):Nat→Nat→O:=fun i=>bif Nat.beq i e then Wa [xb (t.aa.get e).frames,.ns 78 4 ((t.aa.get e).az.n+1) (gO (t.aa.get e).az q),.im (iI (t.aa.get e).back)] else iX (t.aa.get i)
end
theorem TM (t:ae) (e:Nat) (q:Int):∀ i,i<(xv t e q).aa.n→∀ j,j<3→dr (oI (A9 t e q i j)) (dS ((xv t e q).aa.get i) j):=by
 intro i _ j hj
 show dr (oI (A9 t e q i j)) (dS (bif Nat.beq i e then { t.aa.get e with az:=jy (t.aa.get e).az ⟨q,0,yt,xD⟩ } else t.aa.get i) j)
 unfold A9
 cases Nat.beq i e with
 | false=>exact U6 _ j hj
 | true=>
   simp only [cond_true]
   match j,hj with
   | 0,_=>exact dr.sl fun i _ j hj=>M0 _ j hj
   | 2,_=>exact dr.refl _
   | 1,_=>
     refine dr.sl fun i _ j hj=>?_
     show dr (oI (gO (t.aa.get e).az q i j)) (uJ (bif Nat.blt i (t.aa.get e).az.n then (t.aa.get e).az.get i else ⟨q,0,yt,xD⟩) j)
     unfold gO
     cases Nat.blt i (t.aa.get e).az.n with
     | true=>exact Qg _ j hj
     | false=>
       match j,hj with
       | 0,_=>exact dr.refl _
       | 1,_=>exact dr.refl _
       | 2,_=>exact dr.refl _
       | 3,_=>exact dr.refl _
theorem WW:aJ (.row 3 1 2 [ci (-1),ci 0]) (RA xD):=aJ.row fun i hi j hj=>by
 have hj:j=0:=by omega
 subst hj
 have hi:i<2:=hi
 match i,hi with
 | 0,_=>rfl
 | 1,_=>rfl
theorem YC {s:Sq iR} {q:Int}:gO s q s.n=Wa [.im (iI q),.im (iI 0),.im (.sl 1 2 fun i=>eD (yt.get i)),CW xD]:=by
 unfold gO
 have:Nat.blt s.n s.n=false:=by
  cases hb:Nat.blt s.n s.n with
  | false=>rfl
  | true=>simp [cD] at hb
 rw [this]; rfl
theorem XK {s:Sq iR} {q:Int} {l:List Fc} (hl:l.length=4:=by rfl):aJ (.cR 78 4 (s.n+1) (fun i=>oo (s.get i)) (some (s.n,l))) (.cR 78 4 (s.n+1) (gO s q) (some (s.n,l))):=
 ⟨fun _=>trivial,fun base E w e av h=>AX (fun x hx=>by simp only [aq] at hx; subst hx; exact ⟨Nat.lt_succ_self _,hl⟩) (fun i hi j hj c hc=>by
  unfold gg at hc ⊢
  cases hb:Nat.beq i s.n with
  | true=>simp only [hb] at hc ⊢; exact ⟨c,hc,bG.refl _⟩
  | false=>
    simp only [hb,aq] at hc ⊢
    subst hc
    refine ⟨_,rfl,?_⟩
    have rA:i≠s.n:=fun e=>by rw [e,cf] at hb; cases hb
    unfold gO
    rw [(by simpa [cD] using (by omega:i<s.n):Nat.blt i s.n=true)]
    exact bG.refl _) h⟩
theorem Zp {s:Sq iR} {q:Int}:Mn (gO s q s.n) [.c (ci q),.c (ci 0),.c (.im (.sl 1 2 fun i=>eD (yt.get i))),.o (CW xD)] 0:=by
 rw [YC]
 exact ⟨bG.aP _,bG.aP _,bG.aP _,bG.refl _,trivial⟩
theorem Zc {t:ae} {e:Nat} {q:Int}:aJ (Cf t e [.o (xb (t.aa.get e).frames),.o (.ns 78 4 ((t.aa.get e).az.n+1) (gO (t.aa.get e).az q)),.c (ci (t.aa.get e).back)]) (.cR 73 3 t.aa.n (A9 t e q) none):=
 aJ.ZG (by
  unfold A9
  rw [cf]
  exact ⟨bG.refl _,bG.refl _,bG.aP _,trivial⟩) (fun i hi rA j hj=>by
  unfold A9
  rw [tF rA]
  exact qX.refl _)
theorem eE (t:ae) (q0 q1 q2:Int) (m:Nat) (gE:Nat→Nat→O) (hE:∀ i,i<t.aa.n→∀ j,j<3→dr (oI (gE i j)) (dS (t.aa.get i) j)):af 7 0 (aW (bc { t with ins:=⟨m,t.ins.get⟩ })) (ag 7 38) (dZ t q0 q1 q2 m gE):=by
 refine aH (X:=kE) (stop:=fb) (Rk _ _ t q0 q1 q2 m gE ?_)
 exact jq (.cons (ei.refl _) (.cons (ei.refl _) (.cons (ei.im (dr.sl fun i _ j hj=>XM _ j hj)) (.cons (ei.im (dr.sl hE)) .nil))))
theorem Uy (t:ae) (q0 q1 q2:Int) (k:Nat) (x3:ah) (hk:k<t.ins.n) (hx:aJ x3 (ry t.aa)):af 7 0 (aW (bc (Sz t k q2))) (ag 7 8) (Aw t q0 q1 q2 k x3):=by
 refine aH (X:=kE) (stop:=fb) (VG _ _ t q0 q1 q2 k x3 ?_)
 refine ⟨jO _ _ (by omega),?_⟩
 refine aw (cf _) ?_
 exact af.le (dZ (Sz t k q2) q0 q1 q2 t.ins.n (gX (Sz t k q2))) (by repeat' (first|exact trivial|refine bV rfl ?_)) (rc (rc (.cons (wY ⟨bG.aP _,bG.aP _,bG.aP _,bG.aP _,bG.aP _,bG.refl _,bG.aP _,bG.aP _,bG.aP _,bG.refl _,bG.aP _,bG.aP _,bG.aP _,bG.aP _,trivial⟩) (.cons (hx) (rc .nil))))) rfl (eE (Sz t k q2) q0 q1 q2 t.ins.n (gX (Sz t k q2)) (iM (Sz t k q2)))
theorem Qf (t:ae) (q0 q1 q2:Int) (k:Nat) (x3:ah) (hk:k<t.ins.n) (hx:aJ x3 (ry t.aa)):af 7 0 (aW (bc (SE t k q2))) (ag 7 10) (vr t q0 q1 q2 k x3):=by
 refine aH (X:=kE) (stop:=fb) (Q7 _ _ t q0 q1 q2 k x3 ?_)
 refine aw (cf _) ?_
 exact af.le (dZ (SE t k q2) q0 q1 q2 t.ins.n (gX (SE t k q2))) (by repeat' (first|exact trivial|refine bV rfl ?_)) (rc (rc (.cons (wY ⟨bG.aP _,bG.aP _,bG.aP _,bG.aP _,bG.aP _,bG.refl _,bG.aP _,bG.aP _,bG.aP _,bG.refl _,bG.aP _,bG.aP _,bG.aP _,bG.aP _,trivial⟩) (.cons (hx) (rc .nil))))) rfl (eE (SE t k q2) q0 q1 q2 t.ins.n (gX (SE t k q2)) (iM (SE t k q2)))
theorem NF (t:ae) (q0 q1 q2:Int) (k:Nat) (x3:ah) (hk:k<t.ins.n) (hx:aJ x3 (ry t.aa)):af 7 0 (aW (bc (QH t k q2))) (ag 7 12) (vo t q0 q1 q2 k x3):=by
 refine aH (X:=kE) (stop:=fb) (TG _ _ t q0 q1 q2 k x3 ?_)
 refine aw (cf _) ?_
 exact af.le (dZ (QH t k q2) q0 q1 q2 t.ins.n (gX (QH t k q2))) (by repeat' (first|exact trivial|refine bV rfl ?_)) (rc (rc (.cons (wY ⟨bG.aP _,bG.aP _,bG.aP _,bG.aP _,bG.aP _,bG.refl _,bG.aP _,bG.aP _,bG.aP _,bG.refl _,bG.aP _,bG.aP _,bG.aP _,bG.aP _,trivial⟩) (.cons (hx) (rc .nil))))) rfl (eE (QH t k q2) q0 q1 q2 t.ins.n (gX (QH t k q2)) (iM (QH t k q2)))
theorem M3 (t:ae) (q0 q1 q2:Int) (k:Nat) (x3:ah) (hk:k<t.ins.n) (hx:aJ x3 (ry t.aa)):af 7 0 (aW (bc (Td t k q2))) (ag 7 14) (vg t q0 q1 q2 k x3):=by
 refine aH (X:=kE) (stop:=fb) (TL _ _ t q0 q1 q2 k x3 ?_)
 refine aw (cf _) ?_
 exact af.le (dZ (Td t k q2) q0 q1 q2 t.ins.n (gX (Td t k q2))) (by repeat' (first|exact trivial|refine bV rfl ?_)) (rc (rc (.cons (wY ⟨bG.aP _,bG.aP _,bG.aP _,bG.aP _,bG.aP _,bG.refl _,bG.aP _,bG.aP _,bG.aP _,bG.refl _,bG.aP _,bG.aP _,bG.aP _,bG.aP _,trivial⟩) (.cons (hx) (rc .nil))))) rfl (eE (Td t k q2) q0 q1 q2 t.ins.n (gX (Td t k q2)) (iM (Td t k q2)))
theorem Ny (t:ae) (q0 q1 q2:Int) (k:Nat) (x3:ah) (hk:k<t.ins.n) (hx:aJ x3 (ry t.aa)) (hE:t.aa.n≤1000):af 7 0 (aW (bc (TF t k q2))) (ag 7 16) (vk t q0 q1 q2 k x3):=by
 refine aH (X:=kE) (stop:=fb) (S9 _ _ t q0 q1 q2 k x3 ?_)
 refine ⟨jO _ _ (by rw [ir (by omega) (by omega)]; omega),?_⟩
 refine aw (cf _) ?_
 exact af.le (dZ (TF t k q2) q0 q1 q2 t.ins.n (gX (TF t k q2))) (by repeat' (first|exact trivial|refine bV rfl ?_)) (rc (rc (.cons (wY ⟨bG.aP _,bG.aP _,bG.aP _,bG.aP _,bG.aP _,bG.refl _,bG.aP _,bG.aP _,bG.aP _,bG.refl _,bG.aP _,bG.aP _,bG.aP _,bG.aP _,trivial⟩) (.cons (hx) (rc .nil))))) rfl (eE (TF t k q2) q0 q1 q2 t.ins.n (gX (TF t k q2)) (iM (TF t k q2)))
theorem Ph (t:ae) (q0 q1 q2:Int) (k:Nat) (x3:ah) (hk:k<t.ins.n) (hx:aJ x3 (ry t.aa)):af 7 0 (aW (bc (QZ t k q2))) (ag 7 18) (vI t q0 q1 q2 k x3):=by
 refine aH (X:=kE) (stop:=fb) (RO _ _ t q0 q1 q2 k x3 ?_)
 refine aw (by simpa [cD] using hk) ?_
 refine aw (cf _) ?_
 refine aw (cf _) ?_
 exact af.le (dZ (QZ t k q2) q0 q1 q2 t.ins.n (gX (QZ t k q2))) (by repeat' (first|exact trivial|refine bV rfl ?_)) (rc (rc (.cons (wY ⟨bG.aP _,bG.aP _,bG.aP _,bG.aP _,bG.aP _,bG.refl _,bG.aP _,bG.aP _,bG.aP _,bG.refl _,bG.aP _,bG.aP _,bG.aP _,bG.aP _,trivial⟩) (.cons (hx) (rc .nil))))) rfl (eE (QZ t k q2) q0 q1 q2 t.ins.n (gX (QZ t k q2)) (iM (QZ t k q2)))
theorem O1 (t:ae) (q0 q1 q2:Int) (k:Nat) (x3:ah) (hk:k<t.ins.n) (hx:aJ x3 (ry t.aa)) (hA:(t.ins.get k).args.n≤1000):af 7 0 (aW (bc (Kl t k q2))) (ag 7 20) (vA t q0 q1 q2 k x3):=by
 refine aH (X:=kE) (stop:=fb) (Sk _ _ t q0 q1 q2 k x3 ?_)
 refine aw (by simpa [cD] using hk) ?_
 refine aw (cf _) ?_
 refine aw (cj (by omega) (by omega)) ?_
 refine aw (cf _) ?_
 refine aw (cf _) ?_
 refine aw (by simpa [cD] using hk) ?_
 refine aw (cf _) ?_
 refine aw (cj (by omega) (by omega)) ?_
 refine aw (cf _) ?_
 refine aw (cf _) ?_
 refine af.close 2 5 7 rfl rfl rfl rfl rfl rfl ?_
 exact af.le ⟨[(4,.c (.rt 1 0 0),[]),(5,.c (.rt 4 0 0),[])],[QB q0 q1 q2,ZT,j5 (Kl t k q2).ins,.cR 73 3 (Kl t k q2).aa.n (gX (Kl t k q2)) none,lD (Kl t k q2) 2 3 t.ins.n,.dead,.dead,.dead],[]⟩ (by repeat' (first|exact trivial|refine bV rfl ?_)) (rc (rc (.cons (wY ⟨bG.aP _,bG.aP _,bG.aP _,bG.aP _,bG.aP _,bG.o (qX.ar Ik),bG.aP _,bG.aP _,bG.aP _,bG.refl _,bG.aP _,bG.aP _,bG.aP _,bG.aP _,trivial⟩) (.cons (hx) (rc (.cons (aJ.dead _) (.cons (aJ.dead _) (.cons (aJ.dead _) .nil)))))))) rfl (af.rename (s':=dZ (Kl t k q2) q0 q1 q2 t.ins.n (gX (Kl t k q2))) [0,1,2,3,4] rfl (eE (Kl t k q2) q0 q1 q2 t.ins.n (gX (Kl t k q2)) (iM (Kl t k q2))))
theorem Oz (t:ae) (q0 q1 q2:Int) (k:Nat) (x3:ah) (hk:k<t.ins.n) (hx:aJ x3 (ry t.aa)) (hA:(t.ins.get k).names.n≤1000):af 7 0 (aW (bc (Qn t k q2))) (ag 7 22) (vC t q0 q1 q2 k x3):=by
 refine aH (X:=kE) (stop:=fb) (TQ _ _ t q0 q1 q2 k x3 ?_)
 refine aw (by simpa [cD] using hk) ?_
 refine aw (cf _) ?_
 refine ⟨jO _ _ (by omega),?_⟩
 refine aw ((jg _ _ (by omega) (by omega)).1) ?_
 refine ak (fun h0=>?_) (fun h0=>?_)
 ·refine aw (cj (by omega) (by omega)) ?_
  refine aw (cf _) ?_
  refine aw (cf _) ?_
  refine aw (by simpa [cD] using hk) ?_
  refine aw (cf _) ?_
  refine ⟨jO _ _ (by omega),?_⟩
  refine aw ((jg _ _ (by omega) (by omega)).1) ?_
  refine ak (fun h1=>?_) (fun h1=>Bool.noConfusion (h0.symm.trans h1))
  refine aw (cj (by omega) (by omega)) ?_
  refine aw (cf _) ?_
  refine aw (cf _) ?_
  rw [show Qn t k q2=fO t k { t.ins.get k with names:=jy (t.ins.get k).names ⟨⟨[120]⟩⟩ } from by unfold Qn Z3; rw [h0]; rfl]
  refine af.close 2 9 9 rfl rfl rfl rfl rfl rfl ?_
  exact af.le ⟨[(4,.c (.rt 1 0 0),[]),(5,.c (.rt 4 0 0),[])],[QB q0 q1 q2,ZT,j5 (fO t k { t.ins.get k with names:=jy (t.ins.get k).names ⟨⟨[120]⟩⟩ }).ins,.cR 73 3 (fO t k { t.ins.get k with names:=jy (t.ins.get k).names ⟨⟨[120]⟩⟩ }).aa.n (gX (fO t k { t.ins.get k with names:=jy (t.ins.get k).names ⟨⟨[120]⟩⟩ })) none,lD (fO t k { t.ins.get k with names:=jy (t.ins.get k).names ⟨⟨[120]⟩⟩ }) 2 3 t.ins.n,.dead,.dead,.dead,.dead,.dead],[]⟩ (by repeat' (first|exact trivial|refine bV rfl ?_)) (rc (rc (.cons (wY ⟨bG.aP _,bG.aP _,bG.aP _,bG.aP _,bG.aP _,bG.refl _,bG.aP _,bG.aP _,bG.aP _,bG.o (qX.ar xX),bG.aP _,bG.aP _,bG.aP _,bG.aP _,trivial⟩) (.cons (hx) (rc (.cons (aJ.dead _) (.cons (aJ.dead _) (.cons (aJ.dead _) (.cons (aJ.dead _) (.cons (aJ.dead _) .nil)))))))))) rfl (af.rename (s':=dZ (fO t k { t.ins.get k with names:=jy (t.ins.get k).names ⟨⟨[120]⟩⟩ }) q0 q1 q2 t.ins.n (gX (fO t k { t.ins.get k with names:=jy (t.ins.get k).names ⟨⟨[120]⟩⟩ }))) [0,1,2,3,4] rfl (eE (fO t k { t.ins.get k with names:=jy (t.ins.get k).names ⟨⟨[120]⟩⟩ }) q0 q1 q2 t.ins.n (gX (fO t k { t.ins.get k with names:=jy (t.ins.get k).names ⟨⟨[120]⟩⟩ })) (iM (fO t k { t.ins.get k with names:=jy (t.ins.get k).names ⟨⟨[120]⟩⟩ }))))
 ·refine ak (fun h1=>?_) (fun h1=>?_)
  ·refine aw (cj (by omega) (by omega)) ?_
   refine aw (cf _) ?_
   refine aw (cf _) ?_
   refine aw (by simpa [cD] using hk) ?_
   refine aw (cf _) ?_
   refine ⟨jO _ _ (by omega),?_⟩
   refine aw ((jg _ _ (by omega) (by omega)).1) ?_
   refine ak (fun h2=>Bool.noConfusion (h2.symm.trans h0)) (fun h2=>?_)
   refine ak (fun h3=>?_) (fun h3=>Bool.noConfusion (h1.symm.trans h3))
   refine aw (cj (by omega) (by omega)) ?_
   refine aw (cf _) ?_
   refine aw (cf _) ?_
   rw [show Qn t k q2=fO t k { t.ins.get k with names:=jy (t.ins.get k).names ⟨⟨[122]⟩⟩ } from by unfold Qn Z3; rw [h0,h1]; rfl]
   refine af.close 2 9 9 rfl rfl rfl rfl rfl rfl ?_
   exact af.le ⟨[(4,.c (.rt 1 0 0),[]),(5,.c (.rt 4 0 0),[])],[QB q0 q1 q2,ZT,j5 (fO t k { t.ins.get k with names:=jy (t.ins.get k).names ⟨⟨[122]⟩⟩ }).ins,.cR 73 3 (fO t k { t.ins.get k with names:=jy (t.ins.get k).names ⟨⟨[122]⟩⟩ }).aa.n (gX (fO t k { t.ins.get k with names:=jy (t.ins.get k).names ⟨⟨[122]⟩⟩ })) none,lD (fO t k { t.ins.get k with names:=jy (t.ins.get k).names ⟨⟨[122]⟩⟩ }) 2 3 t.ins.n,.dead,.dead,.dead,.dead,.dead],[]⟩ (by repeat' (first|exact trivial|refine bV rfl ?_)) (rc (rc (.cons (wY ⟨bG.aP _,bG.aP _,bG.aP _,bG.aP _,bG.aP _,bG.refl _,bG.aP _,bG.aP _,bG.aP _,bG.o (qX.ar xX),bG.aP _,bG.aP _,bG.aP _,bG.aP _,trivial⟩) (.cons (hx) (rc (.cons (aJ.dead _) (.cons (aJ.dead _) (.cons (aJ.dead _) (.cons (aJ.dead _) (.cons (aJ.dead _) .nil)))))))))) rfl (af.rename (s':=dZ (fO t k { t.ins.get k with names:=jy (t.ins.get k).names ⟨⟨[122]⟩⟩ }) q0 q1 q2 t.ins.n (gX (fO t k { t.ins.get k with names:=jy (t.ins.get k).names ⟨⟨[122]⟩⟩ }))) [0,1,2,3,4] rfl (eE (fO t k { t.ins.get k with names:=jy (t.ins.get k).names ⟨⟨[122]⟩⟩ }) q0 q1 q2 t.ins.n (gX (fO t k { t.ins.get k with names:=jy (t.ins.get k).names ⟨⟨[122]⟩⟩ })) (iM (fO t k { t.ins.get k with names:=jy (t.ins.get k).names ⟨⟨[122]⟩⟩ }))))
  ·refine ak (fun h2=>?_) (fun h2=>?_)
   ·refine aw (cj (by omega) (by omega)) ?_
    refine aw (cf _) ?_
    refine aw (cf _) ?_
    refine aw (by simpa [cD] using hk) ?_
    refine aw (cf _) ?_
    refine ⟨jO _ _ (by omega),?_⟩
    refine aw ((jg _ _ (by omega) (by omega)).1) ?_
    refine ak (fun h3=>Bool.noConfusion (h3.symm.trans h0)) (fun h3=>?_)
    refine ak (fun h4=>Bool.noConfusion (h4.symm.trans h1)) (fun h4=>?_)
    refine ak (fun h5=>?_) (fun h5=>Bool.noConfusion (h2.symm.trans h5))
    refine aw (cj (by omega) (by omega)) ?_
    refine aw (cf _) ?_
    refine aw (cf _) ?_
    rw [show Qn t k q2=fO t k { t.ins.get k with names:=jy (t.ins.get k).names ⟨⟨[]⟩⟩ } from by unfold Qn Z3; rw [h0,h1]; rfl]
    refine af.close 2 9 9 rfl rfl rfl rfl rfl rfl ?_
    exact af.le ⟨[(4,.c (.rt 1 0 0),[]),(5,.c (.rt 4 0 0),[])],[QB q0 q1 q2,ZT,j5 (fO t k { t.ins.get k with names:=jy (t.ins.get k).names ⟨⟨[]⟩⟩ }).ins,.cR 73 3 (fO t k { t.ins.get k with names:=jy (t.ins.get k).names ⟨⟨[]⟩⟩ }).aa.n (gX (fO t k { t.ins.get k with names:=jy (t.ins.get k).names ⟨⟨[]⟩⟩ })) none,lD (fO t k { t.ins.get k with names:=jy (t.ins.get k).names ⟨⟨[]⟩⟩ }) 2 3 t.ins.n,.dead,.dead,.dead,.dead,.dead],[]⟩ (by repeat' (first|exact trivial|refine bV rfl ?_)) (rc (rc (.cons (wY ⟨bG.aP _,bG.aP _,bG.aP _,bG.aP _,bG.aP _,bG.refl _,bG.aP _,bG.aP _,bG.aP _,bG.o (qX.ar xX),bG.aP _,bG.aP _,bG.aP _,bG.aP _,trivial⟩) (.cons (hx) (rc (.cons (aJ.dead _) (.cons (aJ.dead _) (.cons (aJ.dead _) (.cons (aJ.dead _) (.cons (aJ.dead _) .nil)))))))))) rfl (af.rename (s':=dZ (fO t k { t.ins.get k with names:=jy (t.ins.get k).names ⟨⟨[]⟩⟩ }) q0 q1 q2 t.ins.n (gX (fO t k { t.ins.get k with names:=jy (t.ins.get k).names ⟨⟨[]⟩⟩ }))) [0,1,2,3,4] rfl (eE (fO t k { t.ins.get k with names:=jy (t.ins.get k).names ⟨⟨[]⟩⟩ }) q0 q1 q2 t.ins.n (gX (fO t k { t.ins.get k with names:=jy (t.ins.get k).names ⟨⟨[]⟩⟩ })) (iM (fO t k { t.ins.get k with names:=jy (t.ins.get k).names ⟨⟨[]⟩⟩ }))))
   ·exact ai4 (jg q2 3 (by omega) (by omega)).2.2 (by assumption) (by assumption) (by assumption)
theorem N7 (t:ae) (q0 q1 q2:Int) (k:Nat) (x3:ah) (hk:k<t.ins.n) (hx:aJ x3 (ry t.aa)):af 7 0 (aW (bc (Lb t k q2))) (ag 7 24) (vH t q0 q1 q2 k x3):=by
 refine aH (X:=kE) (stop:=fb) (Tz _ _ t q0 q1 q2 k x3 ?_)
 refine ⟨jO _ _ (by omega),?_⟩
 refine ⟨jO _ _ (by omega),?_⟩
 refine aw (cf _) ?_
 refine ⟨jO _ _ (by omega),?_⟩
 refine ⟨jO _ _ (by omega),?_⟩
 refine aw (cf _) ?_
 exact af.le ⟨[(4,.c (.rt 1 0 0),[]),(5,.c (.rt 4 0 0),[])],[QB q0 q1 q2,ZT,j5 (Lb t k q2).ins,.cR 73 3 (Lb t k q2).aa.n (gX (Lb t k q2)) none,lD (Lb t k q2) 2 3 t.ins.n,.dead,.dead],[]⟩ (by repeat' (first|exact trivial|refine bV rfl ?_)) (rc (rc (.cons (wY ⟨bG.aP _,bG.aP _,bG.aP _,bG.aP _,bG.aP _,bG.refl _,bG.aP _,bG.aP _,bG.aP _,bG.refl _,bG.aP _,bG.aP _,bG.aP _,bG.aP _,trivial⟩) (.cons (hx) (rc (.cons (aJ.dead _) (.cons (aJ.dead _) .nil))))))) rfl (af.rename (s':=dZ (Lb t k q2) q0 q1 q2 t.ins.n (gX (Lb t k q2))) [0,1,2,3,4] rfl (eE (Lb t k q2) q0 q1 q2 t.ins.n (gX (Lb t k q2)) (iM (Lb t k q2))))
theorem Xj (t:ae) (q0 q1 q2:Int) (k e:Nat) (he:e<t.aa.n):af 7 0 (aW (bc (UR t e q2))) (ag 7 26) (CS t q0 q1 q2 k e):=by
 refine aH (X:=kE) (stop:=fb) (Sc _ _ t q0 q1 q2 k e ?_)
 refine aw (cf _) ?_
 exact af.le (dZ (UR t e q2) q0 q1 q2 t.ins.n (gX (UR t e q2))) (by repeat' (first|exact trivial|refine bV rfl ?_)) (rc (rc (rc (.cons (Zl ⟨bG.refl _,bG.refl _,bG.aP _,trivial⟩) (rc .nil))))) rfl (eE (UR t e q2) q0 q1 q2 t.ins.n (gX (UR t e q2)) (iM (UR t e q2)))
theorem Xw (t:ae) (q0 q1 q2:Int) (e:Nat) (he:e<t.aa.n) (h0:0<(t.aa.get e).frames.n) (hv:((t.aa.get e).frames.get 0).vars.n≤1000):af 7 0 (aW (bc (tV t e q2))) (ag 7 30) (CD t q0 q1 q2 e):=by
 refine aH (X:=kE) (stop:=fb) (SR _ _ t q0 q1 q2 e ?_)
 refine aw (by simpa [cD] using he) ?_
 refine aw (cf _) ?_
 refine aw (by simpa [cD] using he) ?_
 refine aw (cf _) ?_
 refine aw (aA (k:=0) (by omega)) ?_
 refine aw (aA (k:=0) (by omega)) ?_
 refine aw (cj (by omega) (by omega)) ?_
 refine aw (cf _) ?_
 refine aw (aA (k:=0) (by omega)) ?_
 refine aw (by simpa [cD] using he) ?_
 refine aw (cf _) ?_
 refine aw (by simpa [cD] using he) ?_
 refine aw (cf _) ?_
 refine aw (aA (k:=0) (by omega)) ?_
 refine aw (aA (k:=0) (by omega)) ?_
 refine aw (cj (by omega) (by omega)) ?_
 refine aw (cf _) ?_
 refine aw (aA (k:=0) (by omega)) ?_
 refine af.close 5 2 8 rfl rfl rfl rfl rfl rfl ?_
 refine af.le ⟨[(4,.c (.rt 1 0 0),[]),(5,.c (.rt 4 0 0),[])],[QB q0 q1 q2,ZT,j5 t.ins,Cf t e [.c (.sa 5 (t.aa.get e).frames.n),.o (Ec (t.aa.get e).az),.c (ci (t.aa.get e).back)],lD t 2 3 t.ins.n,W3 (S8 (t.aa.get e).frames 0 { (t.aa.get e).frames.get 0 with vars:=jy ((t.aa.get e).frames.get 0).vars q2 }),.dead,.dead,.dead],[]⟩ (by repeat' (first|exact trivial|refine bV rfl ?_)) (rc (rc (rc (rc (rc (.cons (ak2 ⟨bG.aP _,bG.aP _,bG.o (qX.ar Ik),trivial⟩) (.cons (aJ.dead _) (.cons (aJ.dead _) (.cons (aJ.dead _) .nil))))))))) rfl ?_
 refine af.close 3 0 5 rfl rfl rfl rfl rfl rfl ?_
 exact af.le ⟨[(4,.c (.rt 1 0 0),[]),(5,.c (.rt 4 0 0),[])],[QB q0 q1 q2,ZT,j5 (tV t e q2).ins,.cR 73 3 (tV t e q2).aa.n (gX (tV t e q2)) none,lD (tV t e q2) 2 3 t.ins.n,.dead,.dead,.dead,.dead],[]⟩ (by repeat' (first|exact trivial|refine bV rfl ?_)) (rc (rc (rc (.cons (Zl ⟨bG.refl _,bG.refl _,bG.aP _,trivial⟩) (rc (.cons (aJ.dead _) (.cons (aJ.dead _) (.cons (aJ.dead _) (.cons (aJ.dead _) .nil))))))))) rfl (af.rename (s':=dZ (tV t e q2) q0 q1 q2 t.ins.n (gX (tV t e q2))) [0,1,2,3,4] rfl (eE (tV t e q2) q0 q1 q2 t.ins.n (gX (tV t e q2)) (iM (tV t e q2))))
theorem Wm (t:ae) (q0 q1 q2:Int) (e:Nat) (he:e<t.aa.n) (ho:(t.aa.get e).az.n≤1000):af 7 0 (aW (bc (xv t e q2))) (ag 7 33) (A4 t q0 q1 q2 e):=by
 refine aH (X:=kE) (stop:=fb) (QT _ _ t q0 q1 q2 e ?_)
 refine aw (by simpa [cD] using he) ?_
 refine aw (cf _) ?_
 refine ⟨JI,?_⟩
 refine aw (cj (by omega) (by omega)) ?_
 refine aw (cf _) ?_
 refine aw (cf _) ?_
 refine aw (by simpa [cD] using he) ?_
 refine aw (cf _) ?_
 refine ⟨JI,?_⟩
 refine aw (cj (by omega) (by omega)) ?_
 refine aw (cf _) ?_
 refine aw (cf _) ?_
 refine af.le ⟨[(4,.c (.rt 1 0 0),[]),(5,.c (.rt 4 0 0),[])],[QB q0 q1 q2,ZT,j5 t.ins,Cf t e [.o (xb (t.aa.get e).frames),.c (.sa 9 ((t.aa.get e).az.n+1)),.c (ci (t.aa.get e).back)],lD t 2 3 t.ins.n,.dead,.dead,RA xD,.dead,.cR 78 4 ((t.aa.get e).az.n+1) (gO (t.aa.get e).az q2) (some ((t.aa.get e).az.n,[.c (ci q2),.c (ci 0),.c (.im (.sl 1 2 fun i=>eD (yt.get i))),.c (.sa 7 2)]))],[]⟩ (by repeat' (first|exact trivial|refine bV rfl ?_)) (rc (rc (rc (rc (rc (.cons (aJ.dead _) (.cons (aJ.dead _) (.cons (WW) (.cons (aJ.dead _) (.cons (XK) .nil)))))))))) rfl ?_
 refine af.close 9 3 7 rfl rfl rfl rfl rfl rfl ?_
 refine af.le ⟨[(4,.c (.rt 1 0 0),[]),(5,.c (.rt 4 0 0),[])],[QB q0 q1 q2,ZT,j5 t.ins,Cf t e [.o (xb (t.aa.get e).frames),.c (.sa 9 ((t.aa.get e).az.n+1)),.c (ci (t.aa.get e).back)],lD t 2 3 t.ins.n,.dead,.dead,.dead,.dead,.cR 78 4 ((t.aa.get e).az.n+1) (gO (t.aa.get e).az q2) none],[]⟩ (by repeat' (first|exact trivial|refine bV rfl ?_)) (rc (rc (rc (rc (rc (.cons (aJ.dead _) (.cons (aJ.dead _) (.cons (aJ.dead _) (.cons (aJ.dead _) (.cons (aJ.GQ Zp) .nil)))))))))) rfl ?_
 refine af.close 3 1 9 rfl rfl rfl rfl rfl rfl ?_
 exact af.le ⟨[(4,.c (.rt 1 0 0),[]),(5,.c (.rt 4 0 0),[])],[QB q0 q1 q2,ZT,j5 (xv t e q2).ins,.cR 73 3 (xv t e q2).aa.n (A9 t e q2) none,lD (xv t e q2) 2 3 t.ins.n,.dead,.dead,.dead,.dead,.dead],[]⟩ (by repeat' (first|exact trivial|refine bV rfl ?_)) (rc (rc (rc (.cons (Zc) (rc (.cons (aJ.dead _) (.cons (aJ.dead _) (.cons (aJ.dead _) (.cons (aJ.dead _) (.cons (aJ.dead _) .nil)))))))))) rfl (af.rename (s':=dZ (xv t e q2) q0 q1 q2 t.ins.n (A9 t e q2)) [0,1,2,3,4] rfl (eE (xv t e q2) q0 q1 q2 t.ins.n (A9 t e q2) (TM t e q2)))
theorem Nr (t:ae) (q0 q1 q2:Int) (x3:ah) (hn:0<t.ins.n) (hN:t.ins.n≤1000) (hx:aJ x3 (ry t.aa)):af 7 0 (aW (bc (SK t q2))) (ag 7 35) (vb t q0 q1 q2 x3):=by
 refine aH (X:=kE) (stop:=fb) (S3 _ _ t q0 q1 q2 x3 ?_)
 refine ⟨jO _ _ (by omega),?_⟩
 refine aw (P7 (jg _ _ (by omega) (by omega)).2.1 (jg _ _ (by omega) (by omega)).2.2) ?_
 refine ⟨jO _ _ (by omega),?_⟩
 refine aw (P7 (jg _ _ (by omega) (by omega)).2.1 (jg _ _ (by omega) (by omega)).2.2) ?_
 exact af.le ⟨[(4,.c (.rt 1 0 0),[]),(5,.c (.rt 4 0 0),[])],[QB q0 q1 q2,ZT,j5 (t).ins,.cR 73 3 (t).aa.n (gX (t)) none,lD (t) 2 3 (et q2 (Int.ofNat t.ins.n)).toNat,.dead],[]⟩ (by repeat' (first|exact trivial|refine bV rfl ?_)) (rc (rc (rc (.cons (hx) (rc (.cons (aJ.dead _) .nil)))))) rfl (af.rename (s':=dZ (t) q0 q1 q2 (et q2 (Int.ofNat t.ins.n)).toNat (gX (t))) [0,1,2,3,4] rfl (eE (t) q0 q1 q2 (et q2 (Int.ofNat t.ins.n)).toNat (gX (t)) (iM (t))))
theorem PX (t:ae) (q0 q1 q2:Int) (x3:ah) (hx:aJ x3 (ry t.aa)):af 7 0 (aW (bc (Cs t q2))) (ag 7 37) (vm t q0 q1 q2 x3):=by
 refine aH (X:=kE) (stop:=fb) (SC _ _ t q0 q1 q2 x3 ?_)
 exact af.le (dZ (Cs t q2) q0 q1 q2 t.ins.n (gX (Cs t q2))) (by repeat' (first|exact trivial|refine bV rfl ?_)) (rc (rc (rc (.cons (hx) (rc .nil))))) rfl (eE (Cs t q2) q0 q1 q2 t.ins.n (gX (Cs t q2)) (iM (Cs t q2)))
def AK (t:ae) (q0 q1 q2:Int) (k:Nat):VS:=⟨[oh,mN,oM,(6,.c (.rt 2 k 0),[]),(7,.c (.im (.v (.pointer none))),[])],[QB q0 q1 q2,ZT,SY t k (X9 (t.ins.get k)),ry t.aa,lD t 2 3 t.ins.n],[]⟩
abbrev kK (ax aF aR:Int) (bZ:ae) (ct:Nat):List ah:=[(fA ax aF aR),eb,(WI bZ ct),(rX bZ),(hU bZ)]
theorem Rm (L:LP) (QD:D→Prop) (t:ae) (q0 q1 q2:Int) (k:Nat) (h:(LC 25 [(int q0),(int 14)] [] (C0 q0) []∧br (et q0 (Int.ofNat 14)==0) (L (ag 7 8) ⟨[dA,bM,cP,(jv k),kq,(fZ q0),(35,((bool true),[]))],(kK q0 q1 q2 t k),[]⟩) (br (et q0 (Int.ofNat 14)==1) (L (ag 7 10) ⟨[dA,bM,cP,(jv k),kq,(fZ q0),(43,((bool true),[]))],(kK q0 q1 q2 t k),[]⟩) (br (et q0 (Int.ofNat 14)==2) (L (ag 7 12) ⟨[dA,bM,cP,(jv k),kq,(fZ q0),CP],(kK q0 q1 q2 t k),[]⟩) (br (et q0 (Int.ofNat 14)==3) (L (ag 7 14) ⟨[dA,bM,cP,(jv k),kq,(fZ q0),(57,((bool true),[]))],(kK q0 q1 q2 t k),[]⟩) (br (et q0 (Int.ofNat 14)==4) (L (ag 7 16) ⟨[dA,bM,cP,(jv k),kq,(fZ q0),(64,((bool true),[]))],(kK q0 q1 q2 t k),[]⟩) (br (et q0 (Int.ofNat 14)==5) (L (ag 7 18) ⟨[dA,bM,cP,(jv k),kq,(fZ q0),(77,((bool true),[]))],(kK q0 q1 q2 t k),[]⟩) (br (et q0 (Int.ofNat 14)==6) (L (ag 7 20) ⟨[dA,bM,cP,(jv k),kq,(fZ q0),(87,((bool true),[]))],(kK q0 q1 q2 t k),[]⟩) (br (et q0 (Int.ofNat 14)==7) (L (ag 7 22) ⟨[dA,bM,cP,(jv k),kq,(fZ q0),(100,((bool true),[]))],(kK q0 q1 q2 t k),[]⟩) (br (et q0 (Int.ofNat 14)==8) (L (ag 7 24) ⟨[dA,bM,cP,(jv k),kq,(fZ q0),(117,((bool true),[]))],(kK q0 q1 q2 t k),[]⟩) (br (et q0 (Int.ofNat 14)==9) (L (ag 7 26) ⟨[dA,bM,cP,kq,(fZ q0),(129,((bool true),[]))],(kK q0 q1 q2 t k),[]⟩) (br (et q0 (Int.ofNat 14)==10) (L (ag 7 29) ⟨[dA,bM,cP,kq,(fZ q0),(138,((bool true),[]))],(kK q0 q1 q2 t k),[]⟩) (br (et q0 (Int.ofNat 14)==11) (L (ag 7 32) ⟨[dA,bM,cP,kq,(fZ q0),(159,((bool true),[]))],(kK q0 q1 q2 t k),[]⟩) (br (et q0 (Int.ofNat 14)==12) (L (ag 7 35) ⟨[dA,bM,cP,(fZ q0),(177,((bool true),[]))],(kK q0 q1 q2 t k),[]⟩) (br (et q0 (Int.ofNat 14)==13) (L (ag 7 37) ⟨[dA,bM,cP,(189,((bool true),[]))],(kK q0 q1 q2 t k),[]⟩) (L (ag 7 38) ⟨[dA,bM,cP,(189,((bool false),[]))],(kK q0 q1 q2 t k),[]⟩)))))))))))))))):dq kE 7 fb L (aZ QD) 6 (AK t q0 q1 q2 k):=Eq.mp (by kernel_rfl) h
abbrev G5 (ax aF aR:Int) (bZ:ae):VS:=⟨[oh,mN,oM,(7,.c (.im (.v (.pointer none))),[])],[QB ax aF aR,ZT,j5 bZ.ins,ry bZ.aa,lD bZ 2 3 bZ.ins.n],[]⟩
def w7 (t:ae) (q0 q1 q2:Int)  : VS:=(G5 q0 q1 q2 t)
theorem Oc (L:LP) (QD:D→Prop) (t:ae) (q0 q1 q2:Int)  (h:L (ag 7 38) ⟨[dA,bM,cP,kq,(132,((bool false),[]))],[(fA q0 q1 q2),eb,(kp t),(rX t),(hU t)],[]⟩):dq kE 7 fb L (aZ QD) 26 (w7 t q0 q1 q2 ):=Eq.mp (by kernel_rfl) h
def xL (t:ae) (q0 q1 q2:Int)  : VS:=(G5 q0 q1 q2 t)
theorem Qi (L:LP) (QD:D→Prop) (t:ae) (q0 q1 q2:Int)  (h:L (ag 7 38) ⟨[dA,bM,cP,kq,(141,((bool false),[]))],[(fA q0 q1 q2),eb,(kp t),(rX t),(hU t)],[]⟩):dq kE 7 fb L (aZ QD) 29 (xL t q0 q1 q2 ):=Eq.mp (by kernel_rfl) h
def xK (t:ae) (q0 q1 q2:Int)  : VS:=(G5 q0 q1 q2 t)
theorem Qb (L:LP) (QD:D→Prop) (t:ae) (q0 q1 q2:Int)  (h:L (ag 7 38) ⟨[dA,bM,cP,kq,(162,((bool false),[]))],[(fA q0 q1 q2),eb,(kp t),(rX t),(hU t)],[]⟩):dq kE 7 fb L (aZ QD) 32 (xK t q0 q1 q2 ):=Eq.mp (by kernel_rfl) h
theorem V6 (t:ae) (q0 q1 q2:Int) (k e:Nat) (he:e<t.aa.n) (h0:0<(t.aa.get e).frames.n) (hv:((t.aa.get e).frames.get 0).vars.n≤1000):af 7 0 (aW (bc (tV t e q2))) (ag 7 29) (A2 t q0 q1 q2 k e):=by
 refine aH (X:=kE) (stop:=fb) (RR _ _ t q0 q1 q2 k e ?_)
 refine af.open 3 0 rfl rfl trivial (af.focus 5 0 rfl h0 (af.open 5 2 rfl rfl trivial ?_))
 exact af.le (CD t q0 q1 q2 e) (by repeat' (first|exact trivial|refine bV rfl ?_)) (rc (rc (rc (rc (rc (rc (rc .nil))))))) rfl (Xw t q0 q1 q2 e he h0 hv)
theorem XI (t:ae) (q0 q1 q2:Int) (k e:Nat) (he:e<t.aa.n) (ho:(t.aa.get e).az.n≤1000):af 7 0 (aW (bc (xv t e q2))) (ag 7 32) (Ah t q0 q1 q2 k e):=by
 refine aH (X:=kE) (stop:=fb) (RB _ _ t q0 q1 q2 k e ?_)
 refine af.open 3 1 rfl rfl trivial ?_
 exact af.le (A4 t q0 q1 q2 e) (by repeat' (first|exact trivial|refine bV rfl ?_)) (rc (rc (rc (rc (rc (rc .nil)))))) rfl (Wm t q0 q1 q2 e he ho)
theorem Ry (t:ae) (q0 q1 q2:Int):af 7 0 (aW (bc t)) (ag 7 26) (w7 t q0 q1 q2):=by
 refine aH (X:=kE) (stop:=fb) (Oc _ _ t q0 q1 q2 ?_)
 exact af.le (dZ (t) q0 q1 q2 t.ins.n (gX (t))) (by repeat' (first|exact trivial|refine bV rfl ?_)) (rc (rc (rc (rc (rc .nil))))) rfl (eE (t) q0 q1 q2 t.ins.n (gX (t)) (iM (t)))
theorem RU (t:ae) (q0 q1 q2:Int):af 7 0 (aW (bc t)) (ag 7 29) (xL t q0 q1 q2):=by
 refine aH (X:=kE) (stop:=fb) (Qi _ _ t q0 q1 q2 ?_)
 exact af.le (dZ (t) q0 q1 q2 t.ins.n (gX (t))) (by repeat' (first|exact trivial|refine bV rfl ?_)) (rc (rc (rc (rc (rc .nil))))) rfl (eE (t) q0 q1 q2 t.ins.n (gX (t)) (iM (t)))
theorem Tf (t:ae) (q0 q1 q2:Int):af 7 0 (aW (bc t)) (ag 7 32) (xK t q0 q1 q2):=by
 refine aH (X:=kE) (stop:=fb) (Qb _ _ t q0 q1 q2 ?_)
 exact af.le (dZ (t) q0 q1 q2 t.ins.n (gX (t))) (by repeat' (first|exact trivial|refine bV rfl ?_)) (rc (rc (rc (rc (rc .nil))))) rfl (eE (t) q0 q1 q2 t.ins.n (gX (t)) (iM (t)))
theorem nS {t:ae} {e:Nat}:aJ (Cf t e (Fu (t.aa.get e))) (ry t.aa):=aJ.GQ ⟨bG.refl _,bG.refl _,bG.aP _,trivial⟩
theorem nT {t:ae} {k:Nat}:aJ (SY t k (X9 (t.ins.get k))) (j5 t.ins):=aJ.GQ ⟨bG.aP _,bG.aP _,bG.aP _,bG.aP _,bG.aP _,bG.refl _,bG.aP _,bG.aP _,bG.aP _,bG.refl _,bG.aP _,bG.aP _,bG.aP _,bG.aP _,trivial⟩
theorem Y3 (t:ae) (q0 q1 q2:Int) (hS:ed t) (hn:0<t.ins.n) (hF:∀ e,e<t.aa.n→0<(t.aa.get e).frames.n) (k:Nat) (hk:k<t.ins.n) (oC:k=bI t q1) (e:Nat) (he:e<t.aa.n) (heq:e=bE t q1) (hE:decide ((t.aa.n:Int)>0)=true):af 7 0 (aW (bc (bP t q0 q1 q2))) (ag 7 6) (Hw t q0 q1 q2 k e):=by
 refine aH (X:=kE) (stop:=fb) (XQ _ _ t q0 q1 q2 k e ?_)
 refine ⟨jO _ _ (by omega),?_⟩
 refine ak (fun h0=>?_) (fun h0=>?_)
 ·have q:bP t q0 q1 q2=Sz t k q2:=by (first|rw [oC]|rw [heq]|skip); simp only [bP,h0,cond_true,cond_false]
  rw [q]
  exact af.le (Aw t q0 q1 q2 k (Cf t e (Fu (t.aa.get e)))) (by repeat' (first|exact trivial|refine bV rfl ?_)) (rc (rc (rc (rc (rc .nil))))) rfl (Uy t q0 q1 q2 k _ hk nS)
 ·refine ak (fun h1=>?_) (fun h1=>?_)
  ·have q:bP t q0 q1 q2=SE t k q2:=by (first|rw [oC]|rw [heq]|skip); simp only [bP,h0,h1,cond_true,cond_false]
   rw [q]
   exact af.le (vr t q0 q1 q2 k (Cf t e (Fu (t.aa.get e)))) (by repeat' (first|exact trivial|refine bV rfl ?_)) (rc (rc (rc (rc (rc .nil))))) rfl (Qf t q0 q1 q2 k _ hk nS)
  ·refine ak (fun h2=>?_) (fun h2=>?_)
   ·have q:bP t q0 q1 q2=QH t k q2:=by (first|rw [oC]|rw [heq]|skip); simp only [bP,h0,h1,h2,cond_true,cond_false]
    rw [q]
    exact af.le (vo t q0 q1 q2 k (Cf t e (Fu (t.aa.get e)))) (by repeat' (first|exact trivial|refine bV rfl ?_)) (rc (rc (rc (rc (rc .nil))))) rfl (NF t q0 q1 q2 k _ hk nS)
   ·refine ak (fun h3=>?_) (fun h3=>?_)
    ·have q:bP t q0 q1 q2=Td t k q2:=by (first|rw [oC]|rw [heq]|skip); simp only [bP,h0,h1,h2,h3,cond_true,cond_false]
     rw [q]
     exact af.le (vg t q0 q1 q2 k (Cf t e (Fu (t.aa.get e)))) (by repeat' (first|exact trivial|refine bV rfl ?_)) (rc (rc (rc (rc (rc .nil))))) rfl (M3 t q0 q1 q2 k _ hk nS)
    ·refine ak (fun h4=>?_) (fun h4=>?_)
     ·have q:bP t q0 q1 q2=TF t k q2:=by (first|rw [oC]|rw [heq]|skip); simp only [bP,h0,h1,h2,h3,h4,cond_true,cond_false]
      rw [q]
      exact af.le (vk t q0 q1 q2 k (Cf t e (Fu (t.aa.get e)))) (by repeat' (first|exact trivial|refine bV rfl ?_)) (rc (rc (rc (rc (rc .nil))))) rfl (Ny t q0 q1 q2 k _ hk nS hS.aa)
     ·refine ak (fun h5=>?_) (fun h5=>?_)
      ·have q:bP t q0 q1 q2=QZ t k q2:=by (first|rw [oC]|rw [heq]|skip); simp only [bP,h0,h1,h2,h3,h4,h5,cond_true,cond_false]
       rw [q]
       exact af.le (vI t q0 q1 q2 k (Cf t e (Fu (t.aa.get e)))) (by repeat' (first|exact trivial|refine bV rfl ?_)) (rc (rc (rc (rc (rc .nil))))) rfl (Ph t q0 q1 q2 k _ hk nS)
      ·refine ak (fun h6=>?_) (fun h6=>?_)
       ·have q:bP t q0 q1 q2=Kl t k q2:=by (first|rw [oC]|rw [heq]|skip); simp only [bP,h0,h1,h2,h3,h4,h5,h6,cond_true,cond_false]
        rw [q]
        refine af.open 2 5 rfl rfl trivial ?_
        exact af.le (vA t q0 q1 q2 k (Cf t e (Fu (t.aa.get e)))) (by repeat' (first|exact trivial|refine bV rfl ?_)) (rc (rc (rc (rc (rc (rc .nil)))))) rfl (O1 t q0 q1 q2 k _ hk nS (hS.args k hk))
       ·refine ak (fun h7=>?_) (fun h7=>?_)
        ·have q:bP t q0 q1 q2=Qn t k q2:=by (first|rw [oC]|rw [heq]|skip); simp only [bP,h0,h1,h2,h3,h4,h5,h6,h7,cond_true,cond_false]
         rw [q]
         refine af.open 2 9 rfl rfl trivial ?_
         exact af.le (vC t q0 q1 q2 k (Cf t e (Fu (t.aa.get e)))) (by repeat' (first|exact trivial|refine bV rfl ?_)) (rc (rc (rc (rc (rc (rc .nil)))))) rfl (Oz t q0 q1 q2 k _ hk nS (hS.names k hk))
        ·refine ak (fun h8=>?_) (fun h8=>?_)
         ·have q:bP t q0 q1 q2=Lb t k q2:=by (first|rw [oC]|rw [heq]|skip); simp only [bP,h0,h1,h2,h3,h4,h5,h6,h7,h8,cond_true,cond_false]
          rw [q]
          exact af.le (vH t q0 q1 q2 k (Cf t e (Fu (t.aa.get e)))) (by repeat' (first|exact trivial|refine bV rfl ?_)) (rc (rc (rc (rc (rc .nil))))) rfl (N7 t q0 q1 q2 k _ hk nS)
         ·refine ak (fun h9=>?_) (fun h9=>?_)
          ·have q:bP t q0 q1 q2=UR t e q2:=by (first|rw [oC]|rw [heq]|skip); simp only [bP,h0,h1,h2,h3,h4,h5,h6,h7,h8,h9,cond_true,cond_false]; unfold Qv; rw [hE]; rfl
           rw [q]
           exact af.le (CS t q0 q1 q2 k e) (by repeat' (first|exact trivial|refine bV rfl ?_)) (rc (rc (.cons (nT) (rc (rc .nil))))) rfl (Xj t q0 q1 q2 k e he)
          ·refine ak (fun nN=>?_) (fun nN=>?_)
           ·have q:bP t q0 q1 q2=tV t e q2:=by (first|rw [oC]|rw [heq]|skip); simp only [bP,h0,h1,h2,h3,h4,h5,h6,h7,h8,h9,nN,cond_true,cond_false]; unfold Qv; rw [hE]; rfl
            rw [q]
            exact af.le (A2 t q0 q1 q2 k e) (by repeat' (first|exact trivial|refine bV rfl ?_)) (rc (rc (.cons (nT) (rc (rc .nil))))) rfl (V6 t q0 q1 q2 k e he (hF _ he) ((hS.ex e he).vars 0 (hF _ he)))
           ·refine ak (fun uP=>?_) (fun uP=>?_)
            ·have q:bP t q0 q1 q2=xv t e q2:=by (first|rw [oC]|rw [heq]|skip); simp only [bP,h0,h1,h2,h3,h4,h5,h6,h7,h8,h9,nN,uP,cond_true,cond_false]; unfold Qv; rw [hE]; rfl
             rw [q]
             exact af.le (Ah t q0 q1 q2 k e) (by repeat' (first|exact trivial|refine bV rfl ?_)) (rc (rc (.cons (nT) (rc (rc .nil))))) rfl (XI t q0 q1 q2 k e he (hS.ex e he).az)
            ·refine ak (fun yX=>?_) (fun yX=>?_)
             ·have q:bP t q0 q1 q2=SK t q2:=by (first|rw [oC]|rw [heq]|skip); simp only [bP,h0,h1,h2,h3,h4,h5,h6,h7,h8,h9,nN,uP,yX,cond_true,cond_false]
              rw [q]
              exact af.le (vb t q0 q1 q2 (Cf t e (Fu (t.aa.get e)))) (by repeat' (first|exact trivial|refine bV rfl ?_)) (rc (rc (.cons (nT) (rc (rc .nil))))) rfl (Nr t q0 q1 q2 _ hn hS.ins nS)
             ·refine ak (fun LO=>?_) (fun LO=>?_)
              ·have q:bP t q0 q1 q2=Cs t q2:=by (first|rw [oC]|rw [heq]|skip); simp only [bP,h0,h1,h2,h3,h4,h5,h6,h7,h8,h9,nN,uP,yX,LO,cond_true,cond_false]
               rw [q]
               exact af.le (vm t q0 q1 q2 (Cf t e (Fu (t.aa.get e)))) (by repeat' (first|exact trivial|refine bV rfl ?_)) (rc (rc (.cons (nT) (rc (rc .nil))))) rfl (PX t q0 q1 q2 _ nS)
              ·have q:bP t q0 q1 q2=t:=by (first|rw [oC]|rw [heq]|skip); simp only [bP,h0,h1,h2,h3,h4,h5,h6,h7,h8,h9,nN,uP,yX,LO,cond_true,cond_false]
               rw [q]
               exact af.le (dZ (t) q0 q1 q2 t.ins.n (gX (t))) (by repeat' (first|exact trivial|refine bV rfl ?_)) (rc (rc (.cons (nT) (.cons (nS) (rc .nil))))) rfl (eE (t) q0 q1 q2 t.ins.n (gX (t)) (iM (t)))
theorem VW (t:ae) (q0 q1 q2:Int) (hS:ed t) (hn:0<t.ins.n) (hF:∀ e,e<t.aa.n→0<(t.aa.get e).frames.n) (k:Nat) (hk:k<t.ins.n) (oC:k=bI t q1) (hE:decide ((t.aa.n:Int)>0)=false):af 7 0 (aW (bc (bP t q0 q1 q2))) (ag 7 6) (AK t q0 q1 q2 k):=by
 refine aH (X:=kE) (stop:=fb) (Rm _ _ t q0 q1 q2 k ?_)
 refine ⟨jO _ _ (by omega),?_⟩
 refine ak (fun h0=>?_) (fun h0=>?_)
 ·have q:bP t q0 q1 q2=Sz t k q2:=by (try rw [oC]); simp only [bP,h0,cond_true,cond_false]
  rw [q]
  exact af.le (Aw t q0 q1 q2 k (ry t.aa)) (by repeat' (first|exact trivial|refine bV rfl ?_)) (rc (rc (rc (rc (rc .nil))))) rfl (Uy t q0 q1 q2 k _ hk (aJ.refl _))
 ·refine ak (fun h1=>?_) (fun h1=>?_)
  ·have q:bP t q0 q1 q2=SE t k q2:=by (try rw [oC]); simp only [bP,h0,h1,cond_true,cond_false]
   rw [q]
   exact af.le (vr t q0 q1 q2 k (ry t.aa)) (by repeat' (first|exact trivial|refine bV rfl ?_)) (rc (rc (rc (rc (rc .nil))))) rfl (Qf t q0 q1 q2 k _ hk (aJ.refl _))
  ·refine ak (fun h2=>?_) (fun h2=>?_)
   ·have q:bP t q0 q1 q2=QH t k q2:=by (try rw [oC]); simp only [bP,h0,h1,h2,cond_true,cond_false]
    rw [q]
    exact af.le (vo t q0 q1 q2 k (ry t.aa)) (by repeat' (first|exact trivial|refine bV rfl ?_)) (rc (rc (rc (rc (rc .nil))))) rfl (NF t q0 q1 q2 k _ hk (aJ.refl _))
   ·refine ak (fun h3=>?_) (fun h3=>?_)
    ·have q:bP t q0 q1 q2=Td t k q2:=by (try rw [oC]); simp only [bP,h0,h1,h2,h3,cond_true,cond_false]
     rw [q]
     exact af.le (vg t q0 q1 q2 k (ry t.aa)) (by repeat' (first|exact trivial|refine bV rfl ?_)) (rc (rc (rc (rc (rc .nil))))) rfl (M3 t q0 q1 q2 k _ hk (aJ.refl _))
    ·refine ak (fun h4=>?_) (fun h4=>?_)
     ·have q:bP t q0 q1 q2=TF t k q2:=by (try rw [oC]); simp only [bP,h0,h1,h2,h3,h4,cond_true,cond_false]
      rw [q]
      exact af.le (vk t q0 q1 q2 k (ry t.aa)) (by repeat' (first|exact trivial|refine bV rfl ?_)) (rc (rc (rc (rc (rc .nil))))) rfl (Ny t q0 q1 q2 k _ hk (aJ.refl _) hS.aa)
     ·refine ak (fun h5=>?_) (fun h5=>?_)
      ·have q:bP t q0 q1 q2=QZ t k q2:=by (try rw [oC]); simp only [bP,h0,h1,h2,h3,h4,h5,cond_true,cond_false]
       rw [q]
       exact af.le (vI t q0 q1 q2 k (ry t.aa)) (by repeat' (first|exact trivial|refine bV rfl ?_)) (rc (rc (rc (rc (rc .nil))))) rfl (Ph t q0 q1 q2 k _ hk (aJ.refl _))
      ·refine ak (fun h6=>?_) (fun h6=>?_)
       ·have q:bP t q0 q1 q2=Kl t k q2:=by (try rw [oC]); simp only [bP,h0,h1,h2,h3,h4,h5,h6,cond_true,cond_false]
        rw [q]
        refine af.open 2 5 rfl rfl trivial ?_
        exact af.le (vA t q0 q1 q2 k (ry t.aa)) (by repeat' (first|exact trivial|refine bV rfl ?_)) (rc (rc (rc (rc (rc (rc .nil)))))) rfl (O1 t q0 q1 q2 k _ hk (aJ.refl _) (hS.args k hk))
       ·refine ak (fun h7=>?_) (fun h7=>?_)
        ·have q:bP t q0 q1 q2=Qn t k q2:=by (try rw [oC]); simp only [bP,h0,h1,h2,h3,h4,h5,h6,h7,cond_true,cond_false]
         rw [q]
         refine af.open 2 9 rfl rfl trivial ?_
         exact af.le (vC t q0 q1 q2 k (ry t.aa)) (by repeat' (first|exact trivial|refine bV rfl ?_)) (rc (rc (rc (rc (rc (rc .nil)))))) rfl (Oz t q0 q1 q2 k _ hk (aJ.refl _) (hS.names k hk))
        ·refine ak (fun h8=>?_) (fun h8=>?_)
         ·have q:bP t q0 q1 q2=Lb t k q2:=by (try rw [oC]); simp only [bP,h0,h1,h2,h3,h4,h5,h6,h7,h8,cond_true,cond_false]
          rw [q]
          exact af.le (vH t q0 q1 q2 k (ry t.aa)) (by repeat' (first|exact trivial|refine bV rfl ?_)) (rc (rc (rc (rc (rc .nil))))) rfl (N7 t q0 q1 q2 k _ hk (aJ.refl _))
         ·refine ak (fun h9=>?_) (fun h9=>?_)
          ·have q:bP t q0 q1 q2=t:=by (try rw [oC]); simp only [bP,h0,h1,h2,h3,h4,h5,h6,h7,h8,h9,cond_true,cond_false]; unfold Qv; rw [hE]; rfl
           rw [q]
           exact af.le (w7 t q0 q1 q2) (by repeat' (first|exact trivial|refine bV rfl ?_)) (rc (rc (.cons (nT) (rc (rc .nil))))) rfl (Ry t q0 q1 q2)
          ·refine ak (fun nN=>?_) (fun nN=>?_)
           ·have q:bP t q0 q1 q2=t:=by (try rw [oC]); simp only [bP,h0,h1,h2,h3,h4,h5,h6,h7,h8,h9,nN,cond_true,cond_false]; unfold Qv; rw [hE]; rfl
            rw [q]
            exact af.le (xL t q0 q1 q2) (by repeat' (first|exact trivial|refine bV rfl ?_)) (rc (rc (.cons (nT) (rc (rc .nil))))) rfl (RU t q0 q1 q2)
           ·refine ak (fun uP=>?_) (fun uP=>?_)
            ·have q:bP t q0 q1 q2=t:=by (try rw [oC]); simp only [bP,h0,h1,h2,h3,h4,h5,h6,h7,h8,h9,nN,uP,cond_true,cond_false]; unfold Qv; rw [hE]; rfl
             rw [q]
             exact af.le (xK t q0 q1 q2) (by repeat' (first|exact trivial|refine bV rfl ?_)) (rc (rc (.cons (nT) (rc (rc .nil))))) rfl (Tf t q0 q1 q2)
            ·refine ak (fun yX=>?_) (fun yX=>?_)
             ·have q:bP t q0 q1 q2=SK t q2:=by (try rw [oC]); simp only [bP,h0,h1,h2,h3,h4,h5,h6,h7,h8,h9,nN,uP,yX,cond_true,cond_false]
              rw [q]
              exact af.le (vb t q0 q1 q2 (ry t.aa)) (by repeat' (first|exact trivial|refine bV rfl ?_)) (rc (rc (.cons (nT) (rc (rc .nil))))) rfl (Nr t q0 q1 q2 _ hn hS.ins (aJ.refl _))
             ·refine ak (fun LO=>?_) (fun LO=>?_)
              ·have q:bP t q0 q1 q2=Cs t q2:=by (try rw [oC]); simp only [bP,h0,h1,h2,h3,h4,h5,h6,h7,h8,h9,nN,uP,yX,LO,cond_true,cond_false]
               rw [q]
               exact af.le (vm t q0 q1 q2 (ry t.aa)) (by repeat' (first|exact trivial|refine bV rfl ?_)) (rc (rc (.cons (nT) (rc (rc .nil))))) rfl (PX t q0 q1 q2 _ (aJ.refl _))
              ·have q:bP t q0 q1 q2=t:=by (try rw [oC]); simp only [bP,h0,h1,h2,h3,h4,h5,h6,h7,h8,h9,nN,uP,yX,LO,cond_true,cond_false]
               rw [q]
               exact af.le (dZ (t) q0 q1 q2 t.ins.n (gX (t))) (by repeat' (first|exact trivial|refine bV rfl ?_)) (rc (rc (.cons (nT) (rc (rc .nil))))) rfl (eE (t) q0 q1 q2 t.ins.n (gX (t)) (iM (t)))
theorem ae8 (t:ae) (q0 q1 q2:Int) (hS:ed t) (hn:0<t.ins.n) (hF:∀ e,e<t.aa.n→0<(t.aa.get e).frames.n):af 7 0 (aW (bc (bP t q0 q1 q2))) (ag 7 2) (Ob t q0 q1 q2):=by
 have hN:=hS.ins
 have hM:=hS.aa
 have hk:bI t q1<t.ins.n:=(jg q1 t.ins.n hn (by omega)).2.2
 refine aH (X:=kE) (stop:=fb) (Vq _ _ t q0 q1 q2 ?_)
 refine ⟨jO _ _ (by omega),aw (jg q1 t.ins.n hn (by omega)).1 (ak (fun h=>?_) (fun h=>?_))⟩
 ·have hp:0<t.aa.n:=by have:=of_decide_eq_true h; omega
  have he:bE t q1<t.aa.n:=(jg q1 t.aa.n hp (by omega)).2.2
  refine ⟨jO _ _ (by omega),aw (jg q1 t.aa.n hp (by omega)).1 ?_⟩
  refine af.focus 3 (bI t q1) rfl hk (af.focus 4 (bE t q1) rfl he ?_)
  exact af.rename [1,2,3,4,5] rfl (af.le (Hw t q0 q1 q2 (bI t q1) (bE t q1)) (by repeat' (first|exact trivial|refine bV rfl ?_)) (rc (rc (rc (rc (rc .nil))))) rfl (Y3 t q0 q1 q2 hS hn hF _ hk rfl _ he rfl h))
 ·refine af.focus 3 (bI t q1) rfl hk ?_
  exact af.rename [1,2,3,4,5] rfl (af.le (AK t q0 q1 q2 (bI t q1)) (by repeat' (first|exact trivial|refine bV rfl ?_)) (rc (rc (rc (rc (rc .nil))))) rfl (VW t q0 q1 q2 hS hn hF _ hk rfl h))
theorem YF (t:ae) (q0 q1 q2:Int) (hS:ed t) (hn:0<t.ins.n) (hF:∀ e,e<t.aa.n→0<(t.aa.get e).frames.n):LC 7 [bc t,.a [ci q0,ci q1,ci q2]] [] (bc (bP t q0 q1 q2)) []:=
 aU (X:=kE) (stop:=fb) aj4 (bg (by kernel_rfl)) (ap6 _ _ t q0 q1 q2 ⟨cu.E7 (Zs t hS) [] _ rfl rfl,ae8 t q0 q1 q2 hS hn hF⟩)
open Go Go.V
theorem cn {α:Type} {e:α→α→Bool} {x:Sq α} {g:Nat→α}:cr e x ⟨0,g⟩=(x.n==0):=by
 unfold cr
 cases h:x.n==0 with
 | true=>
   have:x.n=0:=by simpa using h
   rw [this]; rfl
 | false=>rfl
theorem cp (x:Sq Int):cr (fun a b=>a==b) x x=true:=by
 unfold cr
 simp [la]
theorem cq (x:Sq ByteArray):cr jL x x=true:=by
 unfold cr
 simp [la,jL]
theorem ej (s:ByteArray):(s==s)=true:=by
 show ByteArray.beq s s=true
 simp [ByteArray.beq]
theorem eo (b:Bool):(bif b then true else false)=b:=by cases b<;>rfl
theorem ZH (a b c n:Int) (args:Sq Int) (kk kn:Int) (ks:ByteArray) (names:Sq ByteArray) (pf pl exit:Int) (once:Bool) (hn:n≤9223372036854775807):a8 ⟨0,a,b,c,n,args,⟨kk,kn,ks⟩,names,⟨pf,pl⟩,exit,once⟩=bo ⟨0,a,b,c,n,args,⟨kk,kn,ks⟩,names,⟨pf,pl⟩,exit,once⟩:=by
 simp [a8,jl,yA,kG,aC,fM,bo,qU,pY,oc,mZ,fN,fj,gR,dv,zeroV,eQ,bF,cK,cn,cp,cq,eo,ej]
 try (rw [fg]; grind)
theorem Yx (a b c n:Int) (args:Sq Int) (kk kn:Int) (ks:ByteArray) (names:Sq ByteArray) (pf pl exit:Int) (once:Bool) (hn:n≤9223372036854775807):a8 ⟨1,a,b,c,n,args,⟨kk,kn,ks⟩,names,⟨pf,pl⟩,exit,once⟩=bo ⟨1,a,b,c,n,args,⟨kk,kn,ks⟩,names,⟨pf,pl⟩,exit,once⟩:=by
 cases hk:(kk==3)<;>cases h1:decide (kn≥0)<;>cases h2:decide (kn≤23)<;>simp only [beq_iff_eq,beq_eq_false_iff_ne,decide_eq_true_eq,decide_eq_false_iff_not] at hk h1 h2
 all_goals
  simp [a8,jl,yA,kG,aC,fM,bo,qU,pY,oc,mZ,fN,fj,gR,dv,zeroV,eQ,bF,cK,hk,h1,h2,cn,cp,cq,eo,ej]
 all_goals try (rw [fg]; grind)
theorem Zy (a b c n:Int) (args:Sq Int) (kk kn:Int) (ks:ByteArray) (names:Sq ByteArray) (pf pl exit:Int) (once:Bool) (hn:n≤9223372036854775807):a8 ⟨2,a,b,c,n,args,⟨kk,kn,ks⟩,names,⟨pf,pl⟩,exit,once⟩=bo ⟨2,a,b,c,n,args,⟨kk,kn,ks⟩,names,⟨pf,pl⟩,exit,once⟩:=by
 simp [a8,jl,yA,kG,aC,fM,bo,qU,pY,oc,mZ,fN,fj,gR,dv,zeroV,eQ,bF,cK,cn,cp,cq,eo,ej]
 try (rw [fg]; grind)
theorem ab3 (a b c n:Int) (args:Sq Int) (kk kn:Int) (ks:ByteArray) (names:Sq ByteArray) (pf pl exit:Int) (once:Bool) (hn:n≤9223372036854775807):a8 ⟨3,a,b,c,n,args,⟨kk,kn,ks⟩,names,⟨pf,pl⟩,exit,once⟩=bo ⟨3,a,b,c,n,args,⟨kk,kn,ks⟩,names,⟨pf,pl⟩,exit,once⟩:=by
 cases h1:(n==3)
 all_goals
  simp only [a8,jl,kG,h1,show ((3:Int)==3)=true from rfl,cond_true,cond_false]
  simp only [beq_iff_eq,beq_eq_false_iff_ne] at h1
  simp [a8,jl,yA,kG,aC,fM,bo,qU,pY,oc,mZ,fN,fj,gR,dv,zeroV,eQ,bF,cK,h1,cn,cp,cq,eo,ej]
 all_goals try (rw [fg]; grind)
theorem ad6 (a b c n:Int) (args:Sq Int) (kk kn:Int) (ks:ByteArray) (names:Sq ByteArray) (pf pl exit:Int) (once:Bool) (hn:n≤9223372036854775807):a8 ⟨4,a,b,c,n,args,⟨kk,kn,ks⟩,names,⟨pf,pl⟩,exit,once⟩=bo ⟨4,a,b,c,n,args,⟨kk,kn,ks⟩,names,⟨pf,pl⟩,exit,once⟩:=by
 simp [a8,jl,yA,kG,aC,fM,bo,qU,pY,oc,mZ,fN,fj,gR,dv,zeroV,eQ,bF,cK,cn,cp,cq,eo,ej]
 try (rw [fg]; grind)
theorem Yd (a b c n:Int) (args:Sq Int) (kk kn:Int) (ks:ByteArray) (names:Sq ByteArray) (pf pl exit:Int) (once:Bool) (hn:n≤9223372036854775807):a8 ⟨5,a,b,c,n,args,⟨kk,kn,ks⟩,names,⟨pf,pl⟩,exit,once⟩=bo ⟨5,a,b,c,n,args,⟨kk,kn,ks⟩,names,⟨pf,pl⟩,exit,once⟩:=by
 simp [a8,jl,yA,kG,aC,fM,bo,qU,pY,oc,mZ,fN,fj,gR,dv,zeroV,eQ,bF,cK,cn,cp,cq,eo,ej]
 try (rw [fg]; grind)
theorem Zm (a b c n:Int) (args:Sq Int) (kk kn:Int) (ks:ByteArray) (names:Sq ByteArray) (pf pl exit:Int) (once:Bool) (hn:n≤9223372036854775807):a8 ⟨6,a,b,c,n,args,⟨kk,kn,ks⟩,names,⟨pf,pl⟩,exit,once⟩=bo ⟨6,a,b,c,n,args,⟨kk,kn,ks⟩,names,⟨pf,pl⟩,exit,once⟩:=by
 simp [a8,jl,yA,kG,aC,fM,bo,qU,pY,oc,mZ,fN,fj,gR,dv,zeroV,eQ,bF,cK,cn,cp,cq,eo,ej]
 try (rw [fg]; grind)
theorem ZO (a b c n:Int) (args:Sq Int) (kk kn:Int) (ks:ByteArray) (names:Sq ByteArray) (pf pl exit:Int) (once:Bool) (hn:n≤9223372036854775807):a8 ⟨7,a,b,c,n,args,⟨kk,kn,ks⟩,names,⟨pf,pl⟩,exit,once⟩=bo ⟨7,a,b,c,n,args,⟨kk,kn,ks⟩,names,⟨pf,pl⟩,exit,once⟩:=by
 cases h1:decide (n≥0)<;>simp only [decide_eq_true_eq,decide_eq_false_iff_not] at h1
 all_goals
  simp [a8,jl,yA,kG,aC,fM,bo,qU,pY,oc,mZ,fN,fj,gR,dv,zeroV,eQ,bF,cK,h1,cn,cp,cq,eo,ej]
 all_goals try (rw [fg]; grind)
theorem Yu (a b c n:Int) (args:Sq Int) (kk kn:Int) (ks:ByteArray) (names:Sq ByteArray) (pf pl exit:Int) (once:Bool) (hn:n≤9223372036854775807):a8 ⟨8,a,b,c,n,args,⟨kk,kn,ks⟩,names,⟨pf,pl⟩,exit,once⟩=bo ⟨8,a,b,c,n,args,⟨kk,kn,ks⟩,names,⟨pf,pl⟩,exit,once⟩:=by
 simp [a8,jl,yA,kG,aC,fM,bo,qU,pY,oc,mZ,fN,fj,gR,dv,zeroV,eQ,bF,cK,cn,cp,cq,eo,ej]
 try (rw [fg]; grind)
theorem ZX (a b c n:Int) (args:Sq Int) (kk kn:Int) (ks:ByteArray) (names:Sq ByteArray) (pf pl exit:Int) (once:Bool) (hn:n≤9223372036854775807):a8 ⟨9,a,b,c,n,args,⟨kk,kn,ks⟩,names,⟨pf,pl⟩,exit,once⟩=bo ⟨9,a,b,c,n,args,⟨kk,kn,ks⟩,names,⟨pf,pl⟩,exit,once⟩:=by
 simp [a8,jl,yA,kG,aC,fM,bo,qU,pY,oc,mZ,fN,fj,gR,dv,zeroV,eQ,bF,cK,cn,cp,cq,eo,ej]
 try (rw [fg]; grind)
theorem WB (a b c n:Int) (args:Sq Int) (kk kn:Int) (ks:ByteArray) (names:Sq ByteArray) (pf pl exit:Int) (once:Bool) (hn:n≤9223372036854775807):a8 ⟨10,a,b,c,n,args,⟨kk,kn,ks⟩,names,⟨pf,pl⟩,exit,once⟩=bo ⟨10,a,b,c,n,args,⟨kk,kn,ks⟩,names,⟨pf,pl⟩,exit,once⟩:=by
 simp [a8,jl,yA,kG,aC,fM,bo,qU,pY,oc,mZ,fN,fj,gR,dv,zeroV,eQ,bF,cK,cn,cp,cq,eo,ej]
 try (rw [fg]; grind)
theorem Wj (a b c n:Int) (args:Sq Int) (kk kn:Int) (ks:ByteArray) (names:Sq ByteArray) (pf pl exit:Int) (once:Bool) (hn:n≤9223372036854775807):a8 ⟨11,a,b,c,n,args,⟨kk,kn,ks⟩,names,⟨pf,pl⟩,exit,once⟩=bo ⟨11,a,b,c,n,args,⟨kk,kn,ks⟩,names,⟨pf,pl⟩,exit,once⟩:=by
 simp [a8,jl,yA,kG,aC,fM,bo,qU,pY,oc,mZ,fN,fj,gR,dv,zeroV,eQ,bF,cK,cn,cp,cq,eo,ej]
 try (rw [fg]; grind)
theorem WD (a b c n:Int) (args:Sq Int) (kk kn:Int) (ks:ByteArray) (names:Sq ByteArray) (pf pl exit:Int) (once:Bool) (hn:n≤9223372036854775807):a8 ⟨12,a,b,c,n,args,⟨kk,kn,ks⟩,names,⟨pf,pl⟩,exit,once⟩=bo ⟨12,a,b,c,n,args,⟨kk,kn,ks⟩,names,⟨pf,pl⟩,exit,once⟩:=by
 simp [a8,jl,yA,kG,aC,fM,bo,qU,pY,oc,mZ,fN,fj,gR,dv,zeroV,eQ,bF,cK,cn,cp,cq,eo,ej]
 try (rw [fg]; grind)
theorem Vw (a b c n:Int) (args:Sq Int) (kk kn:Int) (ks:ByteArray) (names:Sq ByteArray) (pf pl exit:Int) (once:Bool) (hn:n≤9223372036854775807):a8 ⟨13,a,b,c,n,args,⟨kk,kn,ks⟩,names,⟨pf,pl⟩,exit,once⟩=bo ⟨13,a,b,c,n,args,⟨kk,kn,ks⟩,names,⟨pf,pl⟩,exit,once⟩:=by
 simp [a8,jl,yA,kG,aC,fM,bo,qU,pY,oc,mZ,fN,fj,gR,dv,zeroV,eQ,bF,cK,cn,cp,cq,eo,ej]
 try (rw [fg]; grind)
theorem WQ (a b c n:Int) (args:Sq Int) (kk kn:Int) (ks:ByteArray) (names:Sq ByteArray) (pf pl exit:Int) (once:Bool) (hn:n≤9223372036854775807):a8 ⟨14,a,b,c,n,args,⟨kk,kn,ks⟩,names,⟨pf,pl⟩,exit,once⟩=bo ⟨14,a,b,c,n,args,⟨kk,kn,ks⟩,names,⟨pf,pl⟩,exit,once⟩:=by
 simp [a8,jl,yA,kG,aC,fM,bo,qU,pY,oc,mZ,fN,fj,gR,dv,zeroV,eQ,bF,cK,cn,cp,cq,eo,ej]
 try (rw [fg]; grind)
theorem V1 (a b c n:Int) (args:Sq Int) (kk kn:Int) (ks:ByteArray) (names:Sq ByteArray) (pf pl exit:Int) (once:Bool) (hn:n≤9223372036854775807):a8 ⟨15,a,b,c,n,args,⟨kk,kn,ks⟩,names,⟨pf,pl⟩,exit,once⟩=bo ⟨15,a,b,c,n,args,⟨kk,kn,ks⟩,names,⟨pf,pl⟩,exit,once⟩:=by
 simp [a8,jl,yA,kG,aC,fM,bo,qU,pY,oc,mZ,fN,fj,gR,dv,zeroV,eQ,bF,cK,cn,cp,cq,eo,ej]
 try (rw [fg]; grind)
theorem Vf (a b c n:Int) (args:Sq Int) (kk kn:Int) (ks:ByteArray) (names:Sq ByteArray) (pf pl exit:Int) (once:Bool) (hn:n≤9223372036854775807):a8 ⟨16,a,b,c,n,args,⟨kk,kn,ks⟩,names,⟨pf,pl⟩,exit,once⟩=bo ⟨16,a,b,c,n,args,⟨kk,kn,ks⟩,names,⟨pf,pl⟩,exit,once⟩:=by
 cases h1:decide (n≥0)<;>simp only [decide_eq_true_eq,decide_eq_false_iff_not] at h1
 all_goals
  simp [a8,jl,yA,kG,aC,fM,bo,qU,pY,oc,mZ,fN,fj,gR,dv,zeroV,eQ,bF,cK,h1,cn,cp,cq,eo,ej]
 all_goals try (rw [fg]; grind)
theorem VN (a b c n:Int) (args:Sq Int) (kk kn:Int) (ks:ByteArray) (names:Sq ByteArray) (pf pl exit:Int) (once:Bool) (hn:n≤9223372036854775807):a8 ⟨17,a,b,c,n,args,⟨kk,kn,ks⟩,names,⟨pf,pl⟩,exit,once⟩=bo ⟨17,a,b,c,n,args,⟨kk,kn,ks⟩,names,⟨pf,pl⟩,exit,once⟩:=by
 cases h1:decide (n≥0)<;>simp only [decide_eq_true_eq,decide_eq_false_iff_not] at h1
 all_goals
  simp [a8,jl,yA,kG,aC,fM,bo,qU,pY,oc,mZ,fN,fj,gR,dv,zeroV,eQ,bF,cK,h1,cn,cp,cq,eo,ej]
 all_goals try (rw [fg]; grind)
theorem Xa (a b c n:Int) (args:Sq Int) (kk kn:Int) (ks:ByteArray) (names:Sq ByteArray) (pf pl exit:Int) (once:Bool) (hn:n≤9223372036854775807):a8 ⟨18,a,b,c,n,args,⟨kk,kn,ks⟩,names,⟨pf,pl⟩,exit,once⟩=bo ⟨18,a,b,c,n,args,⟨kk,kn,ks⟩,names,⟨pf,pl⟩,exit,once⟩:=by
 simp [a8,jl,yA,kG,aC,fM,bo,qU,pY,oc,mZ,fN,fj,gR,dv,zeroV,eQ,bF,cK,cn,cp,cq,eo,ej]
 try (rw [fg]; grind)
theorem Vt (a b c n:Int) (args:Sq Int) (kk kn:Int) (ks:ByteArray) (names:Sq ByteArray) (pf pl exit:Int) (once:Bool) (hn:n≤9223372036854775807):a8 ⟨19,a,b,c,n,args,⟨kk,kn,ks⟩,names,⟨pf,pl⟩,exit,once⟩=bo ⟨19,a,b,c,n,args,⟨kk,kn,ks⟩,names,⟨pf,pl⟩,exit,once⟩:=by
 cases h1:decide (pf≥0)<;>simp only [decide_eq_true_eq,decide_eq_false_iff_not] at h1
 all_goals
  simp [a8,jl,yA,kG,aC,fM,bo,qU,pY,oc,mZ,fN,fj,gR,dv,zeroV,eQ,bF,cK,h1,cn,cp,cq,eo,ej]
 all_goals try (rw [fg]; grind)
theorem Xs (a b c n:Int) (args:Sq Int) (kk kn:Int) (ks:ByteArray) (names:Sq ByteArray) (pf pl exit:Int) (once:Bool) (hn:n≤9223372036854775807):a8 ⟨20,a,b,c,n,args,⟨kk,kn,ks⟩,names,⟨pf,pl⟩,exit,once⟩=bo ⟨20,a,b,c,n,args,⟨kk,kn,ks⟩,names,⟨pf,pl⟩,exit,once⟩:=by
 simp [a8,jl,yA,kG,aC,fM,bo,qU,pY,oc,mZ,fN,fj,gR,dv,zeroV,eQ,bF,cK,cn,cp,cq,eo,ej]
 try (rw [fg]; grind)
theorem WL (a b c n:Int) (args:Sq Int) (kk kn:Int) (ks:ByteArray) (names:Sq ByteArray) (pf pl exit:Int) (once:Bool) (hn:n≤9223372036854775807):a8 ⟨21,a,b,c,n,args,⟨kk,kn,ks⟩,names,⟨pf,pl⟩,exit,once⟩=bo ⟨21,a,b,c,n,args,⟨kk,kn,ks⟩,names,⟨pf,pl⟩,exit,once⟩:=by
 simp [a8,jl,yA,kG,aC,fM,bo,qU,pY,oc,mZ,fN,fj,gR,dv,zeroV,eQ,bF,cK,cn,cp,cq,eo,ej]
 try (rw [fg]; grind)
open Go Go.V
theorem Mk (x:aj) (hn:x.n≤9223372036854775807):a8 x=bo x:=by
 obtain ⟨op,a,b,c,n,args,⟨kk,kn,ks⟩,names,⟨pf,pl⟩,exit,once⟩:=x
 by_cases h:0≤op∧op≤21
 ·have:op=0∨op=1∨op=2∨op=3∨op=4∨op=5∨op=6∨op=7∨op=8∨op=9∨op=10∨op=11∨op=12∨op=13∨op=14∨op=15∨op=16∨op=17∨op=18∨op=19∨op=20∨op=21:=by omega
  rcases this with rfl|rfl|rfl|rfl|rfl|rfl|rfl|rfl|rfl|rfl|rfl|rfl|rfl|rfl|rfl|rfl|rfl|rfl|rfl|rfl|rfl|rfl
  ·exact ZH a b c n args kk kn ks names pf pl exit once hn
  ·exact Yx a b c n args kk kn ks names pf pl exit once hn
  ·exact Zy a b c n args kk kn ks names pf pl exit once hn
  ·exact ab3 a b c n args kk kn ks names pf pl exit once hn
  ·exact ad6 a b c n args kk kn ks names pf pl exit once hn
  ·exact Yd a b c n args kk kn ks names pf pl exit once hn
  ·exact Zm a b c n args kk kn ks names pf pl exit once hn
  ·exact ZO a b c n args kk kn ks names pf pl exit once hn
  ·exact Yu a b c n args kk kn ks names pf pl exit once hn
  ·exact ZX a b c n args kk kn ks names pf pl exit once hn
  ·exact WB a b c n args kk kn ks names pf pl exit once hn
  ·exact Wj a b c n args kk kn ks names pf pl exit once hn
  ·exact WD a b c n args kk kn ks names pf pl exit once hn
  ·exact Vw a b c n args kk kn ks names pf pl exit once hn
  ·exact WQ a b c n args kk kn ks names pf pl exit once hn
  ·exact V1 a b c n args kk kn ks names pf pl exit once hn
  ·exact Vf a b c n args kk kn ks names pf pl exit once hn
  ·exact VN a b c n args kk kn ks names pf pl exit once hn
  ·exact Xa a b c n args kk kn ks names pf pl exit once hn
  ·exact Vt a b c n args kk kn ks names pf pl exit once hn
  ·exact Xs a b c n args kk kn ks names pf pl exit once hn
  ·exact WL a b c n args kk kn ks names pf pl exit once hn
 ·have h1:dv op 0 21=false:=by
   unfold dv
   cases h2:decide (op≥0) with
   | false=>rfl
   | true=>
     have h2:=of_decide_eq_true h2
     exact decide_eq_false fun h3=>h ⟨h2,h3⟩
  have h2:(decide (op<0)||decide (op>21))=true:=by
   rw [Bool.or_eq_true,decide_eq_true_eq,decide_eq_true_eq]
   omega
  have h3:a8 ⟨op,a,b,c,n,args,⟨kk,kn,ks⟩,names,⟨pf,pl⟩,exit,once⟩=false:=by
   unfold a8 jl
   rw [show dv (aj.mk op a b c n args ⟨kk,kn,ks⟩ names ⟨pf,pl⟩ exit once).op 0 21=false from h1,Bool.false_and,Bool.and_false]
  have h4:bo ⟨op,a,b,c,n,args,⟨kk,kn,ks⟩,names,⟨pf,pl⟩,exit,once⟩=false:=by
   unfold bo qU
   show (!(decide (op<0)||(decide (op>21)||_))&&_)=false
   rw [← Bool.or_assoc,h2,Bool.true_or]
   rfl
  rw [h3,h4]
theorem WJ (op:Int):(jN op==0) = !sR op:=by
 by_cases h:0≤op∧op≤21
 ·have:op=0∨op=1∨op=2∨op=3∨op=4∨op=5∨op=6∨op=7∨op=8∨op=9∨op=10∨op=11∨op=12∨op=13∨op=14∨op=15∨op=16∨op=17∨op=18∨op=19∨op=20∨op=21:=by omega
  rcases this with rfl|rfl|rfl|rfl|rfl|rfl|rfl|rfl|rfl|rfl|rfl|rfl|rfl|rfl|rfl|rfl|rfl|rfl|rfl|rfl|rfl|rfl<;>rfl
 ·have e:∀ c:Int,0≤c→c≤21→(op==c)=false:=fun c h1 h2=>by
   simp only [beq_eq_false_iff_ne]; omega
  simp [jN,sR,cC,e]
theorem S5 (op:Int):(jN op==2)=cC op [5,6,7,8,9,15,18,21]:=by
 by_cases h:0≤op∧op≤21
 ·have:op=0∨op=1∨op=2∨op=3∨op=4∨op=5∨op=6∨op=7∨op=8∨op=9∨op=10∨op=11∨op=12∨op=13∨op=14∨op=15∨op=16∨op=17∨op=18∨op=19∨op=20∨op=21:=by omega
  rcases this with rfl|rfl|rfl|rfl|rfl|rfl|rfl|rfl|rfl|rfl|rfl|rfl|rfl|rfl|rfl|rfl|rfl|rfl|rfl|rfl|rfl|rfl<;>rfl
 ·have e:∀ c:Int,0≤c→c≤21→(op==c)=false:=fun c h1 h2=>by
   simp only [beq_eq_false_iff_ne]; omega
  simp [jN,cC,e]
theorem VZ (op:Int):CV op=cC op [2,3,4,5,6,7,8,9,10,12,14]:=by
 simp [CV,cC]
theorem Xr (t:ae) (k:Nat) (hn:(t.ins.get k).n≤9223372036854775807):(a6 t k&&(a12 t k&&(Lj t k&&a20 t k)))=(b3 t k&&(b7 t k&&(b9 t k&&(Ow t k&&Lj t k)))):=by
 unfold a6 a12 a20 b3 b7 b9 Ow
 rw [Mk _ hn,WJ,S5,VZ]
 generalize (pC (t.ins.get k)!=((k:Int)==(t.ins.n:Int)-1))=q1
 generalize ((t.ins.get k).op==1)=q2
 generalize decide ((k:Int)≥(js t.ins:Int))=q3
 generalize bo (t.ins.get k)=q4
 generalize (decide ((k:Int)>0)&&decide ((t.ins.get k).k.n≤(t.ins.get (k-1)).k.n))=q5
 generalize (!((t.ins.get k).op==20&&(((t.ins.get k).args.n:Int)!=(js t.ins:Int))))=q6
 generalize Lj t k=q7
 generalize (!((t.ins.get k).once && !cC (t.ins.get k).op [2,3,4,5,6,7,8,9,10,12,14]))=q8
 generalize (!decide ((t.ins.get k).exit < -1)&&(!decide ((t.ins.get k).exit≥(t.aa.n:Int))&&(!(decide ((t.ins.get k).exit≥0) && !sR (t.ins.get k).op) && !(decide ((t.ins.get k).exit<0)&&cC (t.ins.get k).op [5,6,7,8,9,15,18,21]))))=q9
 revert q1 q2 q3 q4 q5 q6 q7 q8 q9
 decide
theorem We (t:ae) (l:List Int) (k:Nat) (hn:(t.ins.get k).n≤9223372036854775807) (hl:∀ i:Nat,er (i:Int) l=cm t k i):(o3 t l k).1=jV t k∧((o3 t l k).1=true→∀ i:Nat,er (i:Int) (o3 t l k).2=cm t (k+1) i):=by
 have e1:jV t k=((a6 t k&&(a12 t k&&(Lj t k&&a20 t k)))&&Dp t k):=by
  unfold jV
  generalize a6 t k=q1
  generalize a12 t k=q2
  generalize Lj t k=q3
  generalize a20 t k=q4
  generalize Dp t k=q5
  revert q1 q2 q3 q4 q5
  decide
 have e2:o3 t l k=bif (b3 t k&&(b7 t k&&(b9 t k&&(Ow t k&&Lj t k)))) then NS t l k else (false,l):=by
  unfold o3 o7 o9 KM ZN
  cases b3 t k<;>cases b7 t k<;>cases b9 t k<;>cases Ow t k<;>cases Lj t k<;>rfl
 rw [e1,e2,Xr t k hn]
 cases hp:(b3 t k&&(b7 t k&&(b9 t k&&(Ow t k&&Lj t k)))) with
 | false=>exact ⟨rfl,fun h=>by cases h⟩
 | true=>
   simp only [cond_true,Bool.true_and]
   unfold NS Dp
   cases h0:decide ((t.ins.get k).exit<0) with
   | true=>
     have h1:=of_decide_eq_true h0
     have h2:decide ((t.ins.get k).exit≥0)=false:=decide_eq_false (by omega)
     rw [h2]
     refine ⟨rfl,fun _ i=>?_⟩
     simp only [cond_true]
     rw [lQ,hl,show ((t.ins.get k).exit==(i:Int))=false from by simp only [beq_eq_false_iff_ne]; omega,Bool.or_false]
   | false=>
     have h1:=of_decide_eq_false h0
     have h2:decide ((t.ins.get k).exit≥0)=true:=decide_eq_true (by omega)
     rw [h2]
     obtain ⟨m,hm⟩:=Int.eq_ofNat_of_zero_le (show 0≤(t.ins.get k).exit by omega)
     simp only [cond_false,Bool.not_true,Bool.false_or]
     rw [hm,hl,Int.toNat_natCast]
     cases ht:cm t k m with
     | true=>exact ⟨rfl,fun h=>by cases h⟩
     | false=>
       simp only [cond_false,Bool.not_false,Bool.true_and]
       refine ⟨(Xb t _ _).symm,fun _ i=>?_⟩
       rw [zE,hl,lQ,hm,int_eq,int_eq]
       congr 1
       rw [fg,beq_iff_eq,beq_iff_eq]
       exact eq_comm
theorem Jg (t:ae) (hn:∀ k,k<t.ins.n→(t.ins.get k).n≤9223372036854775807):∀ (m k:Nat) (l:List Int),k+m≤t.ins.n→(∀ i:Nat,er (i:Int) l=cm t k i)→xn t m k l=bS (jV t) m k
 | 0,k,l,_,_=>rfl
 | m+1,k,l,hk,hl=>by
   obtain ⟨h1,h2⟩:=We t l k (hn k (by omega)) hl
   show (bif (o3 t l k).1 then xn t m (k+1) (o3 t l k).2 else false)=(bif jV t k then bS (jV t) m (k+1) else false)
   rw [← h1]
   cases h:(o3 t l k).1 with
   | false=>rfl
   | true=>exact Jg t hn m (k+1) _ (by omega) (h2 h)
theorem Mm (t:ae) (hn:∀ k,k<t.ins.n→(t.ins.get k).n≤9223372036854775807):eO t=eu t:=by
 unfold eO eu gA
 rw [Jg t hn t.ins.n 0 [] (by omega) (fun i=>by simp [er,cm,dn,bS])]
 rfl
theorem tP {t:ae} {k:Nat} (h:jV t k=true):∀ j,j<(aC (t.ins.get k)).n→dC t ((aC (t.ins.get k)).get j) k=true:=by
 intro j hj
 unfold jV Lj at h
 simp only [dz] at h
 have:=la.1 h.2.2.1 j hj
 unfold u16 at this
 simp only [dz] at this
 exact this.1
theorem tZ {t:ae} (h:eu t=0):∀ k,k<t.ins.n→jV t k=true:=by
 unfold eu at h
 have hb:gA t=true:=by
  revert h
  cases decide ((t.ins.n:Int)>200)<;>cases decide ((t.aa.n:Int)>60)<;>cases gA t<;>simp
 unfold gA at hb
 rw [dz] at hb
 exact la.1 hb.2
open Go Go.V
section
def ou (x y:aj):Bool:=bif y.op==11 then y.n==x.n else false
def tG (y:aj):Bool:=y.op==13
def rPt (x:I):aj:=match x with
 | .pt _ g=>jo g
 | _=>jo fun _=>.v (.bool false)
def fG (x:I):Nat→Bool:=match x with
 | .pt _ g=>match g 0 with
   | .sl _ _ get=>fun i=>UP (get i 0)
   | _=>fun _=>false
 | _=>fun _=>false
def qQ (p:Nat→Bool) (n:Nat):Bool:=decide (cU p n≥0)
def kl (t:ae) (x:aj):Bool := !qQ (fun i=>ou x (t.ins.get i)) t.ins.n
def nY (t:ae):Bool := !qQ (fun i=>tG (t.ins.get i)) t.ins.n
def yU (f:Nat) (cap:Nat→I) (s:Sq aj):Int:=bif Nat.beq f 125 then cU (fun i=>ou (rPt (cap 0)) (s.get i)) s.n else cU (fun i=>tG (s.get i)) s.n
def A58 (ds:List D):D:=match aD ds 1 with
 | .c (.im (.fn f _ cap))=>int (yU f cap (Ic jo (gD (aD ds 0) 0)))
 | _=>.t []
def A74 (ds:List D):D:=match aD ds 1 with
 | .c (.im (.fn f _ cap))=>bool (decide (yU f cap (Ic jo (gD (aD ds 0) 0))≥0))
 | _=>.t []
def A33 (ds:List D):D:=match aD ds 1 with
 | .c (.im x)=>bool (!fG x (aI ds 0).toNat)
 | _=>.t []
def A56 (ds:List D):D:=match aD ds 0,aD ds 1 with
 | .c (.im (.sl _ n get)),.c (.im (.fn _ _ cap))=>int (cU (fun i => !fG (cap 0) (rI (get i)).toNat) n)
 | _,_=>.t []
def A32 (ds:List D):D:=match aD ds 0,aD ds 1 with
 | .c (.im (.sl _ n get)),.c (.im (.fn _ _ cap))=>bool (decide (cU (fun i => !fG (cap 0) (rI (get i)).toNat) n≥0))
 | _,_=>.t []
def IE (t:ae) (x:aj) (i:Nat):Bool:=(x.op==10&&((t.ins.get i).op==11&&(t.ins.get i).n==x.n))||(x.op==12&&(t.ins.get i).op==13)
def FHL:CA:=[
 (29,fun ds rs=>(int (eO (gj ds 0)),[],[])),
 (38,fun ds rs=>(int (eu (gj ds 0)),[],[])),
 (33,fun ds rs=>(A33 ds,[],[])),
 (127,fun ds rs=>(bool (tG (si ds 0)),[],[])),
 (56,fun ds rs=>(A56 ds,[],[])),
 (32,fun ds rs=>(A32 ds,[],[])),
 (58,fun ds rs=>(A58 ds,[],[])),
 (74,fun ds rs=>(A74 ds,[],[])),
 (123,fun ds rs=>(bool true,[],[])),
 (124,fun ds rs=>(bool (kl (gj ds 0) (si ds 1)),[],[])),
 (126,fun ds rs=>(bool (nY (gj ds 0)),[],[])),
 (39,fun ds rs=>(bool (qQ (IE (gj ds 0) (si ds 1)) (gj ds 0).ins.n),[],[]))]
def ao8 (ds:List D):D:=match ds with
 | [_,.c (.im x)]=>bool (ou (rPt x) (si ds 0))
 | _=>.t []
def FH:FuncId→List D→List ah→Out:=ext Qr ((125,fun ds _=>(ao8 ds,[],[]))::FHL)
def XH:hX:={ F:=FH }
end
def UO:Nat→Bool:=cw
theorem af2:Fn 33:=⟨by kernel_rfl,by kernel_rfl⟩
theorem ZP (L:LP) (QD:D→Prop) (n:Int) (o:Nat→Bool) (m:Nat) (h:nd (cd n m) (QD (bool (!o n.toNat)))):fS XH 33 UO L (aZ QD) [int n,.c (.im (.pt 1 fun _=>.sl 1 m fun i _=>iB (o i)))] []:=Eq.mp (by kernel_rfl) h
theorem Ws (n:Int) (o:Nat→Bool) (m:Nat) (h:cd n m=true):LC 33 [int n,.c (.im (.pt 1 fun _=>.sl 1 m fun i _=>iB (o i)))] [] (bool (!o n.toNat)) []:=
 aU (X:=XH) (stop:=UO) af2 (bg (by kernel_rfl)) (ZP _ _ n o m (aw h (aX.refl _)))
def P8:Nat→Bool:=cw
theorem Wx:Fn 125:=⟨by kernel_rfl,by kernel_rfl⟩
theorem WE (L:LP) (QD:D→Prop) (x y:aj) (h:br (y.1==11) (QD (bool (y.5==x.5))) (QD (bool false))):fS XH 125 P8 L (aZ QD) [gT y,.c (.im (.pt 14 (cy x)))] []:=Eq.mp (by kernel_rfl) h
theorem RH (x y:aj):LC 125 [gT y,.c (.im (.pt 14 (cy x)))] [] (bool (ou x y)) []:=by
 refine aU (X:=XH) (stop:=P8) Wx (bg (by kernel_rfl)) (WE _ _ x y ?_)
 refine ak (fun h=>?_) (fun h=>?_)
 ·rw [show ou x y=(y.n==x.n) from by simp only [ou,show (y.op==11)=true from h,cond_true]]; exact aX.refl _
 ·rw [show ou x y=false from by simp only [ou,show (y.op==11)=false from h,cond_false]]; exact aX.refl _
def PE:Nat→Bool:=cw
theorem VL:Fn 127:=⟨by kernel_rfl,by kernel_rfl⟩
theorem VY (L:LP) (QD:D→Prop) (y:aj) (h:QD (bool (y.1==13))):fS XH 127 PE L (aZ QD) [gT y] []:=Eq.mp (by kernel_rfl) h
theorem Rv (y:aj):LC 127 [gT y] [] (bool (tG y)) []:=
 aU (X:=XH) (stop:=PE) VL (bg (by kernel_rfl)) (VY _ _ y (aX.refl _))
def NW:Nat→Bool:=cw
theorem XA:Fn 123:=⟨by kernel_rfl,by kernel_rfl⟩
theorem XE (L:LP) (QD:D→Prop) (t:ae) (x:aj) (h:QD (bool true)):fS XH 123 NW L (aZ QD) [bc t,gT x] []:=Eq.mp (by kernel_rfl) h
theorem fp (t:ae) (x:aj):LC 123 [bc t,gT x] [] (bool true) []:=
 aU (X:=XH) (stop:=NW) XA (bg (by kernel_rfl)) (XE _ _ t x (aX.refl _))
def Fe:Nat→Bool:=fun i=>Nat.beq i 2
theorem UC:Fn 56:=⟨by kernel_rfl,by kernel_rfl⟩
theorem YQ (L:LP) (QD:D→Prop) (x:Sq Int) (o:Nat→Bool) (m:Nat) (h:L (ag 56 2) ⟨[(s8 x),(1,((.c (.im (.fn 33 1 (fun x=>I.pt 1 fun x=>I.sl 1 m fun i x=>iB (o i))))),[])),(7,((qG x),[])),oN],[],[]⟩):fS XH 56 Fe L (aZ QD) [eT 1 b8 x,.c (.im (.fn 33 1 fun _=>.pt 1 fun _=>.sl 1 m fun i _=>iB (o i)))] []:=Eq.mp (by kernel_rfl) h
def JJ (x:Sq Int) (o:Nat→Bool) (m:Nat) (k:Nat):VS:=⟨[(0,(mE x),[]),(1,(.c (.im (.fn 33 1 (fun x=>I.pt 1 fun x=>I.sl 1 m fun i x=>iB (o i))))),[]),(7,(qG x),[]),(8,int k,[])],[],[]⟩
theorem IG (L:LP) (QD:D→Prop) (x:Sq Int) (o:Nat→Bool) (m:Nat) (k:Nat) (h:br (decide ((↑k:Int)<(↑x.1:Int))) (nd (cd (↑k:Int) x.1) ((LC 33 [(int (x.2 k)),(.c (.im (.pt 1 (fun x=>I.sl 1 m fun i x=>iB (o i)))))] [] (bool (!fG (I.pt 1 fun x=>I.sl 1 m fun i x=>iB (o i)) (x.2 k).toNat)) []∧br (!fG (I.pt 1 fun x=>I.sl 1 m fun i x=>iB (o i)) (x.2 k).toNat) (QD (int (↑k:Int))) (L (ag 56 2) ⟨[(s8 x),(1,((.c (.im (.fn 33 1 (fun x=>I.pt 1 fun x=>I.sl 1 m fun i x=>iB (o i))))),[])),(7,((qG x),[])),(8,((int (IntKind.i64.wrap ((↑k:Int)+1))),[]))],[],[]⟩)))) (QD (int (-1)))):dq XH 56 Fe L (aZ QD) 2 (JJ x o m k):=Eq.mp (by kernel_rfl) h
theorem Zb (x:Sq Int) (o:Nat→Bool) (m:Nat) (hm:∀ i,i<x.n→cd (x.get i) m=true) (a:Int) (hx:x.n≤maxLen):∀ k,k≤x.n→gu (fun i => !o (x.get i).toNat) (x.n-k) k=a→af 56 0 (aW (int a)) (ag 56 2) (JJ x o m k):=by
 refine aL (fun k hk ih ha=>?_) (fun ha=>?_)
 ·have e:x.n-k=(x.n-(k+1))+1:=by omega
  rw [e] at ha
  refine aH (X:=XH) (stop:=Fe) (IG _ _ x o m k ?_)
  refine ak (fun h=>?_) (fun h=>(dec_lt h hk).elim)
  refine aw (aA hk) ⟨Ws _ _ _ (hm k hk),?_⟩
  refine ak (fun h1=>?_) (fun h1=>?_)
  ·rw [gY (p:=fun i => !o (x.get i).toNat) h1] at ha
   subst ha
   exact aX.refl _
  ·rw [fI (p:=fun i => !o (x.get i).toNat) h1] at ha
   rw [bR hk hx]
   exact ih ha
 ·rw [Nat.sub_self] at ha
  refine aH (X:=XH) (stop:=Fe) (IG _ _ x o m _ ?_)
  refine ak (fun h=>?_) (fun h=>?_)
  ·exact bJ h
  ·subst ha
   exact aX.refl _
theorem WA (x:Sq Int) (o:Nat→Bool) (m:Nat) (hm:∀ i,i<x.n→cd (x.get i) m=true):LC 56 [eT 1 b8 x,.c (.im (.fn 33 1 fun _=>.pt 1 fun _=>.sl 1 m fun i _=>iB (o i)))] [] (int (cU (fun i => !o (x.get i).toNat) x.n)) []:=
 cu.with UC (p:=x.n≤maxLen) (fun E av w vs h=>by cases h with|cons q _=>exact jc q) fun hx=>
  aU (X:=XH) (stop:=Fe) UC (bg (by kernel_rfl)) (YQ _ _ x o m (Zb x o m hm _ hx 0 (bu _) rfl))
def UE:Nat→Bool:=cw
theorem ac3:Fn 32:=⟨by kernel_rfl,by kernel_rfl⟩
theorem ZQ (L:LP) (QD:D→Prop) (x:Sq Int) (o:Nat→Bool) (m:Nat) (h:(LC 56 [(mE x),(.c (.im (.fn 33 1 (fun x=>I.pt 1 fun x=>I.sl 1 m fun i x=>iB (o i)))))] [] (int (cU (fun i => !fG (I.pt 1 fun x=>I.sl 1 m fun i x=>iB (o i)) (x.2 i).toNat) x.1)) []∧QD (bool (decide (cU (fun i => !fG (I.pt 1 fun x=>I.sl 1 m fun i x=>iB (o i)) (x.2 i).toNat) x.1≥0))))):fS XH 32 UE L (aZ QD) [eT 1 b8 x,.c (.im (.fn 33 1 fun _=>.pt 1 fun _=>.sl 1 m fun i _=>iB (o i)))] []:=Eq.mp (by kernel_rfl) h
theorem G6 (x:Sq Int) (o:Nat→Bool) (m:Nat) (hm:∀ i,i<x.n→cd (x.get i) m=true):LC 32 [eT 1 b8 x,.c (.im (.fn 33 1 fun _=>.pt 1 fun _=>.sl 1 m fun i _=>iB (o i)))] [] (bool (qQ (fun i => !o (x.get i).toNat) x.n)) []:=
 aU (X:=XH) (stop:=UE) ac3 (bg (by kernel_rfl)) (ZQ _ _ x o m ⟨WA x o m hm,aX.refl _⟩)
def qb:Nat→Bool:=fun i=>Nat.beq i 2
theorem JS:Fn 58:=⟨by kernel_rfl,by kernel_rfl⟩
abbrev BS (ax:aj):D:=.c (.im (.fn 125 1 (fun x_1=>I.pt 14 (cy ax))))
theorem ae1 (L:LP) (QD:D→Prop) (s:Sq aj) (x:aj) (h:L (ag 58 2) ⟨[(sU s),(1,((BS x),[])),(tM s),oN],[],[]⟩):fS XH 58 qb L (aZ QD) [eT 14 cy s,.c (.im (.fn 125 1 fun _=>.pt 14 (cy x)))] []:=Eq.mp (by kernel_rfl) h
def IZ (s:Sq aj) (x:aj) (k:Nat):VS:=⟨[(0,(Ac s),[]),(1,(BS x),[]),(7,(ep s),[]),(8,int k,[])],[],[]⟩
theorem Ip (L:LP) (QD:D→Prop) (s:Sq aj) (x:aj) (k:Nat) (h:br (decide ((↑k:Int)<(↑s.1:Int))) (nd (cd (↑k:Int) s.1) ((LC 125 [(.a (lift (aT (s.2 k)))),(.c (.im (.pt 14 (cy x))))] [] (bool (ou (rPt (I.pt 14 (cy x))) (s.2 k))) []∧br (ou (rPt (I.pt 14 (cy x))) (s.2 k)) (QD (int (↑k:Int))) (L (ag 58 2) ⟨[(sU s),(1,((BS x),[])),(tM s),(8,((int (IntKind.i64.wrap ((↑k:Int)+1))),[]))],[],[]⟩)))) (QD (int (-1)))):dq XH 58 qb L (aZ QD) 2 (IZ s x k):=Eq.mp (by kernel_rfl) h
theorem ad7 (s:Sq aj) (x:aj) (a:Int) (hx:s.n≤maxLen):∀ k,k≤s.n→gu (fun i=>ou x (s.get i)) (s.n-k) k=a→af 58 0 (aW (int a)) (ag 58 2) (IZ s x k):=by
 refine aL (fun k hk ih ha=>?_) (fun ha=>?_)
 ·have e:s.n-k=(s.n-(k+1))+1:=by omega
  rw [e] at ha
  refine aH (X:=XH) (stop:=qb) (Ip _ _ s x k ?_)
  refine ak (fun h=>?_) (fun h=>(dec_lt h hk).elim)
  refine aw (aA hk) ⟨RH _ _,?_⟩
  refine ak (fun h1=>?_) (fun h1=>?_)
  ·rw [gY (p:=fun i=>ou x (s.get i)) h1] at ha
   subst ha
   exact aX.refl _
  ·rw [fI (p:=fun i=>ou x (s.get i)) h1] at ha
   rw [bR hk hx]
   exact ih ha
 ·rw [Nat.sub_self] at ha
  refine aH (X:=XH) (stop:=qb) (Ip _ _ s x _ ?_)
  refine ak (fun h=>?_) (fun h=>?_)
  ·exact bJ h
  ·subst ha
   exact aX.refl _
theorem XD (s:Sq aj) (x:aj):LC 58 [eT 14 cy s,.c (.im (.fn 125 1 fun _=>.pt 14 (cy x)))] [] (int (cU (fun i=>ou x (s.get i)) s.n)) []:=
 cu.with JS (p:=s.n≤maxLen) (fun E av w vs h=>by cases h with|cons q _=>exact jc q) fun hx=>
  aU (X:=XH) (stop:=qb) JS (bg (by kernel_rfl)) (ae1 _ _ s x (ad7 s x _ hx 0 (bu _) rfl))
abbrev BZ:D:=.c (.im (.fn 127 0 (fun x=>I.v (Value.bool false))))
theorem Wz (L:LP) (QD:D→Prop) (s:Sq aj) (h:L (ag 58 2) ⟨[(sU s),(1,(BZ,[])),(tM s),oN],[],[]⟩):fS XH 58 qb L (aZ QD) [eT 14 cy s,.c (.im (.fn 127 0 fun _=>.v (.bool false)))] []:=Eq.mp (by kernel_rfl) h
def Ea (s:Sq aj) (k:Nat):VS:=⟨[(0,(Ac s),[]),(1,BZ,[]),(7,(ep s),[]),(8,int k,[])],[],[]⟩
theorem En (L:LP) (QD:D→Prop) (s:Sq aj) (k:Nat) (h:br (decide ((↑k:Int)<(↑s.1:Int))) (nd (cd (↑k:Int) s.1) ((LC 127 [(.a (lift (aT (s.2 k))))] [] (bool (tG (s.2 k))) []∧br (tG (s.2 k)) (QD (int (↑k:Int))) (L (ag 58 2) ⟨[(sU s),(1,(BZ,[])),(tM s),(8,((int (IntKind.i64.wrap ((↑k:Int)+1))),[]))],[],[]⟩)))) (QD (int (-1)))):dq XH 58 qb L (aZ QD) 2 (Ea s k):=Eq.mp (by kernel_rfl) h
theorem W2 (s:Sq aj) (a:Int) (hx:s.n≤maxLen):∀ k,k≤s.n→gu (fun i=>tG (s.get i)) (s.n-k) k=a→af 58 0 (aW (int a)) (ag 58 2) (Ea s k):=by
 refine aL (fun k hk ih ha=>?_) (fun ha=>?_)
 ·have e:s.n-k=(s.n-(k+1))+1:=by omega
  rw [e] at ha
  refine aH (X:=XH) (stop:=qb) (En _ _ s k ?_)
  refine ak (fun h=>?_) (fun h=>(dec_lt h hk).elim)
  refine aw (aA hk) ⟨Rv _,?_⟩
  refine ak (fun h1=>?_) (fun h1=>?_)
  ·rw [gY (p:=fun i=>tG (s.get i)) h1] at ha
   subst ha
   exact aX.refl _
  ·rw [fI (p:=fun i=>tG (s.get i)) h1] at ha
   rw [bR hk hx]
   exact ih ha
 ·rw [Nat.sub_self] at ha
  refine aH (X:=XH) (stop:=qb) (En _ _ s _ ?_)
  refine ak (fun h=>?_) (fun h=>?_)
  ·exact bJ h
  ·subst ha
   exact aX.refl _
theorem TK (s:Sq aj):LC 58 [eT 14 cy s,.c (.im (.fn 127 0 fun _=>.v (.bool false)))] [] (int (cU (fun i=>tG (s.get i)) s.n)) []:=
 cu.with JS (p:=s.n≤maxLen) (fun E av w vs h=>by cases h with|cons q _=>exact jc q) fun hx=>
  aU (X:=XH) (stop:=qb) JS (bg (by kernel_rfl)) (Wz _ _ s (W2 s _ hx 0 (bu _) rfl))
def J0:Nat→Bool:=cw
theorem T3:Fn 74:=⟨by kernel_rfl,by kernel_rfl⟩
theorem YH (L:LP) (QD:D→Prop) (s:Sq aj) (x:aj) (h:(LC 58 [(Ac s),(BS x)] [] (int (yU 125 (fun x_1=>I.pt 14 (cy x)) s)) []∧QD (bool (decide (yU 125 (fun x_1=>I.pt 14 (cy x)) s≥0))))):fS XH 74 J0 L (aZ QD) [eT 14 cy s,.c (.im (.fn 125 1 fun _=>.pt 14 (cy x)))] []:=Eq.mp (by kernel_rfl) h
theorem Vh (s:Sq aj) (x:aj):LC 74 [eT 14 cy s,.c (.im (.fn 125 1 fun _=>.pt 14 (cy x)))] [] (bool (qQ (fun i=>ou x (s.get i)) s.n)) []:=
 aU (X:=XH) (stop:=J0) T3 (bg (by kernel_rfl)) (YH _ _ s x ⟨XD s x,aX.refl _⟩)
theorem Vy (L:LP) (QD:D→Prop) (s:Sq aj) (h:(LC 58 [(Ac s),BZ] [] (int (yU 127 (fun x=>I.v (Value.bool false)) s)) []∧QD (bool (decide (yU 127 (fun x=>I.v (Value.bool false)) s≥0))))):fS XH 74 J0 L (aZ QD) [eT 14 cy s,.c (.im (.fn 127 0 fun _=>.v (.bool false)))] []:=Eq.mp (by kernel_rfl) h
theorem RY (s:Sq aj):LC 74 [eT 14 cy s,.c (.im (.fn 127 0 fun _=>.v (.bool false)))] [] (bool (qQ (fun i=>tG (s.get i)) s.n)) []:=
 aU (X:=XH) (stop:=J0) T3 (bg (by kernel_rfl)) (Vy _ _ s ⟨TK s,aX.refl _⟩)
def Pb:Nat→Bool:=cw
theorem Ve:Fn 124:=⟨by kernel_rfl,by kernel_rfl⟩
abbrev Hj (ax:ae):D:=.c (.im (.sl 14 ax.2.1 (fun i=>cy (ax.2.2 i))))
theorem Xg (L:LP) (QD:D→Prop) (t:ae) (x:aj) (h:(LC 74 [(Hj t),(.c (.im (.fn 125 1 (fun q=>match nth [I.pt 14 (bH [iI x.1,iI x.2,iI x.3,iI x.4,iI x.5,sJ 1 b8 x.6,iI x.7.1,iI x.7.2,iS x.7.3,sJ 1 eD x.8,iI x.9.1,iI x.9.2,iI x.10,iB x.11])] q with|some x=>x|none=>I.v (Value.tuple #[])))))] [] (bool (decide (yU 125 (bH [I.pt 14 (bH [iI x.1,iI x.2,iI x.3,iI x.4,iI x.5,sJ 1 b8 x.6,iI x.7.1,iI x.7.2,iS x.7.3,sJ 1 eD x.8,iI x.9.1,iI x.9.2,iI x.10,iB x.11])]) t.2≥0))) []∧QD (bool (!decide (yU 125 (bH [I.pt 14 (bH [iI x.1,iI x.2,iI x.3,iI x.4,iI x.5,sJ 1 b8 x.6,iI x.7.1,iI x.7.2,iS x.7.3,sJ 1 eD x.8,iI x.9.1,iI x.9.2,iI x.10,iB x.11])]) t.2≥0))))):fS XH 124 Pb L (aZ QD) [bc t,gT x] []:=Eq.mp (by kernel_rfl) h
theorem vV:∀ (l:List I) (j:Nat),j<l.length→bH l j=U3 l j
 | [],j,h=>absurd h (Nat.not_lt_zero j)
 | x::l,0,_=>rfl
 | x::l,j+1,h=>by
   have:=vV l j (by simpa using h)
   exact this
theorem dr.pt {n:Nat} {g g':Nat→I} (h:∀ j,j<n→dr (g j) (g' j)):dr (.pt n g) (.pt n g'):=by
 rintro av w v ⟨ad,h1,h2,h3,h4,h5⟩
 refine ⟨ad,h1,h2,h3,h4,fun j hj=>?_⟩
 obtain ⟨x,q1,q2⟩:=h5 j hj
 exact ⟨x,q1,h j hj _ _ _ q2⟩
theorem dr.fn {f n:Nat} {g g':Nat→I} (h:∀ j,j<n→dr (g j) (g' j)):dr (.fn f n g) (.fn f n g'):=by
 rintro av w v ⟨vs,h1,h2,h3⟩
 refine ⟨vs,h1,h2,fun j hj=>?_⟩
 obtain ⟨x,q1,q2⟩:=h3 j hj
 exact ⟨x,q1,h j hj _ _ _ q2⟩
theorem zB {x y:I} (h:dr x y):aX (.c (.im x)) (.c (.im y)):=fun E av w v q=>h av w v q
theorem Lr (x:aj) {g:Nat→I} (h:g 0=.pt 14 (bH (aT x))):aX (.c (.im (.fn 125 1 g))) (.c (.im (.fn 125 1 fun _=>.pt 14 (cy x)))):=
 zB (dr.fn fun j hj=>by
  have hj:j=0:=by omega
  subst hj
  rw [h]
  exact dr.pt fun j hj=>by
   rw [vV _ _ (by exact hj)]
   exact dr.refl _)
theorem Ap (t:ae) (x:aj):LC 124 [bc t,gT x] [] (bool (kl t x)) []:=by
 refine aU (X:=XH) (stop:=Pb) Ve (bg (by kernel_rfl)) (Xg _ _ t x ⟨?_,?_⟩)
 ·exact cu.pre (Vh t.ins x) (.cons (aX.refl _) (.cons (Lr x rfl) .nil))
 ·exact aX.refl _
def Ml:Nat→Bool:=cw
theorem WH:Fn 126:=⟨by kernel_rfl,by kernel_rfl⟩
theorem Xm (L:LP) (QD:D→Prop) (t:ae) (x:aj) (h:(LC 74 [(Hj t),(.c (.im (.fn 127 0 (fun x=>I.v (Value.bool false)))))] [] (bool (decide (yU 127 (fun x=>I.v (Value.bool false)) t.2≥0))) []∧QD (bool (!decide (yU 127 (fun x=>I.v (Value.bool false)) t.2≥0))))):fS XH 126 Ml L (aZ QD) [bc t,gT x] []:=Eq.mp (by kernel_rfl) h
theorem Bf (t:ae) (x:aj):LC 126 [bc t,gT x] [] (bool (nY t)) []:=
 aU (X:=XH) (stop:=Ml) WH (bg (by kernel_rfl)) (Xm _ _ t x ⟨RY t.ins,aX.refl _⟩)
def Dy:Nat→Bool:=fun i=>Nat.beq i 2
theorem Yy:Fn 39:=⟨by kernel_rfl,by kernel_rfl⟩
theorem ab0 (L:LP) (QD:D→Prop) (t:ae) (x:aj) (h:L (ag 39 2) ⟨[dW,fY,nv],[(bC t),(b4 x)],[]⟩):fS XH 39 Dy L (aZ QD) [bc t,gT x] []:=Eq.mp (by kernel_rfl) h
def Bd (t:ae) (x:aj) (k:Nat):VS:=⟨[(2,(.c (.rt 0 0 0)),[]),BA,(5,int k,[])],[(bC t),(b4 x)],[]⟩
abbrev tv (ax:ae) (aF:aj) (aR:Nat):List ah:=[(bC ax),(b4 aF),(.box (lift (aT (ax.2.2 aR))))]
theorem Jp (L:LP) (QD:D→Prop) (t:ae) (x:aj) (k:Nat) (h:br (decide ((↑k:Int)<(↑t.2.1:Int))) (nd (cd (↑k:Int) t.2.1) (br (x.1==10) (br ((t.2.2 k).1==11) (br ((t.2.2 k).5==x.5) (QD (bool true)) (br (x.1==12) (br ((t.2.2 k).1==13) (QD (bool true)) (L (ag 39 2) ⟨[dW,fY,(5,((int (IntKind.i64.wrap ((↑k:Int)+1))),[]))],(tv t x k),[]⟩)) (L (ag 39 2) ⟨[dW,fY,(5,((int (IntKind.i64.wrap ((↑k:Int)+1))),[]))],(tv t x k),[]⟩))) (br (x.1==12) (br ((t.2.2 k).1==13) (QD (bool true)) (L (ag 39 2) ⟨[dW,fY,(5,((int (IntKind.i64.wrap ((↑k:Int)+1))),[]))],(tv t x k),[]⟩)) (L (ag 39 2) ⟨[dW,fY,(5,((int (IntKind.i64.wrap ((↑k:Int)+1))),[]))],(tv t x k),[]⟩))) (br (x.1==12) (br ((t.2.2 k).1==13) (QD (bool true)) (L (ag 39 2) ⟨[dW,fY,(5,((int (IntKind.i64.wrap ((↑k:Int)+1))),[]))],(tv t x k),[]⟩)) (L (ag 39 2) ⟨[dW,fY,(5,((int (IntKind.i64.wrap ((↑k:Int)+1))),[]))],(tv t x k),[]⟩)))) (QD (bool false))):dq XH 39 Dy L (aZ QD) 2 (Bd t x k):=Eq.mp (by kernel_rfl) h
theorem Y0 (t:ae) (x:aj) (a:Bool) (hx:t.ins.n≤maxLen):∀ k,k≤t.ins.n→decide (gu (IE t x) (t.ins.n-k) k≥0)=a→af 39 0 (aW (bool a)) (ag 39 2) (Bd t x k):=by
 refine aL (fun k hk ih ha=>?_) (fun ha=>?_)
 ·have e:t.ins.n-k=(t.ins.n-(k+1))+1:=by omega
  rw [e] at ha
  refine aH (X:=XH) (stop:=Dy) (Jp _ _ t x k ?_)
  have yes:IE t x k=true→aX (bool true) (bool a):=fun h=>by
   rw [gY h,decide_eq_true (by omega:(k:Int)≥0)] at ha
   subst ha
   exact aX.refl _
  have go:IE t x k=false→af 39 0 (aW (bool a)) (ag 39 2) (Bd t x (k+1)):=fun h=>by
   rw [fI h] at ha
   exact ih ha
  refine ak (fun h=>?_) (fun h=>(dec_lt h hk).elim)
  rw [bR hk hx]
  refine aw (aA hk) ?_
  clear h e ha ih
  repeat' (first|refine ak (fun h=>?_) (fun h=>?_)|done)
  all_goals first
   | exact yes (by simp only [IE, *,aO])
   | exact af.rename [0,1] rfl (go (by simp only [IE, *,aO]))
 ·rw [Nat.sub_self] at ha
  refine aH (X:=XH) (stop:=Dy) (Jp _ _ t x _ ?_)
  refine ak (fun h=>bJ h) (fun h=>?_)
  subst ha
  exact aX.refl _
theorem W5 (t:ae) (x:aj) (hx:t.ins.n≤maxLen):LC 39 [bc t,gT x] [] (bool (qQ (IE t x) t.ins.n)) []:=
 aU (X:=XH) (stop:=Dy) Yy (bg (by kernel_rfl)) (ab0 _ _ t x (Y0 t x _ hx 0 (bu _) rfl))
end
end Go.Proofs.YtghfgcfabbbbbaaDoor
