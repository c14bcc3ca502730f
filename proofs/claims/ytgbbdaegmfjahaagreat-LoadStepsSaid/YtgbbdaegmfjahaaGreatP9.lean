/- Loops: what is to be shown. -/
import Derived.Test.YtgbbdaegmfjahaaGreatP8
import Derived.Test.YtgbbdaegmfjahaaGreatP6
set_option linter.unusedVariables false
set_option linter.unusedSimpArgs false
set_option maxRecDepth 1000000
namespace Go.Proofs.YtgbbdaegmfjahaaGreat
open Go Go.V
noncomputable section
section
section
variable (s1:Sq Int) (a:Int) (n:Nat) (b:Int) (k:Nat) (g:Nat->Nat->O) (x:au)
def XA:eU:={ F:=ext pY [(140,λ_ _=>(.t [],[(6,hZ s1)],[]))],S:=qy }
def XB:eU:={ F:=ext pY [(140,λ_ _=>(.t [],[(9,hZ s1)],[]))],S:=qy }
def X7 (c:Int) (r:ah):eU:={ F:=ext pY [(95,λ_ _=>(int c,[],[])),(139,λ_ _=>(.t [],[(0,r)],[]))],S:=qy }
def X22 (r:ah):eU:={ F:=ext pY [(139,λ_ _=>(.t [],[(7,r)],[]))],S:=qy }
def aE {α:Type} (f:α->α) (s:Sq α) (k:Nat):Sq α:=⟨s.n,λi=>bif Nat.blt i k then f (s.get i) else s.get i⟩
def cS:au:={ qO (gL x.op).toNat a b x with args:=jN a b x.args x.args.n }
def Gw (x:cK):cK:={ x with vars:=jN a b x.vars x.vars.n }
def wP (x:cZ):cZ:={ x with value:=sw a b x.value,items:=jN a b x.items x.items.n }
def dV (x:aq):aq:={ x with frames:=aE (Gw a b) x.frames x.frames.n,az:=aE (wP a b) x.az x.az.n }
def Gx (t:ak):ah:=.box [.im (iI t.place.fn),.im (iI t.place.line),.sa 0 t.ins.n,.sa 1 t.aa.n]
def Xk:ah:=.box [.fL 139 [3,4]]
def foA (p:Nat):ah:=.bo 52 14 n g (some (k,setAt (gu (bL x) 14 0) 5 (.c (.sa p x.args.n))))
def PY (x:aq):ah:=.bo 57 3 n g (some (k,setAt (setAt (gu (bD x) 3 0) 0 (.c (.sa 6 x.frames.n))) 1 (.c (.sa 7 x.az.n))))
def bv5 (x:cK) (p:Nat):ah:=.bo 92 3 n g (some (k,setAt (gu (dA x) 3 0) 2 (.c (.sa p x.vars.n))))
def by4 (x:cZ) (p:Nat):ah:=.bo 59 4 n g (some (k,setAt (gu (fR x) 4 0) 3 (.c (.sa p x.items.n))))
end
end
section
variable (aj:ak) (L:LP) (QE:D->List ah->Prop) (ax:Nat->Nat->O) (t:ak) (aJ:Nat) (a b:Int) (s1:Sq Int) (s:Sq au) (k:Nat) (g:Nat->Nat->O) (e:aq) (j:Nat) (g2:Nat->Nat->O)
def eZ:Nat->Bool:=λi=>Nat.beq i 4||Nat.beq i 7||Nat.beq i 8||Nat.beq i 11||Nat.beq i 12||Nat.beq i 14||Nat.beq i 15||Nat.beq i 19||Nat.beq i 20||Nat.beq i 22
theorem bj0:Fn 125:={}
abbrev hU:eQ:=(6,((.c (.rt 5 0 0)),[]))
abbrev kc:eQ:=(7,((.c (.fL 140 [5])),[]))
abbrev qF:ah:=.bo 57 3 aj.3.1 (λi=>bD (aj.3.2 i)) .none
abbrev dB:ah:=.box [(ci aj.1.1),(ci aj.1.2),(.sa 0 aj.2.1),(.sa 1 aj.3.1)]
abbrev gj:ah:=.box [(.fL 139 [3,4])]
theorem aP2 (h:L (af 125 4) ⟨[cX,hU,kc,(20,((gY t),[])),(21,((int 0),[]))],[(rq t),(qF t),(dB t),(.box [(ci a)]),(.box [(ci b)]),gj],[]⟩):ep (XA s1) 125 eZ L QE [.a [.im (iI t.place.fn),.im (iI t.place.line),.sa 0 t.ins.n,.sa 1 t.aa.n],int a,int b] [bV t.ins,fb t.aa]:=km h
abbrev nn:eQ:=(6,.c (.rt 5 0 0),[])
abbrev tC:eQ:=(7,.c (.fL 140 [5]),[])
def lh (s1:Sq Int) (k:Nat):VS:=⟨[gV,nn,tC,(20,int t.ins.n,[]),(21,int k,[])],[bV (aE (cS a b) t.ins k),fb t.aa,Gx t,bx a,bx b,Xk],[]⟩
abbrev Hg (aj:Nat) (ax:ak):a8:=[cX,hU,kc,(9,((.c (.rt 0 aj 0)),[])),(20,((gY ax),[])),(21,((fp aj),[]))]
abbrev WM (ax aJ:Int) (aZ:Nat):List ah:=[(.bo 52 14 aj.2.1 (λi=>bL ((aE (cS ax aJ) aj.2 aZ).get i)) .none),(qF aj),(dB aj),(.box [(ci ax)]),(.box [(ci aJ)]),gj]
abbrev mL:eQ:=(54,((qM aj),[]))
abbrev mQ:eQ:=(55,((JY aj),[]))
theorem M6 (h:br (decide ((↑k:Int)<(↑t.2.1:Int))) (nd (bQ (↑k:Int) t.2.1) (L (af 125 7) ⟨(Hg k t),(WM t a b k),[]⟩)) (L (af 125 11) ⟨[hU,kc,(mL t),(mQ t),(56,((int 0),[]))],(WM t a b k),[]⟩)):b5 (XA s1) 125 eZ L QE 4 (lh t a b s1 k):=km h
abbrev Vl (aj:Nat) (ax:ak):a8:=[gV,nn,tC,(9,.c (.rt 0 aj 0),[]),(20,int ax.ins.n,[]),(21,int aj,[])]
def ry (s1:Sq Int) (k:Nat) (g:Nat->Nat->O) (x:au):VS:=⟨(Vl k t),[foA t.ins.n k g x 6,fb t.aa,Gx t,bx a,bx b,Xk,hZ x.args],[]⟩
abbrev Vt (aZ:au):ah:=.bo 52 14 aj.2.1 (ax) (.some (aJ,[(.c (ci aZ.1)),(.c (ci aZ.2)),(.c (ci aZ.3)),(.c (ci aZ.4)),(.c (ci aZ.5)),(.c (.sa 6 aZ.6.1)),(.c (ci aZ.7.1)),(.c (ci aZ.7.2)),(.c (oW aZ)),(.c (.im (.sl 1 aZ.8.1 (λi=>cA (aZ.8.2 i))))),(.c (ci aZ.9.1)),(.c (ci aZ.9.2)),(.c (ci aZ.10)),(.c (gG aZ))]))
abbrev vA (aj:au):ah:=.arr 3 1 aj.6.1 (λi=>bn (aj.6.2 i))
theorem Yr (x:au) (h:nd (k.blt t.2.1) (nd (k.beq k) ((LC 140 [(.c (.sa 6 x.6.1)),(.c (.rt 5 0 0))] [(Vt t g k x),(qF t),(dB t),(.box [(ci a)]),(.box [(ci b)]),gj,(vA x)] (.t []) [(Vt t g k x),(qF t),(dB t),(.box [(ci a)]),(.box [(ci b)]),gj,(eJ s1)]/\L (af 125 4) ⟨[cX,hU,kc,(20,((gY t),[])),(21,((int (IntKind.i64.wrap ((↑k:Int)+1))),[]))],[(Vt t g k x),(qF t),(dB t),(.box [(ci a)]),(.box [(ci b)]),gj,(eJ s1)],[]⟩)))):b5 (XA s1) 125 eZ L QE 8 (ry t a b s1 k g x):=km h
abbrev Df (aj:Nat) (ax:ak) (aJ:Nat->Nat->O) (aZ:au) (bR cW:Int):VS:=⟨(Vl aj ax),[yd ax.ins.n aj aJ aZ,fb ax.aa,Gx ax,bx bR,bx cW,Xk],[]⟩
def vJ (y:au) (x:au):VS:=(Df k t g x a b)
abbrev nP (aZ:au) (bR cW:Int):List ah:=[(.bo 52 14 aj.2.1 (ax) (.some (aJ,[(.c (ci aZ.1)),(.c (ci aZ.2)),(.c (ci aZ.3)),(.c (ci aZ.4)),(.c (ci aZ.5)),(.o (.ar 3 1 aZ.6.1 (λi=>bn (aZ.6.2 i)))),(.c (ci aZ.7.1)),(.c (ci aZ.7.2)),(.c (oW aZ)),(.c (.im (.sl 1 aZ.8.1 (λi=>cA (aZ.8.2 i))))),(.c (ci aZ.9.1)),(.c (ci aZ.9.2)),(.c (ci aZ.10)),(.c (gG aZ))]))),(qF aj),(dB aj),(.box [(ci bR)]),(.box [(ci cW)]),gj,(.row 151 1 3 [(.rt 0 aJ 1),(.rt 0 aJ 2),(.rt 0 aJ 3)]),.dead,.dead]
theorem P5 (y:au) (x:au) (h:nd (k.blt t.2.1) (nd (k.beq k) ((LC 95 [(int x.1)] [] (int 0) []/\(LC 139 [(.c (.sa 6 0)),(.c (.rt 3 0 0)),(.c (.rt 4 0 0))] (nP t g k x a b) (.t []) (nP t g k y a b)/\nd (k.blt t.2.1) (nd (k.beq k) ((LC 95 [(int x.1)] [] (int 0) []/\(LC 139 [(.c (.sa 6 0)),(.c (.rt 3 0 0)),(.c (.rt 4 0 0))] (nP t g k x a b) (.t []) (nP t g k y a b)/\L (af 125 8) ⟨(Hg k t),(nP t g k y a b),[]⟩))))))))):b5 (X7 0 (yd t.ins.n k g y)) 125 eZ L QE 7 (vJ t a b k g y x):=km h
def vC (y:au) (x:au):VS:=(Df k t g x a b)
theorem Px (y:au) (x:au) (h:nd (k.blt t.2.1) (nd (k.beq k) ((LC 95 [(int x.1)] [] (int 1) []/\(LC 139 [(.c (.sa 6 1)),(.c (.rt 3 0 0)),(.c (.rt 4 0 0))] (nP t g k x a b) (.t []) (nP t g k y a b)/\nd (k.blt t.2.1) (nd (k.beq k) ((LC 95 [(int x.1)] [] (int 1) []/\(LC 139 [(.c (.sa 6 1)),(.c (.rt 3 0 0)),(.c (.rt 4 0 0))] (nP t g k x a b) (.t []) (nP t g k y a b)/\L (af 125 8) ⟨(Hg k t),(nP t g k y a b),[]⟩))))))))):b5 (X7 1 (yd t.ins.n k g y)) 125 eZ L QE 7 (vC t a b k g y x):=km h
def wL (y:au) (x:au):VS:=(Df k t g x a b)
theorem PW (y:au) (x:au) (h:nd (k.blt t.2.1) (nd (k.beq k) ((LC 95 [(int x.1)] [] (int 2) []/\(LC 139 [(.c (.sa 6 2)),(.c (.rt 3 0 0)),(.c (.rt 4 0 0))] (nP t g k x a b) (.t []) (nP t g k y a b)/\nd (k.blt t.2.1) (nd (k.beq k) ((LC 95 [(int x.1)] [] (int 2) []/\(LC 139 [(.c (.sa 6 2)),(.c (.rt 3 0 0)),(.c (.rt 4 0 0))] (nP t g k x a b) (.t []) (nP t g k y a b)/\L (af 125 8) ⟨(Hg k t),(nP t g k y a b),[]⟩))))))))):b5 (X7 2 (yd t.ins.n k g y)) 125 eZ L QE 7 (wL t a b k g y x):=km h
def vE (y:au) (x:au):VS:=(Df k t g x a b)
theorem PV (y:au) (x:au) (h:nd (k.blt t.2.1) (nd (k.beq k) ((LC 95 [(int x.1)] [] (int 3) []/\(LC 139 [(.c (.sa 6 3)),(.c (.rt 3 0 0)),(.c (.rt 4 0 0))] (nP t g k x a b) (.t []) (nP t g k y a b)/\nd (k.blt t.2.1) (nd (k.beq k) ((LC 95 [(int x.1)] [] (int 3) []/\(LC 139 [(.c (.sa 6 3)),(.c (.rt 3 0 0)),(.c (.rt 4 0 0))] (nP t g k x a b) (.t []) (nP t g k y a b)/\L (af 125 8) ⟨(Hg k t),(nP t g k y a b),[]⟩))))))))):b5 (X7 3 (yd t.ins.n k g y)) 125 eZ L QE 7 (vE t a b k g y x):=km h
abbrev zY:eQ:=(54,.c (.sa 1 aj.aa.n),[])
abbrev Bl:eQ:=(55,int aj.aa.n,[])
def j5 (s1:Sq Int) (s:Sq au) (k:Nat):VS:=⟨[nn,tC,(zY t),(Bl t),(56,int k,[])],[bV s,fb (aE (dV a b) t.aa k),Gx t,bx a,bx b,Xk],[]⟩
abbrev qa (aj:Nat):eQ:=(56,((fp aj),[]))
abbrev nK (aj:Sq au):ah:=.bo 52 14 aj.1 (λi=>bL (aj.2 i)) .none
theorem C0 (h:br (decide ((↑k:Int)<(↑t.3.1:Int))) (L (af 125 12) ⟨[hU,kc,(mL t),(mQ t),(qa k),(57,((bool true),[]))],[(nK s),(.bo 57 3 t.3.1 (λi=>bD ((aE (dV a b) t.3 k).get i)) .none),(dB t),(.box [(ci a)]),(.box [(ci b)]),gj],[]⟩) (QE (.t []) [(.bo 52 14 s.1 (λi=>bL (s.2 i)) .none),(.bo 57 3 t.3.1 (λi=>bD ((aE (dV a b) t.3 k).get i)) .none),(.box [(ci t.1.1),(ci t.1.2),(.sa 0 t.2.1),(.sa 1 t.3.1)]),(.box [(ci a)]),(.box [(ci b)]),(.box [(.fL 139 [3,4])])])):b5 (XB s1) 125 eZ L QE 11 (j5 t a b s1 s k):=km h
def wJ (s1:Sq Int) (s:Sq au) (k:Nat) (g:Nat->Nat->O) (e:aq):VS:=⟨[nn,tC,(zY t),(Bl t),(56,int k,[])],[bV s,PY t.aa.n k g e,Gx t,bx a,bx b,Xk,tR e.frames,Sh e.az],[]⟩
abbrev tj:eQ:=(11,((.c (.rt 8 0 0)),[]))
abbrev pQ (aZ:aq):ah:=.bo 57 3 aj.3.1 (ax) (.some (aJ,[(.c (.sa 6 aZ.1.1)),(.c (.sa 7 aZ.2.1)),(.c (ci aZ.3))]))
abbrev w6 (aj:aq):ah:=.bo 59 4 aj.2.1 (λi=>fR (aj.2.2 i)) .none
abbrev kK (aj:aq):ah:=.box [(.sa 6 aj.1.1),(.sa 7 aj.2.1),(ci aj.3)]
theorem P8 (h:nd (bQ (↑k:Int) t.3.1) (nd (k.blt t.3.1) (nd (k.beq k) (L (af 125 14) ⟨[hU,kc,tj,(mL t),(mQ t),(qa k),(61,((.c (.sa 6 e.1.1)),[])),(62,((j6 e),[])),(63,((int 0),[]))],[(nK s),(pQ t g k e),(dB t),(.box [(ci a)]),(.box [(ci b)]),gj,(LJ e),(w6 e),(kK e)],[]⟩)))):b5 (XB s1) 125 eZ L QE 12 (wJ t a b s1 s k g e):=km h
abbrev QM (aj:aq) (ax:Nat) (aJ:ak) (aZ:Nat):a8:=[nn,tC,(11,.c (.rt 8 0 0),[]),(61,.c (.sa 6 aj.frames.n),[]),(62,int aj.frames.n,[]),(63,int ax,[]),(zY aJ),(Bl aJ),(56,int aZ,[])]
def nT (s1:Sq Int) (s:Sq au) (k:Nat) (g:Nat->Nat->O) (e:aq) (j:Nat):VS:=⟨(QM e j t k),[bV s,PY t.aa.n k g e,Gx t,bx a,bx b,Xk,tR (aE (Gw a b) e.frames j),Sh e.az,.box [.sa 6 e.frames.n,.sa 7 e.az.n,.im (iI e.back)]],[]⟩
abbrev DG (aj:aq) (ax aJ:Int) (aZ:Nat):ah:=.bo 92 3 aj.1.1 (λi=>dA ((aE (Gw ax aJ) aj.1 aZ).get i)) .none
abbrev FN (aj:aq):eQ:=(73,((.c (.sa 7 aj.2.1)),[]))
theorem Cb (h:br (decide ((↑j:Int)<(↑e.1.1:Int))) (L (af 125 15) ⟨[hU,kc,tj,(mL t),(mQ t),(qa k),(61,((.c (.sa 6 e.1.1)),[])),(62,((j6 e),[])),(63,((int (↑j:Int)),[])),(64,((bool true),[]))],[(nK s),(pQ t g k e),(dB t),(.box [(ci a)]),(.box [(ci b)]),gj,(DG e a b j),(w6 e),(kK e)],[]⟩) (L (af 125 19) ⟨[hU,kc,tj,(mL t),(mQ t),(qa k),(FN e),(74,((jY e),[])),(75,((int 0),[]))],[(nK s),(pQ t g k e),(dB t),(.box [(ci a)]),(.box [(ci b)]),gj,(DG e a b j),(w6 e),(kK e)],[]⟩)):b5 (XB s1) 125 eZ L QE 14 (nT t a b s1 s k g e j):=km h
def wN (s1:Sq Int) (s:Sq au) (k:Nat) (g:Nat->Nat->O) (e:aq) (j:Nat) (g2:Nat->Nat->O) (x:cK):VS:=⟨(QM e j t k),[bV s,PY t.aa.n k g e,Gx t,bx a,bx b,Xk,bv5 e.frames.n j g2 x 9,Sh e.az,.box [.sa 6 e.frames.n,.sa 7 e.az.n,.im (iI e.back)],hZ x.vars],[]⟩
abbrev Lx (aj:aq) (ax:Nat->Nat->O) (aJ:Nat) (aZ:cK):ah:=.bo 92 3 aj.1.1 (ax) (.some (aJ,[(.c (ci aZ.1)),(.c (ci aZ.2)),(.c (.sa 9 aZ.3.1))]))
abbrev Kt (aj:cK):ah:=.box [(ci aj.1),(ci aj.2),(.sa 9 aj.3.1)]
theorem P1 (x:cK) (h:nd (bQ (↑j:Int) e.1.1) (nd (j.blt e.1.1) (nd (j.beq j) ((LC 140 [(.c (.sa 9 x.3.1)),(.c (.rt 5 0 0))] [(nK s),(pQ t g k e),(dB t),(.box [(ci a)]),(.box [(ci b)]),gj,(Lx e g2 j x),(w6 e),(kK e),(.arr 3 1 x.3.1 (λi=>bn (x.3.2 i))),(Kt x)] (.t []) [(nK s),(pQ t g k e),(dB t),(.box [(ci a)]),(.box [(ci b)]),gj,(Lx e g2 j x),(w6 e),(kK e),(eJ s1),(Kt x)]/\L (af 125 14) ⟨[hU,kc,tj,(mL t),(mQ t),(qa k),(61,((.c (.sa 6 e.1.1)),[])),(62,((j6 e),[])),(63,((int (IntKind.i64.wrap ((↑j:Int)+1))),[]))],[(nK s),(pQ t g k e),(dB t),(.box [(ci a)]),(.box [(ci b)]),gj,(Lx e g2 j x),(w6 e),(kK e),(eJ s1),(Kt x)],[]⟩))))):b5 (XB s1) 125 eZ L QE 15 (wN t a b s1 s k g e j g2 x):=km h
abbrev RX (aj:aq) (ax:Nat) (aJ:ak) (aZ:Nat):a8:=[nn,tC,(11,.c (.rt 8 0 0),[]),(73,.c (.sa 7 aj.az.n),[]),(74,int aj.az.n,[]),(75,int ax,[]),(zY aJ),(Bl aJ),(56,int aZ,[])]
def ly (s1:Sq Int) (s:Sq au) (k:Nat) (g:Nat->Nat->O) (e:aq) (j:Nat):VS:=⟨(RX e j t k),[bV s,PY t.aa.n k g e,Gx t,bx a,bx b,Xk,tR (aE (Gw a b) e.frames e.frames.n),Sh (aE (wP a b) e.az j),.box [.sa 6 e.frames.n,.sa 7 e.az.n,.im (iI e.back)]],[]⟩
abbrev pN (aj:aq) (ax aJ:Int):ah:=.bo 92 3 aj.1.1 (λi=>dA ((aE (Gw ax aJ) aj.1 aj.1.1).get i)) .none
theorem CN (h:br (decide ((↑j:Int)<(↑e.2.1:Int))) (L (af 125 20) ⟨[hU,kc,tj,(mL t),(mQ t),(qa k),(FN e),(74,((jY e),[])),(75,((int (↑j:Int)),[])),(76,((bool true),[]))],[(nK s),(pQ t g k e),(dB t),(.box [(ci a)]),(.box [(ci b)]),gj,(pN e a b),(.bo 59 4 e.2.1 (λi=>fR ((aE (wP a b) e.2 j).get i)) .none),(kK e)],[]⟩) (L (af 125 11) ⟨[hU,kc,(mL t),(mQ t),(56,((int (IntKind.i64.wrap ((↑k:Int)+1))),[]))],[(nK s),(pQ t g k e),(dB t),(.box [(ci a)]),(.box [(ci b)]),gj,(pN e a b),(.bo 59 4 e.2.1 (λi=>fR ((aE (wP a b) e.2 j).get i)) .none),(kK e)],[]⟩)):b5 (XB s1) 125 eZ L QE 19 (ly t a b s1 s k g e j):=km h
def wX (s1:Sq Int) (s:Sq au) (k:Nat) (g:Nat->Nat->O) (e:aq) (j:Nat) (g2:Nat->Nat->O) (x:cZ):VS:=⟨(RX e j t k),[bV s,PY t.aa.n k g e,Gx t,bx a,bx b,Xk,tR (aE (Gw a b) e.frames e.frames.n),by4 e.az.n j g2 x 9,.box [.sa 6 e.frames.n,.sa 7 e.az.n,.im (iI e.back)],hZ x.items],[]⟩
abbrev Kz (aj:cZ):C:=.im (.sl 1 aj.3.1 (λi=>cA (aj.3.2 i)))
abbrev JP (aj:aq) (ax:Nat->Nat->O) (aJ:Nat) (aZ:cZ):ah:=.bo 59 4 aj.2.1 (ax) (.some (aJ,[(.c (ci aZ.1)),(.c (ci aZ.2)),(.c (Kz aZ)),(.c (.sa 9 aZ.4.1))]))
abbrev LZ (aj:cZ):ah:=.box [(ci aj.1),(ci aj.2),(Kz aj),(.sa 9 aj.4.1)]
theorem Pc (x:cZ) (h:nd (bQ (↑j:Int) e.2.1) (nd (j.blt e.2.1) (nd (j.beq j) ((LC 140 [(.c (.sa 9 x.4.1)),(.c (.rt 5 0 0))] [(nK s),(pQ t g k e),(dB t),(.box [(ci a)]),(.box [(ci b)]),gj,(pN e a b),(JP e g2 j x),(kK e),(.arr 3 1 x.4.1 (λi=>bn (x.4.2 i))),(LZ x)] (.t []) [(nK s),(pQ t g k e),(dB t),(.box [(ci a)]),(.box [(ci b)]),gj,(pN e a b),(JP e g2 j x),(kK e),(eJ s1),(LZ x)]/\L (af 125 22) ⟨[hU,kc,tj,(14,((int (↑j:Int)),[])),(mL t),(mQ t),(qa k),(FN e),(74,((jY e),[])),(75,((int (↑j:Int)),[]))],[(nK s),(pQ t g k e),(dB t),(.box [(ci a)]),(.box [(ci b)]),gj,(pN e a b),(JP e g2 j x),(kK e),(eJ s1),(LZ x)],[]⟩))))):b5 (XB s1) 125 eZ L QE 20 (wX t a b s1 s k g e j g2 x):=km h
def wA (y:cZ) (x:cZ):VS:=⟨[nn,tC,(14,int j,[]),(11,.c (.rt 8 0 0),[]),(73,.c (.sa 7 e.az.n),[]),(74,int e.az.n,[]),(75,int j,[]),(zY t),(Bl t),(56,int k,[])],[bV s,PY t.aa.n k g e,Gx t,bx a,bx b,Xk,tR (aE (Gw a b) e.frames e.frames.n),foV e.az.n j g2 x,.box [.sa 6 e.frames.n,.sa 7 e.az.n,.im (iI e.back)]],[]⟩
abbrev G1 (aj:Sq au) (ax:ak) (aJ:Nat->Nat->O) (aZ:Nat) (bR:aq) (cW de:Int) (nB:Nat->Nat->O) (BD:Nat) (Mv:cZ):List ah:=[(nK aj),(pQ ax aJ aZ bR),(dB ax),(.box [(ci cW)]),(.box [(ci de)]),gj,(pN bR cW de),(.bo 59 4 bR.2.1 (nB) (.some (BD,[(.c (ci Mv.1)),(.c (ci Mv.2)),(.c (Kz Mv)),(.o (.ar 3 1 Mv.4.1 (λi=>bn (Mv.4.2 i))))]))),(kK bR),(.row 151 1 1 [(.rt 7 BD 0)]),.dead]
theorem PZ (y:cZ) (x:cZ) (h:nd (bQ (↑j:Int) e.2.1) ((LC 139 [(.c (.sa 9 1)),(.c (.rt 3 0 0)),(.c (.rt 4 0 0))] (G1 s t g k e a b g2 j x) (.t []) (G1 s t g k e a b g2 j y)/\nd (bQ (↑j:Int) e.2.1) ((LC 139 [(.c (.sa 9 1)),(.c (.rt 3 0 0)),(.c (.rt 4 0 0))] (G1 s t g k e a b g2 j x) (.t []) (G1 s t g k e a b g2 j y)/\L (af 125 19) ⟨[hU,kc,tj,(mL t),(mQ t),(qa k),(FN e),(74,((jY e),[])),(75,((int (IntKind.i64.wrap ((↑j:Int)+1))),[]))],(G1 s t g k e a b g2 j y),[]⟩))))):b5 (X22 (foV e.az.n j g2 y)) 125 eZ L QE 22 (wA t a b s k g e j g2 y x):=km h
end
section
variable {α:Type} {k el sz:Nat}
theorem mn {f:α->α} {s:Sq α}:(aE f s k).get k=s.get k:=by
 show (bif Nat.blt k k then _ else _)=_
 cases hb:Nat.blt k k with
 | false=>rfl
 | true=>simp at hb
theorem Q2 {f:α->α} {s:Sq α}:(aE f s (k+1)).get k=f (s.get k):=by
 show (bif Nat.blt k (k+1) then _ else _)=_
 rw [bX (Nat.lt_succ_self k)]; rfl
theorem Zs {f:α->α} {s:Sq α} {i:Nat} (h:i≠k):(aE f s (k+1)).get i=(aE f s k).get i:=by
 show (bif Nat.blt i (k+1) then _ else _)=(bif Nat.blt i k then _ else _)
 grind [Nat.blt_eq]
theorem iL {f:α->α} {N:α->Nat->O} {s:Sq α} {l:List Fc} (h:Hz (N (f (s.get k))) l 0):aY (.bo el sz s.n (λi=>N ((aE f s k).get i)) (some (k,l))) (.bo el sz s.n (λi=>N ((aE f s (k+1)).get i)) none):=
 aY.unf (by rw [Q2]; exact h) λi hi qG j hj=>by rw [Zs qG]; exact nV.refl _
theorem rm {f:α->α} {N:α->Nat->O} {s:Sq α}:aY (.bo el sz s.n (λi=>N (s.get i)) none) (.bo el sz s.n (λi=>N ((aE f s 0).get i)) none):=aY.bo λi hi j hj=>nV.refl _
theorem ae.iZ {f:FuncId} {n0:Nat} {Q:D->List ah->Prop} {todo:List Item} {s:VS} (r k:Nat) (l:List Fc) {n:Nat} {get:Nat->Nat->O} (hr:bh s.rs r=some (.bo el sz n get none)) (hk:k<n) (hl:gu (get k) sz 0=l) (g:ae f n0 Q todo ⟨s.sl,setAt s.rs r (.bo el sz n get (some (k,l))),s.df⟩):ae f n0 Q todo s:=
 ae.focus r k hr hk (hl.symm▸g)
end
section
variable (t:ak) (a b:Int)
theorem yi (hS:aM t) (k:Nat) (hk:k<t.ins.n) (x:au) (hx:x=qO (gL (t.ins.get k).op).toNat a b (t.ins.get k)) (ih:ae 125 2 (Go.V.bA [bV t.ins,fb t.aa] (.t []) [bV (aE (cS a b) t.ins t.ins.n),fb (aE (dV a b) t.aa t.aa.n)]) (af 125 4) (lh t a b (aH 0) (k+1))):ae 125 2 (Go.V.bA [bV t.ins,fb t.aa] (.t []) [bV (aE (cS a b) t.ins t.ins.n),fb (aE (dV a b) t.aa t.aa.n)]) (af 125 8) (ry t a b (aH 0) k (λi=>bL ((aE (cS a b) t.ins k).get i)) x):=by
 have hN:=hS.ins
 have hW:=b6 hk (by unfold maxLen; omega:_<=maxLen)
 have hA:=hS.args k hk
 have hA:x.args.n<=1000:=by rw [hx]; exact hA
 refine aG (X:=XA (jN a b x.args x.args.n)) (stop:=eZ) (Yr _ _ t a b (jN a b x.args x.args.n) k (λi=>bL ((aE (cS a b) t.ins k).get i)) x ?_)
 refine ai (bX hk) (ai (dv _) ⟨bt.gQ (Ka a b x.args hA) [6,5,3,4] _ rfl ⟨rfl,aQ rfl,rfl,aQ rfl,rfl,aQ rfl,rfl,aQ rfl,rfl⟩,?_⟩)
 rw [hW]
 refine ae.close 0 5 6 rfl rfl rfl rfl rfl rfl (ae.rename [0,1,2,3,4,5] rfl ?_)
 subst hx
 exact ae.lf (lh t a b (aH 0) (k+1)) (.cons (iL (f:=cS a b) ⟨aR.aB _,aR.aB _,aR.aB _,aR.aB _,aR.aB _,aR.refl _,aR.aB _,aR.aB _,aR.aB _,aR.aB _,aR.aB _,aR.aB _,aR.aB _,aR.aB _,trivial⟩) (rc (rc (rc (rc (rc .nil)))))) ih
theorem Qb (hS:aM t) (k:Nat) (hk:k<t.ins.n) (hc:gL (t.ins.get k).op=0) (ih:ae 125 2 (Go.V.bA [bV t.ins,fb t.aa] (.t []) [bV (aE (cS a b) t.ins t.ins.n),fb (aE (dV a b) t.aa t.aa.n)]) (af 125 4) (lh t a b (aH 0) (k+1))):ae 125 2 (Go.V.bA [bV t.ins,fb t.aa] (.t []) [bV (aE (cS a b) t.ins t.ins.n),fb (aE (dV a b) t.aa t.aa.n)]) (af 125 7) (vJ t a b k (λi=>bL ((aE (cS a b) t.ins k).get i)) (t.ins.get k) (t.ins.get k)):=by
 have h1:LC 95 [int (t.ins.get k).op] [] (int 0) []:=hc▸CH (t.ins.get k).op
 refine aG (X:=X7 0 (yd t.ins.n k (λi=>bL ((aE (cS a b) t.ins k).get i)) (qO 0 a b (t.ins.get k)))) (stop:=eZ) (P5 _ _ t a b k (λi=>bL ((aE (cS a b) t.ins k).get i)) (qO 0 a b (t.ins.get k)) (t.ins.get k) ?_)
 have h2:=λRS h=>bt.gQ (Wy t.ins.n k (λi=>bL ((aE (cS a b) t.ins k).get i)) (t.ins.get k) a b hk) [6,3,4,0] RS rfl h
 refine ai (bX hk) (ai (dv _) ⟨h1,h2 _ ⟨rfl,aQ rfl,rfl,aQ rfl,rfl,aQ rfl,rfl,aQ rfl,rfl⟩,ai (bX hk) (ai (dv _) ⟨h1,h2 _ ⟨rfl,aQ rfl,rfl,aQ rfl,rfl,aQ rfl,rfl,aQ rfl,rfl⟩,?_⟩)⟩)
 refine ae.rename [0,1,2,3,4,5] rfl (ae.open 0 5 rfl rfl trivial ?_)
 exact ae.lr (ry t a b (aH 0) k (λi=>bL ((aE (cS a b) t.ins k).get i)) (qO 0 a b (t.ins.get k))) (yi t a b hS k hk _ (by rw [hc]; rfl) ih)
theorem PG (hS:aM t) (k:Nat) (hk:k<t.ins.n) (hc:gL (t.ins.get k).op=1) (ih:ae 125 2 (Go.V.bA [bV t.ins,fb t.aa] (.t []) [bV (aE (cS a b) t.ins t.ins.n),fb (aE (dV a b) t.aa t.aa.n)]) (af 125 4) (lh t a b (aH 0) (k+1))):ae 125 2 (Go.V.bA [bV t.ins,fb t.aa] (.t []) [bV (aE (cS a b) t.ins t.ins.n),fb (aE (dV a b) t.aa t.aa.n)]) (af 125 7) (vC t a b k (λi=>bL ((aE (cS a b) t.ins k).get i)) (t.ins.get k) (t.ins.get k)):=by
 have h1:LC 95 [int (t.ins.get k).op] [] (int 1) []:=hc▸CH (t.ins.get k).op
 refine aG (X:=X7 1 (yd t.ins.n k (λi=>bL ((aE (cS a b) t.ins k).get i)) (qO 1 a b (t.ins.get k)))) (stop:=eZ) (Px _ _ t a b k (λi=>bL ((aE (cS a b) t.ins k).get i)) (qO 1 a b (t.ins.get k)) (t.ins.get k) ?_)
 have h2:=λRS h=>bt.gQ (Uv t.ins.n k (λi=>bL ((aE (cS a b) t.ins k).get i)) (t.ins.get k) a b hk) [6,3,4,0] RS rfl h
 refine ai (bX hk) (ai (dv _) ⟨h1,h2 _ ⟨rfl,aQ rfl,rfl,aQ rfl,rfl,aQ rfl,rfl,aQ rfl,rfl⟩,ai (bX hk) (ai (dv _) ⟨h1,h2 _ ⟨rfl,aQ rfl,rfl,aQ rfl,rfl,aQ rfl,rfl,aQ rfl,rfl⟩,?_⟩)⟩)
 refine ae.rename [0,1,2,3,4,5] rfl (ae.open 0 5 rfl rfl trivial ?_)
 exact ae.lr (ry t a b (aH 0) k (λi=>bL ((aE (cS a b) t.ins k).get i)) (qO 1 a b (t.ins.get k))) (yi t a b hS k hk _ (by rw [hc]; rfl) ih)
theorem Pw (hS:aM t) (k:Nat) (hk:k<t.ins.n) (hc:gL (t.ins.get k).op=2) (ih:ae 125 2 (Go.V.bA [bV t.ins,fb t.aa] (.t []) [bV (aE (cS a b) t.ins t.ins.n),fb (aE (dV a b) t.aa t.aa.n)]) (af 125 4) (lh t a b (aH 0) (k+1))):ae 125 2 (Go.V.bA [bV t.ins,fb t.aa] (.t []) [bV (aE (cS a b) t.ins t.ins.n),fb (aE (dV a b) t.aa t.aa.n)]) (af 125 7) (wL t a b k (λi=>bL ((aE (cS a b) t.ins k).get i)) (t.ins.get k) (t.ins.get k)):=by
 have h1:LC 95 [int (t.ins.get k).op] [] (int 2) []:=hc▸CH (t.ins.get k).op
 refine aG (X:=X7 2 (yd t.ins.n k (λi=>bL ((aE (cS a b) t.ins k).get i)) (qO 2 a b (t.ins.get k)))) (stop:=eZ) (PW _ _ t a b k (λi=>bL ((aE (cS a b) t.ins k).get i)) (qO 2 a b (t.ins.get k)) (t.ins.get k) ?_)
 have h2:=λRS h=>bt.gQ (Rl t.ins.n k (λi=>bL ((aE (cS a b) t.ins k).get i)) (t.ins.get k) a b hk) [6,3,4,0] RS rfl h
 refine ai (bX hk) (ai (dv _) ⟨h1,h2 _ ⟨rfl,aQ rfl,rfl,aQ rfl,rfl,aQ rfl,rfl,aQ rfl,rfl⟩,ai (bX hk) (ai (dv _) ⟨h1,h2 _ ⟨rfl,aQ rfl,rfl,aQ rfl,rfl,aQ rfl,rfl,aQ rfl,rfl⟩,?_⟩)⟩)
 refine ae.rename [0,1,2,3,4,5] rfl (ae.open 0 5 rfl rfl trivial ?_)
 exact ae.lr (ry t a b (aH 0) k (λi=>bL ((aE (cS a b) t.ins k).get i)) (qO 2 a b (t.ins.get k))) (yi t a b hS k hk _ (by rw [hc]; rfl) ih)
theorem Qm (hS:aM t) (k:Nat) (hk:k<t.ins.n) (hc:gL (t.ins.get k).op=3) (ih:ae 125 2 (Go.V.bA [bV t.ins,fb t.aa] (.t []) [bV (aE (cS a b) t.ins t.ins.n),fb (aE (dV a b) t.aa t.aa.n)]) (af 125 4) (lh t a b (aH 0) (k+1))):ae 125 2 (Go.V.bA [bV t.ins,fb t.aa] (.t []) [bV (aE (cS a b) t.ins t.ins.n),fb (aE (dV a b) t.aa t.aa.n)]) (af 125 7) (vE t a b k (λi=>bL ((aE (cS a b) t.ins k).get i)) (t.ins.get k) (t.ins.get k)):=by
 have h1:LC 95 [int (t.ins.get k).op] [] (int 3) []:=hc▸CH (t.ins.get k).op
 refine aG (X:=X7 3 (yd t.ins.n k (λi=>bL ((aE (cS a b) t.ins k).get i)) (qO 3 a b (t.ins.get k)))) (stop:=eZ) (PV _ _ t a b k (λi=>bL ((aE (cS a b) t.ins k).get i)) (qO 3 a b (t.ins.get k)) (t.ins.get k) ?_)
 have h2:=λRS h=>bt.gQ (Wx t.ins.n k (λi=>bL ((aE (cS a b) t.ins k).get i)) (t.ins.get k) a b hk) [6,3,4,0] RS rfl h
 refine ai (bX hk) (ai (dv _) ⟨h1,h2 _ ⟨rfl,aQ rfl,rfl,aQ rfl,rfl,aQ rfl,rfl,aQ rfl,rfl⟩,ai (bX hk) (ai (dv _) ⟨h1,h2 _ ⟨rfl,aQ rfl,rfl,aQ rfl,rfl,aQ rfl,rfl,aQ rfl,rfl⟩,?_⟩)⟩)
 refine ae.rename [0,1,2,3,4,5] rfl (ae.open 0 5 rfl rfl trivial ?_)
 exact ae.lr (ry t a b (aH 0) k (λi=>bL ((aE (cS a b) t.ins k).get i)) (qO 3 a b (t.ins.get k))) (yi t a b hS k hk _ (by rw [hc]; rfl) ih)
theorem TH (hS:aM t) (s:Sq au) (k:Nat) (hk:k<t.aa.n) (j:Nat) (hj:j<(t.aa.get k).az.n) (ih:ae 125 2 (Go.V.bA [bV t.ins,fb t.aa] (.t []) [bV (aE (cS a b) t.ins t.ins.n),fb (aE (dV a b) t.aa t.aa.n)]) (af 125 19) (ly t a b (aH 0) s k (λi=>bD ((aE (dV a b) t.aa k).get i)) (t.aa.get k) (j+1))):ae 125 2 (Go.V.bA [bV t.ins,fb t.aa] (.t []) [bV (aE (cS a b) t.ins t.ins.n),fb (aE (dV a b) t.aa t.aa.n)]) (af 125 22) (wA t a b s k (λi=>bD ((aE (dV a b) t.aa k).get i)) (t.aa.get k) j (λi=>fR ((aE (wP a b) (t.aa.get k).az j).get i)) ((t.aa.get k).az.get j) { ((t.aa.get k).az.get j) with items:=jN a b ((t.aa.get k).az.get j).items ((t.aa.get k).az.get j).items.n }):=by
 have hN:=(hS.ex k hk).az
 have hW:=b6 hj (by unfold maxLen; omega:_<=maxLen)
 refine aG (X:=X22 (foV (t.aa.get k).az.n j (λi=>fR ((aE (wP a b) (t.aa.get k).az j).get i)) (wP a b ((t.aa.get k).az.get j)))) (stop:=eZ) (PZ _ _ t a b s k (λi=>bD ((aE (dV a b) t.aa k).get i)) (t.aa.get k) j (λi=>fR ((aE (wP a b) (t.aa.get k).az j).get i)) (wP a b ((t.aa.get k).az.get j)) { ((t.aa.get k).az.get j) with items:=jN a b ((t.aa.get k).az.get j).items ((t.aa.get k).az.get j).items.n } ?_)
 have h2:=λRS h=>bt.gQ (ah0 (t.aa.get k).az.n j (λi=>fR ((aE (wP a b) (t.aa.get k).az j).get i)) { ((t.aa.get k).az.get j) with items:=jN a b ((t.aa.get k).az.get j).items ((t.aa.get k).az.get j).items.n } a b hj) [9,3,4,7] RS rfl h
 refine ai (aC hj) ⟨h2 _ ⟨rfl,aQ rfl,rfl,aQ rfl,rfl,aQ rfl,rfl,aQ rfl,rfl⟩,ai (aC hj) ⟨h2 _ ⟨rfl,aQ rfl,rfl,aQ rfl,rfl,aQ rfl,rfl,aQ rfl,rfl⟩,?_⟩⟩
 rw [hW]
 exact ae.rename [0,1,2,3,4,5,6,7,8] rfl (ae.lf (ly t a b (aH 0) s k (λi=>bD ((aE (dV a b) t.aa k).get i)) (t.aa.get k) (j+1)) (rc (rc (rc (rc (rc (rc (rc (.cons (iL (f:=wP a b) ⟨aR.aB _,aR.aB _,aR.aB _,aR.refl _,trivial⟩) (rc .nil))))))))) ih)
theorem TF (hS:aM t) (s:Sq au) (k:Nat) (hk:k<t.aa.n) (j:Nat) (hj:j<(t.aa.get k).az.n) (ih:ae 125 2 (Go.V.bA [bV t.ins,fb t.aa] (.t []) [bV (aE (cS a b) t.ins t.ins.n),fb (aE (dV a b) t.aa t.aa.n)]) (af 125 19) (ly t a b (aH 0) s k (λi=>bD ((aE (dV a b) t.aa k).get i)) (t.aa.get k) (j+1))):ae 125 2 (Go.V.bA [bV t.ins,fb t.aa] (.t []) [bV (aE (cS a b) t.ins t.ins.n),fb (aE (dV a b) t.aa t.aa.n)]) (af 125 20) (wX t a b (aH 0) s k (λi=>bD ((aE (dV a b) t.aa k).get i)) (t.aa.get k) j (λi=>fR ((aE (wP a b) (t.aa.get k).az j).get i)) ((t.aa.get k).az.get j)):=by
 have hI:=(hS.ex k hk).items j hj
 refine aG (X:=XB (jN a b ((t.aa.get k).az.get j).items ((t.aa.get k).az.get j).items.n)) (stop:=eZ) (Pc _ _ t a b (jN a b ((t.aa.get k).az.get j).items ((t.aa.get k).az.get j).items.n) s k (λi=>bD ((aE (dV a b) t.aa k).get i)) (t.aa.get k) j (λi=>fR ((aE (wP a b) (t.aa.get k).az j).get i)) ((t.aa.get k).az.get j) ?_)
 refine ai (aC hj) (ai (bX hj) (ai (dv _) ⟨bt.gQ (Ka a b ((t.aa.get k).az.get j).items hI) [9,5,3,4] _ rfl ⟨rfl,aQ rfl,rfl,aQ rfl,rfl,aQ rfl,rfl,aQ rfl,rfl⟩,?_⟩))
 refine ae.close 7 3 9 rfl rfl rfl rfl rfl rfl (ae.rename [0,1,2,3,4,5,6,7,8] rfl ?_)
 exact ae.lr (wA t a b s k (λi=>bD ((aE (dV a b) t.aa k).get i)) (t.aa.get k) j (λi=>fR ((aE (wP a b) (t.aa.get k).az j).get i)) ((t.aa.get k).az.get j) { ((t.aa.get k).az.get j) with items:=jN a b ((t.aa.get k).az.get j).items ((t.aa.get k).az.get j).items.n }) (TH t a b hS s k hk j hj ih)
theorem Tn (hS:aM t) (s:Sq au) (k:Nat) (hk:k<t.aa.n) (ih:ae 125 2 (Go.V.bA [bV t.ins,fb t.aa] (.t []) [bV (aE (cS a b) t.ins t.ins.n),fb (aE (dV a b) t.aa t.aa.n)]) (af 125 11) (j5 t a b (aH 0) s (k+1))):∀ j,j<=(t.aa.get k).az.n->ae 125 2 (Go.V.bA [bV t.ins,fb t.aa] (.t []) [bV (aE (cS a b) t.ins t.ins.n),fb (aE (dV a b) t.aa t.aa.n)]) (af 125 19) (ly t a b (aH 0) s k (λi=>bD ((aE (dV a b) t.aa k).get i)) (t.aa.get k) j):=by
 have hB:=(hS.ex k hk).az
 have hN:=hS.aa
 refine aN (λj hj oH=>?_) ?_
 .refine aG (X:=XB (aH 0)) (stop:=eZ) (CN _ _ t a b (aH 0) s k (λi=>bD ((aE (dV a b) t.aa k).get i)) (t.aa.get k) j ?_)
  refine ag (λh0=>?_) (λh=>(dec_lt h hj).elim)
  refine ae.iZ 7 j (gu (fR ((t.aa.get k).az.get j)) 4 0) rfl hj (by grind [mn]) (ae.open 7 3 rfl rfl trivial ?_)
  exact ae.lr (wX t a b (aH 0) s k (λi=>bD ((aE (dV a b) t.aa k).get i)) (t.aa.get k) j (λi=>fR ((aE (wP a b) (t.aa.get k).az j).get i)) ((t.aa.get k).az.get j)) (TF t a b hS s k hk j hj oH)
 .refine aG (X:=XB (aH 0)) (stop:=eZ) (CN _ _ t a b (aH 0) s k (λi=>bD ((aE (dV a b) t.aa k).get i)) (t.aa.get k) _ ?_)
  refine ag (λh=>bq h) (λh=>?_)
  rw [b6 hk (by unfold maxLen; omega:_<=maxLen)]
  refine ae.close 1 0 6 rfl rfl rfl rfl rfl rfl (ae.close 1 1 7 rfl rfl rfl rfl rfl rfl (ae.rename [0,1,2,3,4,5] rfl ?_))
  exact ae.lf (j5 t a b (aH 0) s (k+1)) (rc (.cons (iL (f:=dV a b) ⟨aR.refl _,aR.refl _,aR.aB _,trivial⟩) (rc (rc (rc (rc .nil)))))) ih
theorem SB (hS:aM t) (s:Sq au) (k:Nat) (hk:k<t.aa.n) (j:Nat) (hj:j<(t.aa.get k).frames.n) (ih:ae 125 2 (Go.V.bA [bV t.ins,fb t.aa] (.t []) [bV (aE (cS a b) t.ins t.ins.n),fb (aE (dV a b) t.aa t.aa.n)]) (af 125 14) (nT t a b (aH 0) s k (λi=>bD ((aE (dV a b) t.aa k).get i)) (t.aa.get k) (j+1))):ae 125 2 (Go.V.bA [bV t.ins,fb t.aa] (.t []) [bV (aE (cS a b) t.ins t.ins.n),fb (aE (dV a b) t.aa t.aa.n)]) (af 125 15) (wN t a b (aH 0) s k (λi=>bD ((aE (dV a b) t.aa k).get i)) (t.aa.get k) j (λi=>dA ((aE (Gw a b) (t.aa.get k).frames j).get i)) ((t.aa.get k).frames.get j)):=by
 have hI:=(hS.ex k hk).vars j hj
 have hB:=(hS.ex k hk).frames
 have hW:=b6 hj (by unfold maxLen; omega:_<=maxLen)
 refine aG (X:=XB (jN a b ((t.aa.get k).frames.get j).vars ((t.aa.get k).frames.get j).vars.n)) (stop:=eZ) (P1 _ _ t a b (jN a b ((t.aa.get k).frames.get j).vars ((t.aa.get k).frames.get j).vars.n) s k (λi=>bD ((aE (dV a b) t.aa k).get i)) (t.aa.get k) j (λi=>dA ((aE (Gw a b) (t.aa.get k).frames j).get i)) ((t.aa.get k).frames.get j) ?_)
 refine ai (aC hj) (ai (bX hj) (ai (dv _) ⟨bt.gQ (Ka a b ((t.aa.get k).frames.get j).vars hI) [9,5,3,4] _ rfl ⟨rfl,aQ rfl,rfl,aQ rfl,rfl,aQ rfl,rfl,aQ rfl,rfl⟩,?_⟩))
 rw [hW]
 refine ae.close 6 2 9 rfl rfl rfl rfl rfl rfl (ae.rename [0,1,2,3,4,5,6,7,8] rfl ?_)
 exact ae.lf (nT t a b (aH 0) s k (λi=>bD ((aE (dV a b) t.aa k).get i)) (t.aa.get k) (j+1)) (rc (rc (rc (rc (rc (rc (.cons (iL (f:=Gw a b) ⟨aR.aB _,aR.aB _,aR.refl _,trivial⟩) (rc (rc .nil))))))))) ih
theorem VE (hS:aM t) (s:Sq au) (k:Nat) (hk:k<t.aa.n) (ih:ae 125 2 (Go.V.bA [bV t.ins,fb t.aa] (.t []) [bV (aE (cS a b) t.ins t.ins.n),fb (aE (dV a b) t.aa t.aa.n)]) (af 125 11) (j5 t a b (aH 0) s (k+1))):∀ j,j<=(t.aa.get k).frames.n->ae 125 2 (Go.V.bA [bV t.ins,fb t.aa] (.t []) [bV (aE (cS a b) t.ins t.ins.n),fb (aE (dV a b) t.aa t.aa.n)]) (af 125 14) (nT t a b (aH 0) s k (λi=>bD ((aE (dV a b) t.aa k).get i)) (t.aa.get k) j):=by
 refine aN (λj hj oH=>?_) ?_
 .refine aG (X:=XB (aH 0)) (stop:=eZ) (Cb _ _ t a b (aH 0) s k (λi=>bD ((aE (dV a b) t.aa k).get i)) (t.aa.get k) j ?_)
  refine ag (λh0=>?_) (λh=>(dec_lt h hj).elim)
  refine ae.iZ 6 j (gu (dA ((t.aa.get k).frames.get j)) 3 0) rfl hj (by grind [mn]) (ae.open 6 2 rfl rfl trivial ?_)
  exact ae.lr (wN t a b (aH 0) s k (λi=>bD ((aE (dV a b) t.aa k).get i)) (t.aa.get k) j (λi=>dA ((aE (Gw a b) (t.aa.get k).frames j).get i)) ((t.aa.get k).frames.get j)) (SB t a b hS s k hk j hj oH)
 .refine aG (X:=XB (aH 0)) (stop:=eZ) (Cb _ _ t a b (aH 0) s k (λi=>bD ((aE (dV a b) t.aa k).get i)) (t.aa.get k) _ ?_)
  refine ag (λh=>bq h) (λh=>?_)
  exact ae.lf (ly t a b (aH 0) s k (λi=>bD ((aE (dV a b) t.aa k).get i)) (t.aa.get k) 0) (rc (rc (rc (rc (rc (rc (rc (.cons (rm) (rc .nil))))))))) (Tn t a b hS s k hk ih 0 (bk _))
theorem RF (hS:aM t) (s:Sq au) (k:Nat) (hk:k<t.aa.n) (ih:ae 125 2 (Go.V.bA [bV t.ins,fb t.aa] (.t []) [bV (aE (cS a b) t.ins t.ins.n),fb (aE (dV a b) t.aa t.aa.n)]) (af 125 11) (j5 t a b (aH 0) s (k+1))):ae 125 2 (Go.V.bA [bV t.ins,fb t.aa] (.t []) [bV (aE (cS a b) t.ins t.ins.n),fb (aE (dV a b) t.aa t.aa.n)]) (af 125 12) (wJ t a b (aH 0) s k (λi=>bD ((aE (dV a b) t.aa k).get i)) (t.aa.get k)):=by
 refine aG (X:=XB (aH 0)) (stop:=eZ) (P8 _ _ t a b (aH 0) s k (λi=>bD ((aE (dV a b) t.aa k).get i)) (t.aa.get k) ?_)
 refine ai (aC hk) (ai (bX hk) (ai (dv _) ?_))
 exact ae.lf (nT t a b (aH 0) s k (λi=>bD ((aE (dV a b) t.aa k).get i)) (t.aa.get k) 0) (rc (rc (rc (rc (rc (rc (.cons (rm) (rc (rc .nil))))))))) (VE t a b hS s k hk ih 0 (bk _))
theorem Vs (hS:aM t):∀ k,k<=t.aa.n->ae 125 2 (Go.V.bA [bV t.ins,fb t.aa] (.t []) [bV (aE (cS a b) t.ins t.ins.n),fb (aE (dV a b) t.aa t.aa.n)]) (af 125 11) (j5 t a b (aH 0) (aE (cS a b) t.ins t.ins.n) k):=by
 refine aN (λk hk oH=>?_) ?_
 .refine aG (X:=XB (aH 0)) (stop:=eZ) (C0 _ _ t a b (aH 0) _ k ?_)
  refine ag (λh0=>?_) (λh=>(dec_lt h hk).elim)
  refine ae.iZ 1 k (gu (bD (t.aa.get k)) 3 0) rfl hk (by grind [mn]) (ae.open 1 0 rfl rfl trivial (ae.open 1 1 rfl rfl trivial ?_))
  exact ae.lr (wJ t a b (aH 0) (aE (cS a b) t.ins t.ins.n) k (λi=>bD ((aE (dV a b) t.aa k).get i)) (t.aa.get k)) (RF t a b hS _ k hk oH)
 .refine aG (X:=XB (aH 0)) (stop:=eZ) (C0 _ _ t a b (aH 0) _ _ ?_)
  refine ag (λh=>bq h) (λh=>?_)
  exact ⟨[0,1],.t [],_,_,rfl,(rc (rc .nil)),⟨2,aQ rfl,aQ rfl,rfl,rfl,aX.refl _,⟨.inr rfl,⟨.inr rfl,trivial⟩⟩⟩⟩
theorem ab2 (hS:aM t):∀ k,k<=t.ins.n->ae 125 2 (Go.V.bA [bV t.ins,fb t.aa] (.t []) [bV (aE (cS a b) t.ins t.ins.n),fb (aE (dV a b) t.aa t.aa.n)]) (af 125 4) (lh t a b (aH 0) k):=by
 refine aN (λk hk ih=>?_) ?_
 .refine aG (X:=XA (aH 0)) (stop:=eZ) (M6 _ _ t a b (aH 0) k ?_)
  refine ag (λh0=>?_) (λh=>(dec_lt h hk).elim)
  refine ai (aC hk) ?_
  refine ae.iZ 0 k (gu (bL (t.ins.get k)) 14 0) rfl hk (by grind [mn]) ?_
  rcases nO (t.ins.get k).op with hc|hc|hc|hc
  .exact ae.lr (vJ t a b k (λi=>bL ((aE (cS a b) t.ins k).get i)) (t.ins.get k) (t.ins.get k)) (Qb t a b hS k hk hc ih)
  .exact ae.lr (vC t a b k (λi=>bL ((aE (cS a b) t.ins k).get i)) (t.ins.get k) (t.ins.get k)) (PG t a b hS k hk hc ih)
  .exact ae.lr (wL t a b k (λi=>bL ((aE (cS a b) t.ins k).get i)) (t.ins.get k) (t.ins.get k)) (Pw t a b hS k hk hc ih)
  .exact ae.lr (vE t a b k (λi=>bL ((aE (cS a b) t.ins k).get i)) (t.ins.get k) (t.ins.get k)) (Qm t a b hS k hk hc ih)
 .refine aG (X:=XA (aH 0)) (stop:=eZ) (M6 _ _ t a b (aH 0) _ ?_)
  refine ag (λh=>bq h) (λh=>?_)
  exact ae.lf (j5 t a b (aH 0) (aE (cS a b) t.ins t.ins.n) 0) (rc (.cons (rm) (rc (rc (rc (rc .nil)))))) (Vs t a b hS 0 (bk _))
theorem av7 (hS:aM t):LC 125 [.a [.im (iI t.place.fn),.im (iI t.place.line),.sa 0 t.ins.n,.sa 1 t.aa.n],int a,int b] [bV t.ins,fb t.aa] (.t []) [bV (aE (cS a b) t.ins t.ins.n),fb (aE (dV a b) t.aa t.aa.n)]:=by
 refine cM bj0 (aQ (by kernel_rfl)) (cY (X:=XA (aH 0)) (stop:=eZ) (aP2 _ _ t a b (aH 0) ?_))
 exact ae.lf (lh t a b (aH 0) 0) (.cons (rm) (rc (rc (rc (rc (rc .nil)))))) (ab2 t a b hS 0 (bk _))
end
open Go Go.V
section
def RB:eU:={ F:=pY }
end
def Hv:Nat->Bool:=λi=>Nat.beq i 1
section
variable (L:LP) (QE:D->List ah->Prop) (s:Sq Int) (a b:Int) (k:Nat)
theorem bg3:Fn 128:={}
theorem bg4 (h:L (af 128 1) ⟨[(zD s),(dC a),(dn b),yV],[(eJ s)],[]⟩):ep RB 128 Hv L QE [.c (.sa 0 s.n),int a,int b] [hZ s]:=km h
def uY:VS:=⟨[(0,(.c (.sa 0 s.1)),[]),(1,(int a),[]),(2,(int b),[]),(6,int k,[])],[(eJ s)],[]⟩
theorem ND (h:br (decide ((↑k:Int)<(↑s.1:Int))) (nd (bQ (↑k:Int) s.1) (nd (k.blt s.1) (br (s.2 k==a) (nd (bQ (↑k:Int) s.1) (nd (k.blt s.1) (L (af 128 1) ⟨[(zD s),(dC a),(dn b),(6,((int (IntKind.i64.wrap ((↑k:Int)+1))),[]))],[(.arr 3 1 s.1 (B2 (λi=>bn (s.2 i)) k 0 [I.v (Value.int IntKind.i64 b)]))],[]⟩))) (L (af 128 1) ⟨[(zD s),(dC a),(dn b),(6,((int (IntKind.i64.wrap ((↑k:Int)+1))),[]))],[(eJ s)],[]⟩)))) (QE (.t []) [(.arr 3 1 s.1 (λi=>bn (s.2 i)))])):b5 RB 128 Hv L QE 1 (uY s a b k):=km h
theorem ao9 {x y z:Go.V.I} (h:cD x y) (k:cD y z):cD x z:=λav w v q=>k av w v (h av w v q)
theorem aT4 (s:Sq Int) (hs:s.n<=1000):∀ k,k<=s.n->ae 128 1 (Go.V.bA [hZ s] (.t []) [hZ (jN a b s s.n)]) (af 128 1) (uY (jN a b s k) a b k):=by
 refine aN (λk hk ih=>?_) ?_
 .refine aG (X:=RB) (stop:=Hv) (ND _ _ (jN a b s k) a b k ?_)
  refine ag (λh=>?_) (λh=>(dec_lt h hk).elim)
  refine ai (aC hk) (ai (bX hk) ?_)
  rw [b6 (show k<(jN a b s k).1 from hk) (by show s.n<=maxLen; unfold maxLen; omega)]
  refine ag (λh=>?_) (λh=>?_)
  .refine ai (aC hk) (ai (bX hk) ?_)
   exact ae.lf (uY (jN a b s (k+1)) a b (k+1)) (.cons (aY.arr λi hi c hc=>ao9 (On (jN a b s k) k b i hi c hc) ((by have:=zk a b s k i hi c hc; rw [pV h] at this; exact this))) .nil) ih
  .exact ae.lf (uY (jN a b s (k+1)) a b (k+1)) (.cons (aY.arr λi hi c hc=>ao9 (HB (jN a b s k) k _ (pW h) i hi c hc) (zk a b s k i hi c hc)) .nil) ih
 .refine aG (X:=RB) (stop:=Hv) (ND _ _ (jN a b s s.n) a b _ ?_)
  refine ag (λh=>bq h) (λh=>?_)
  exact ⟨[0],.t [],_,_,rfl,(rc .nil),⟨1,aQ rfl,aQ rfl,rfl,rfl,aX.refl _,⟨.inr rfl,trivial⟩⟩⟩
end
theorem JZ (a b:Int) (s:Sq Int) (hs:s.n<=1000):LC 128 [.c (.sa 0 s.n),int a,int b] [hZ s] (.t []) [hZ (jN a b s s.n)]:=by
 refine cM bg3 (aQ (by kernel_rfl)) (cY (X:=RB) (stop:=Hv) (bg4 _ _ s a b ?_))
 exact ae.lf (uY (jN a b s 0) a b 0) (.cons (aY.arr λi _ c _=>cD.refl _) .nil) (aT4 a b s hs 0 (bk _))
open Go Go.V
section
section
variable (x:au)
def aO2 (p q:Nat):List C:=[ci x.op,ci x.a,ci x.b,ci x.c,ci x.n,.sa p x.args.n,ci x.k.kind,ci x.k.n,.im (iS x.k.s),.sa q x.names.n,ci x.place.fn,ci x.place.line,ci x.exit,.im (iB x.once)]
def bg9:eU:={ F:=pY }
def by9 (m:Int):D×List ah:=bif m==1 then (.c (.sa 2 1),[.row 3 1 1 [ci x.a]]) else bif m==2 then (.c (.sa 2 2),[.row 3 1 2 [ci x.a,ci x.b]]) else bif m==3 then (.c (.sa 2 3),[.row 3 1 3 [ci x.a,ci x.b,ci x.c]]) else (.c (.im (.v (.slice none 0 0))),[])
def nE:D×List ah:=bif x.op==20 then (.c (.sa 0 x.args.n),[]) else by9 x (gL x.op)
end
end
section
variable (aj:D->List ah->Prop) (ax:au)
abbrev xy:Prop:=aj (.c (.sa 3 1)) [(.arr 3 1 ax.6.1 (λi=>bn (ax.6.2 i))),(.arr 9 1 ax.8.1 (λi=>cA (ax.8.2 i))),(.box [(ci ax.1),(ci ax.2),(ci ax.3),(ci ax.4),(ci ax.5),(.sa 0 ax.6.1),(ci ax.7.1),(ci ax.7.2),(.im (.v (.string ax.7.3))),(.sa 1 ax.8.1),(ci ax.9.1),(ci ax.9.2),(ci ax.10),(.im (.v (.bool ax.11)))]),(.row 3 1 1 [(ci ax.2)])]
abbrev Ol:Prop:=aj (.c (.sa 3 2)) [(.arr 3 1 ax.6.1 (λi=>bn (ax.6.2 i))),(.arr 9 1 ax.8.1 (λi=>cA (ax.8.2 i))),(.box [(ci ax.1),(ci ax.2),(ci ax.3),(ci ax.4),(ci ax.5),(.sa 0 ax.6.1),(ci ax.7.1),(ci ax.7.2),(.im (.v (.string ax.7.3))),(.sa 1 ax.8.1),(ci ax.9.1),(ci ax.9.2),(ci ax.10),(.im (.v (.bool ax.11)))]),(.row 3 1 2 [(ci ax.2),(ci ax.3)])]
theorem aP6 (L:LP) (QE:D->List ah->Prop) (x:au) (h:br (x.1==3) (xy QE x) (br (x.1==5) (xy QE x) (br (x.1==6) (xy QE x) (br (x.1==7) (xy QE x) (br (x.1==8) (xy QE x) (br (x.1==10) (xy QE x) (br (x.1==14) (xy QE x) (br (x.1==19) (xy QE x) (br (x.1==4) (Ol QE x) (br (x.1==9) (Ol QE x) (br (x.1==12) (Ol QE x) (br (x.1==11) (Ol QE x) (br (x.1==13) (QE (.c (.sa 3 3)) [(.arr 3 1 x.6.1 (λi=>bn (x.6.2 i))),(.arr 9 1 x.8.1 (λi=>cA (x.8.2 i))),(.box [(ci x.1),(ci x.2),(ci x.3),(ci x.4),(ci x.5),(.sa 0 x.6.1),(ci x.7.1),(ci x.7.2),(.im (.v (.string x.7.3))),(.sa 1 x.8.1),(ci x.9.1),(ci x.9.2),(ci x.10),(.im (.v (.bool x.11)))]),(.row 3 1 3 [(ci x.2),(ci x.3),(ci x.4)])]) (br (x.1==20) (QE (.c (.sa 0 x.6.1)) [(.arr 3 1 x.6.1 (λi=>bn (x.6.2 i))),(.arr 9 1 x.8.1 (λi=>cA (x.8.2 i))),(.box [(ci x.1),(ci x.2),(ci x.3),(ci x.4),(ci x.5),(.sa 0 x.6.1),(ci x.7.1),(ci x.7.2),(.im (.v (.string x.7.3))),(.sa 1 x.8.1),(ci x.9.1),(ci x.9.2),(ci x.10),(.im (.v (.bool x.11)))])]) (QE (.c (.im (.v (.slice .none 0 0)))) [(.arr 3 1 x.6.1 (λi=>bn (x.6.2 i))),(.arr 9 1 x.8.1 (λi=>cA (x.8.2 i))),(.box [(ci x.1),(ci x.2),(ci x.3),(ci x.4),(ci x.5),(.sa 0 x.6.1),(ci x.7.1),(ci x.7.2),(.im (.v (.string x.7.3))),(.sa 1 x.8.1),(ci x.9.1),(ci x.9.2),(ci x.10),(.im (.v (.bool x.11)))])]))))))))))))))):ep bg9 74 bH L QE [.a (aO2 x 0 1)] [hZ x.args,P0 x.names]:=km h
end
theorem A3 (x:au):LC 74 [.a (aO2 x 0 1)] [hZ x.args,P0 x.names] (nE x).1 ([hZ x.args,P0 x.names]++(nE x).2):=by
 refine cM aQ7 (aQ (by kernel_rfl)) (cY (X:=bg9) (stop:=bH) (aP6 _ _ x ?_))
 refine ag (λh0=>?_) (λh0=>?_)
 .have e:nE x=(.c (.sa 2 1),[.row 3 1 1 [ci x.a]]):=by unfold nE; rw [show x.op=3 from eq_of_beq h0]; rfl
  rw [e]
  exact ⟨[0,1,3],.c (.sa 2 1),_,_,rfl,(rc (rc (rc .nil))),⟨3,aQ rfl,aQ rfl,rfl,rfl,aX.refl _,⟨.inl (.inl rfl),⟨.inl (.inl rfl),⟨rfl,trivial⟩⟩⟩⟩⟩
 .refine ag (λh1=>?_) (λh1=>?_)
  .have e:nE x=(.c (.sa 2 1),[.row 3 1 1 [ci x.a]]):=by unfold nE; rw [show x.op=5 from eq_of_beq h1]; rfl
   rw [e]
   exact ⟨[0,1,3],.c (.sa 2 1),_,_,rfl,(rc (rc (rc .nil))),⟨3,aQ rfl,aQ rfl,rfl,rfl,aX.refl _,⟨.inl (.inl rfl),⟨.inl (.inl rfl),⟨rfl,trivial⟩⟩⟩⟩⟩
  .refine ag (λh2=>?_) (λh2=>?_)
   .have e:nE x=(.c (.sa 2 1),[.row 3 1 1 [ci x.a]]):=by unfold nE; rw [show x.op=6 from eq_of_beq h2]; rfl
    rw [e]
    exact ⟨[0,1,3],.c (.sa 2 1),_,_,rfl,(rc (rc (rc .nil))),⟨3,aQ rfl,aQ rfl,rfl,rfl,aX.refl _,⟨.inl (.inl rfl),⟨.inl (.inl rfl),⟨rfl,trivial⟩⟩⟩⟩⟩
   .refine ag (λh3=>?_) (λh3=>?_)
    .have e:nE x=(.c (.sa 2 1),[.row 3 1 1 [ci x.a]]):=by unfold nE; rw [show x.op=7 from eq_of_beq h3]; rfl
     rw [e]
     exact ⟨[0,1,3],.c (.sa 2 1),_,_,rfl,(rc (rc (rc .nil))),⟨3,aQ rfl,aQ rfl,rfl,rfl,aX.refl _,⟨.inl (.inl rfl),⟨.inl (.inl rfl),⟨rfl,trivial⟩⟩⟩⟩⟩
    .refine ag (λh4=>?_) (λh4=>?_)
     .have e:nE x=(.c (.sa 2 1),[.row 3 1 1 [ci x.a]]):=by unfold nE; rw [show x.op=8 from eq_of_beq h4]; rfl
      rw [e]
      exact ⟨[0,1,3],.c (.sa 2 1),_,_,rfl,(rc (rc (rc .nil))),⟨3,aQ rfl,aQ rfl,rfl,rfl,aX.refl _,⟨.inl (.inl rfl),⟨.inl (.inl rfl),⟨rfl,trivial⟩⟩⟩⟩⟩
     .refine ag (λh5=>?_) (λh5=>?_)
      .have e:nE x=(.c (.sa 2 1),[.row 3 1 1 [ci x.a]]):=by unfold nE; rw [show x.op=10 from eq_of_beq h5]; rfl
       rw [e]
       exact ⟨[0,1,3],.c (.sa 2 1),_,_,rfl,(rc (rc (rc .nil))),⟨3,aQ rfl,aQ rfl,rfl,rfl,aX.refl _,⟨.inl (.inl rfl),⟨.inl (.inl rfl),⟨rfl,trivial⟩⟩⟩⟩⟩
      .refine ag (λh6=>?_) (λh6=>?_)
       .have e:nE x=(.c (.sa 2 1),[.row 3 1 1 [ci x.a]]):=by unfold nE; rw [show x.op=14 from eq_of_beq h6]; rfl
        rw [e]
        exact ⟨[0,1,3],.c (.sa 2 1),_,_,rfl,(rc (rc (rc .nil))),⟨3,aQ rfl,aQ rfl,rfl,rfl,aX.refl _,⟨.inl (.inl rfl),⟨.inl (.inl rfl),⟨rfl,trivial⟩⟩⟩⟩⟩
       .refine ag (λh7=>?_) (λh7=>?_)
        .have e:nE x=(.c (.sa 2 1),[.row 3 1 1 [ci x.a]]):=by unfold nE; rw [show x.op=19 from eq_of_beq h7]; rfl
         rw [e]
         exact ⟨[0,1,3],.c (.sa 2 1),_,_,rfl,(rc (rc (rc .nil))),⟨3,aQ rfl,aQ rfl,rfl,rfl,aX.refl _,⟨.inl (.inl rfl),⟨.inl (.inl rfl),⟨rfl,trivial⟩⟩⟩⟩⟩
        .refine ag (λh8=>?_) (λh8=>?_)
         .have e:nE x=(.c (.sa 2 2),[.row 3 1 2 [ci x.a,ci x.b]]):=by unfold nE; rw [show x.op=4 from eq_of_beq h8]; rfl
          rw [e]
          exact ⟨[0,1,3],.c (.sa 2 2),_,_,rfl,(rc (rc (rc .nil))),⟨3,aQ rfl,aQ rfl,rfl,rfl,aX.refl _,⟨.inl (.inl rfl),⟨.inl (.inl rfl),⟨rfl,trivial⟩⟩⟩⟩⟩
         .refine ag (λh9=>?_) (λh9=>?_)
          .have e:nE x=(.c (.sa 2 2),[.row 3 1 2 [ci x.a,ci x.b]]):=by unfold nE; rw [show x.op=9 from eq_of_beq h9]; rfl
           rw [e]
           exact ⟨[0,1,3],.c (.sa 2 2),_,_,rfl,(rc (rc (rc .nil))),⟨3,aQ rfl,aQ rfl,rfl,rfl,aX.refl _,⟨.inl (.inl rfl),⟨.inl (.inl rfl),⟨rfl,trivial⟩⟩⟩⟩⟩
          .refine ag (λBH=>?_) (λBH=>?_)
           .have e:nE x=(.c (.sa 2 2),[.row 3 1 2 [ci x.a,ci x.b]]):=by unfold nE; rw [show x.op=12 from eq_of_beq BH]; rfl
            rw [e]
            exact ⟨[0,1,3],.c (.sa 2 2),_,_,rfl,(rc (rc (rc .nil))),⟨3,aQ rfl,aQ rfl,rfl,rfl,aX.refl _,⟨.inl (.inl rfl),⟨.inl (.inl rfl),⟨rfl,trivial⟩⟩⟩⟩⟩
           .refine ag (λUL=>?_) (λUL=>?_)
            .have e:nE x=(.c (.sa 2 2),[.row 3 1 2 [ci x.a,ci x.b]]):=by unfold nE; rw [show x.op=11 from eq_of_beq UL]; rfl
             rw [e]
             exact ⟨[0,1,3],.c (.sa 2 2),_,_,rfl,(rc (rc (rc .nil))),⟨3,aQ rfl,aQ rfl,rfl,rfl,aX.refl _,⟨.inl (.inl rfl),⟨.inl (.inl rfl),⟨rfl,trivial⟩⟩⟩⟩⟩
            .refine ag (λW9=>?_) (λW9=>?_)
             .have e:nE x=(.c (.sa 2 3),[.row 3 1 3 [ci x.a,ci x.b,ci x.c]]):=by unfold nE; rw [show x.op=13 from eq_of_beq W9]; rfl
              rw [e]
              exact ⟨[0,1,3],.c (.sa 2 3),_,_,rfl,(rc (rc (rc .nil))),⟨3,aQ rfl,aQ rfl,rfl,rfl,aX.refl _,⟨.inl (.inl rfl),⟨.inl (.inl rfl),⟨rfl,trivial⟩⟩⟩⟩⟩
             .refine ag (λh13=>?_) (λh13=>?_)
              .have e:nE x=(.c (.sa 0 x.args.n),[]):=by unfold nE; grind
               rw [e]
               exact ⟨[0,1],.c (.sa 0 x.args.n),_,_,rfl,(rc (rc .nil)),⟨2,aQ rfl,aQ rfl,rfl,rfl,aX.refl _,⟨.inl (.inl rfl),⟨.inl (.inl rfl),trivial⟩⟩⟩⟩
              .have e:nE x=(.c (.im (.v (.slice none 0 0))),[]):=by unfold nE gL; simp only [show (x.op==3)=false from h0,show (x.op==5)=false from h1,show (x.op==6)=false from h2,show (x.op==7)=false from h3,show (x.op==8)=false from h4,show (x.op==10)=false from h5,show (x.op==14)=false from h6,show (x.op==19)=false from h7,show (x.op==4)=false from h8,show (x.op==9)=false from h9,show (x.op==12)=false from BH,show (x.op==11)=false from UL,show (x.op==13)=false from W9,show (x.op==20)=false from h13]; rfl
               rw [e]
               exact ⟨[0,1],.c (.im (.v (.slice none 0 0))),_,_,rfl,(rc (rc .nil)),⟨2,aQ rfl,aQ rfl,rfl,rfl,aX.refl _,⟨.inl (.inl rfl),⟨.inl (.inl rfl),trivial⟩⟩⟩⟩
open Go Go.V
section
section
variable (n:Nat) (s1:Sq Int) (k:Nat) (g:Nat->Nat->O)
def Q7:eU:={ F:=ext pY [(128,λ_ _=>(.t [],[(3,hZ s1)],[]))],S:=qy }
def OK:eU:={ F:=ext pY [(128,λ_ _=>(.t [],[(5,hZ s1)],[]))],S:=qy }
def XnL:eU:={ F:=ext pY [(74,λ_ _=>(.c (.sa 3 n),[],[])),(128,λ_ _=>(.t [],[(3,hZ s1)],[]))],S:=qy }
def XnN:eU:={ F:=ext pY [(74,λ_ _=>(.c (.im (.v (.slice none 0 0))),[],[])),(128,λ_ _=>(.t [],[],[]))],S:=qy }
def XnR (q:Nat) (r:ah):eU:={ F:=ext pY [(74,λ_ _=>(.c (.sa 5 q),[],[r])),(128,λ_ _=>(.t [],[],[]))],S:=qy }
def foN (x:au):ah:=.bo 52 14 n g (some (k,setAt (setAt (gu (cn x) 14 0) 5 (.c (.sa 3 x.args.n))) 9 (.c (.sa 4 x.names.n))))
def feN (x:aq):ah:=.bo 57 3 n g (some (k,setAt (setAt (gu (cL x) 3 0) 0 (.c (.sa 3 x.frames.n))) 1 (.c (.sa 4 x.az.n))))
def ffN (x:cK):ah:=.bo 92 3 n g (some (k,setAt (gu (dA x) 3 0) 2 (.c (.sa 5 x.vars.n))))
def fvN (x:cZ):ah:=.bo 59 4 n g (some (k,setAt (gu (jH x) 4 0) 3 (.c (.sa 5 x.items.n))))
end
end
def iH:Nat->Bool:=λi=>Nat.beq i 2||Nat.beq i 4||Nat.beq i 7||Nat.beq i 9||Nat.beq i 11||Nat.beq i 15||Nat.beq i 18||Nat.beq i 20||Nat.beq i 22||Nat.beq i 24
section
variable (L:LP) (aj:ak) (QE:D->List ah->Prop) (ax:Nat->Nat->O) (t:ak) (a:Int) (aJ:Nat) (b:Int) (aZ:au) (s1:Sq Int) (k:Nat) (g:Nat->Nat->O) (x:au) (m:Int)
theorem bB5:Fn 78:={}
theorem by6 (h:L (af 78 2) ⟨[(dC a),(dn b),cX,yV],[(jt t),(iK t),(dB t)],[]⟩):ep (Q7 s1) 78 iH L QE [.a [.im (iI t.place.fn),.im (iI t.place.line),.sa 0 t.ins.n,.sa 1 t.aa.n],int a,int b] [cm t.ins,eV t.aa]:=km h
def jf (s1:Sq Int) (k:Nat):VS:=⟨[(1,int a,[]),(2,int b,[]),gV,(6,int k,[])],[cm (aE (cS a b) t.ins k),eV t.aa,Gx t],[]⟩
theorem WG (h:br (decide ((↑k:Int)<(↑t.2.1:Int))) (L (af 78 4) ⟨[(dC a),(dn b),cX,(lT k),(16,((bool true),[]))],[(.bo 52 14 t.2.1 (λi=>cn ((aE (cS a b) t.2 k).get i)) .none),(iK t),(dB t)],[]⟩) (L (af 78 15) ⟨[(dC a),(dn b),cX,(9,((int 0),[]))],[(.bo 52 14 t.2.1 (λi=>cn ((aE (cS a b) t.2 k).get i)) .none),(iK t),(dB t)],[]⟩)):b5 (Q7 s1) 78 iH L QE 2 (jf t a b s1 k):=km h
abbrev Lr (aj ax:Int) (aJ:Nat) (aZ:Int) (bR:ak) (cW:Nat->Nat->O) (de:au):VS:=⟨[(1,int aj,[]),(2,int ax,[]),gV,(6,int aJ,[]),(7,.c (.rt 0 aJ 0),[]),(8,int aZ,[])],[foN bR.ins.n aJ cW de,eV bR.aa,Gx bR,hZ de.args,P0 de.names],[]⟩
def w4 (s1:Sq Int) (k:Nat) (g:Nat->Nat->O) (x:au) (m:Int):VS:=(Lr a b k m t g x)
abbrev oC (aj:Nat):eQ:=(7,((.c (.rt 0 aj 0)),[]))
abbrev tq (aj:au):ah:=.arr 9 1 aj.8.1 (λi=>cA (aj.8.2 i))
abbrev NS:ah:=.bo 52 14 aj.2.1 (ax) (.some (aJ,[(.c (ci aZ.1)),(.c (ci aZ.2)),(.c (ci aZ.3)),(.c (ci aZ.4)),(.c (ci aZ.5)),(.c (.sa 3 aZ.6.1)),(.c (ci aZ.7.1)),(.c (ci aZ.7.2)),(.c (oW aZ)),(.c (.sa 4 aZ.8.1)),(.c (ci aZ.9.1)),(.c (ci aZ.9.2)),(.c (ci aZ.10)),(.c (gG aZ))]))
abbrev rk:List ah:=[(NS aj ax aJ aZ),(iK aj),(dB aj),(vA aZ),(tq aZ)]
theorem aB3 (h:br (decide (m>0)) (nd (k.blt t.2.1) (nd (k.beq k) (br (x.2==a) (nd (k.beq k) (L (af 78 9) ⟨[(dC a),(dn b),cX,(lT k),(oC k),(8,((int m),[]))],[(.bo 52 14 t.2.1 (g) (.some (k,[(.c (ci x.1)),(.c (ci b)),(.c (ci x.3)),(.c (ci x.4)),(.c (ci x.5)),(.c (.sa 3 x.6.1)),(.c (ci x.7.1)),(.c (ci x.7.2)),(.c (oW x)),(.c (.sa 4 x.8.1)),(.c (ci x.9.1)),(.c (ci x.9.2)),(.c (ci x.10)),(.c (gG x))]))),(iK t),(dB t),(vA x),(tq x)],[]⟩)) (L (af 78 9) ⟨[(dC a),(dn b),cX,(lT k),(oC k),(8,((int m),[])),(42,((bool false),[]))],(rk t g k x),[]⟩)))) (L (af 78 9) ⟨[(dC a),(dn b),cX,(lT k),(oC k),(8,((int m),[])),(42,((bool false),[]))],(rk t g k x),[]⟩)):b5 (Q7 s1) 78 iH L QE 7 (w4 t a b s1 k g x m):=km h
def A2 (s1:Sq Int) (k:Nat) (g:Nat->Nat->O) (x:au) (m:Int):VS:=(Lr a b k m t g x)
theorem aG3 (h:br (decide (m>1)) (nd (k.blt t.2.1) (nd (k.beq k) (br (x.3==a) (nd (k.beq k) (L (af 78 11) ⟨[(dC a),(dn b),cX,(lT k),(oC k),(8,((int m),[]))],[(.bo 52 14 t.2.1 (g) (.some (k,[(.c (ci x.1)),(.c (ci x.2)),(.c (ci b)),(.c (ci x.4)),(.c (ci x.5)),(.c (.sa 3 x.6.1)),(.c (ci x.7.1)),(.c (ci x.7.2)),(.c (oW x)),(.c (.sa 4 x.8.1)),(.c (ci x.9.1)),(.c (ci x.9.2)),(.c (ci x.10)),(.c (gG x))]))),(iK t),(dB t),(vA x),(tq x)],[]⟩)) (L (af 78 11) ⟨[(dC a),(dn b),cX,(lT k),(oC k),(8,((int m),[])),(56,((bool false),[]))],(rk t g k x),[]⟩)))) (L (af 78 11) ⟨[(dC a),(dn b),cX,(lT k),(oC k),(8,((int m),[])),(56,((bool false),[]))],(rk t g k x),[]⟩)):b5 (Q7 s1) 78 iH L QE 9 (A2 t a b s1 k g x m):=km h
def uQ (s1:Sq Int) (k:Nat) (g:Nat->Nat->O) (x:au) (m:Int):VS:=(Lr a b k m t g x)
theorem ZN (h:br (decide (m>2)) (nd (k.blt t.2.1) (nd (k.beq k) (br (x.4==a) (nd (k.beq k) (L (af 78 2) ⟨[(dC a),(dn b),cX,(6,((int (IntKind.i64.wrap ((↑k:Int)+1))),[]))],[(.bo 52 14 t.2.1 (g) (.some (k,[(.c (ci x.1)),(.c (ci x.2)),(.c (ci x.3)),(.c (ci b)),(.c (ci x.5)),(.c (.sa 3 x.6.1)),(.c (ci x.7.1)),(.c (ci x.7.2)),(.c (oW x)),(.c (.sa 4 x.8.1)),(.c (ci x.9.1)),(.c (ci x.9.2)),(.c (ci x.10)),(.c (gG x))]))),(iK t),(dB t),(vA x),(tq x)],[]⟩)) (L (af 78 2) ⟨[(dC a),(dn b),cX,(6,((int (IntKind.i64.wrap ((↑k:Int)+1))),[]))],(rk t g k x),[]⟩)))) (L (af 78 2) ⟨[(dC a),(dn b),cX,(6,((int (IntKind.i64.wrap ((↑k:Int)+1))),[]))],(rk t g k x),[]⟩)):b5 (Q7 s1) 78 iH L QE 11 (uQ t a b s1 k g x m):=km h
def xQ (a b:Int) (x:au):au:={ x with a:=bif decide (m>0) then sw a b x.a else x.a }
end
section
variable (m a b:Int) (x:au)
def wz:au:={ x with b:=bif decide (m>1) then sw a b x.b else x.b }
def yP:au:={ x with c:=bif decide (m>2) then sw a b x.c else x.c }
theorem yB (h:(x.op==20)=false):yP (aW x).n a b (wz (aW x).n a b (xQ (aW x).n a b x))={ cS a b x with args:=x.args }:=by
 have e:(aW x).n=(gL x.op).toNat:=by unfold aW; rw [h]; rfl
 rw [e]
 unfold xQ wz yP cS qO
 rcases nO x.op with h|h|h|h<;>rw [h]<;>rfl
end
theorem nsq {s q:Sq Int} (h:s.n=0) (hq:q.n=s.n):nV (sU s) (sU q):=by
 unfold sU
 rw [hq]
 exact nV.ar λi hi=>by omega
section
variable (t:ak) (a b:Int)
theorem Gb {s:Sq au} {a b:Int} {k:Nat} {y:au} (h0:(s.get k).args.n=0) (hy:y={ cS a b (s.get k) with args:=(s.get k).args }) :
  aY (.bo 52 14 s.n (λi=>cn ((aE (cS a b) s k).get i)) (some (k,[.c (.im (iI y.op)),.c (.im (iI y.a)),.c (.im (iI y.b)),.c (.im (iI y.c)),.c (.im (iI y.n)),.o (sU y.args),.c (.im (iI y.k.kind)),.c (.im (iI y.k.n)),.c (.im (iS y.k.s)),.o (O3 y.names),.c (.im (iI y.place.fn)),.c (.im (iI y.place.line)),.c (.im (iI y.exit)),.c (.im (iB y.once))]))) (cm (aE (cS a b) s (k+1))):=by
 subst hy
 exact iL (f:=cS a b) ⟨aR.aB _,aR.aB _,aR.aB _,aR.aB _,aR.aB _,aR.o (nsq h0 rfl),aR.aB _,aR.aB _,aR.aB _,aR.refl _,aR.aB _,aR.aB _,aR.aB _,aR.aB _,trivial⟩
theorem D0 (hS:aM t) (k:Nat) (hk:k<t.ins.n) (h0:(t.ins.get k).args.n=0) (ih:ae 78 2 (Go.V.bA [cm t.ins,eV t.aa] (.t []) [cm (aE (cS a b) t.ins t.ins.n),eV (aE (dV a b) t.aa t.aa.n)]) (af 78 2) (jf t a b (aH 0) (k+1))) (m:Int) (x:au) (hx:yP m a b x={ cS a b (t.ins.get k) with args:=(t.ins.get k).args }):ae 78 2 (Go.V.bA [cm t.ins,eV t.aa] (.t []) [cm (aE (cS a b) t.ins t.ins.n),eV (aE (dV a b) t.aa t.aa.n)]) (af 78 11) (uQ t a b (aH 0) k (λi=>cn ((aE (cS a b) t.ins k).get i)) x m):=by
 have hM:=hS.ins
 have hW:=b6 hk (by unfold maxLen; omega:_<=maxLen)
 refine aG (X:=Q7 (aH 0)) (stop:=iH) (ZN _ _ t a b (aH 0) k (λi=>cn ((aE (cS a b) t.ins k).get i)) x m ?_)
 refine ag (λh1=>?_) (λh1=>?_)
 .refine ai (bX hk) (ai (dv _) ?_)
  refine ag (λh2=>?_) (λh2=>?_)
  .refine ai (dv _) ?_
   have e:yP m a b x=(⟨x.op,x.a,x.b,b,x.n,x.args,x.k,x.names,x.place,x.exit,x.once⟩:au):=by grind [yP,pV]
   rw [hW]
   refine ae.close 0 5 3 rfl rfl rfl rfl rfl rfl (ae.close 0 9 4 rfl rfl rfl rfl rfl rfl (ae.rename [0,1,2] rfl ?_))
   exact ae.lf (jf t a b (aH 0) (k+1)) (.cons (Gb h0 (by rw [<- hx,e])) (rc (rc .nil))) ih
  .have e:yP m a b x=x:=by unfold yP; rw [h1,pW (show (x.c==a)=false from h2)]; rfl
   rw [hW]
   refine ae.close 0 5 3 rfl rfl rfl rfl rfl rfl (ae.close 0 9 4 rfl rfl rfl rfl rfl rfl (ae.rename [0,1,2] rfl ?_))
   exact ae.lf (jf t a b (aH 0) (k+1)) (.cons (Gb h0 (by rw [<- hx,e])) (rc (rc .nil))) ih
 .have e:yP m a b x=x:=by unfold yP; rw [h1]; rfl
  rw [hW]
  refine ae.close 0 5 3 rfl rfl rfl rfl rfl rfl (ae.close 0 9 4 rfl rfl rfl rfl rfl rfl (ae.rename [0,1,2] rfl ?_))
  exact ae.lf (jf t a b (aH 0) (k+1)) (.cons (Gb h0 (by rw [<- hx,e])) (rc (rc .nil))) ih
theorem KE (hS:aM t) (k:Nat) (hk:k<t.ins.n) (h0:(t.ins.get k).args.n=0) (ih:ae 78 2 (Go.V.bA [cm t.ins,eV t.aa] (.t []) [cm (aE (cS a b) t.ins t.ins.n),eV (aE (dV a b) t.aa t.aa.n)]) (af 78 2) (jf t a b (aH 0) (k+1))) (m:Int) (x:au) (hx:yP m a b (wz m a b x)={ cS a b (t.ins.get k) with args:=(t.ins.get k).args }):ae 78 2 (Go.V.bA [cm t.ins,eV t.aa] (.t []) [cm (aE (cS a b) t.ins t.ins.n),eV (aE (dV a b) t.aa t.aa.n)]) (af 78 9) (A2 t a b (aH 0) k (λi=>cn ((aE (cS a b) t.ins k).get i)) x m):=by
 refine aG (X:=Q7 (aH 0)) (stop:=iH) (aG3 _ _ t a b (aH 0) k (λi=>cn ((aE (cS a b) t.ins k).get i)) x m ?_)
 refine ag (λh1=>?_) (λh1=>?_)
 .refine ai (bX hk) (ai (dv _) ?_)
  refine ag (λh2=>?_) (λh2=>?_)
  .refine ai (dv _) ?_
   have e:wz m a b x=(⟨x.op,x.a,b,x.c,x.n,x.args,x.k,x.names,x.place,x.exit,x.once⟩:au):=by grind [wz,pV]
   have g:=D0 t a b hS k hk h0 ih m (wz m a b x) hx
   rw [e] at g
   exact ae.lr (uQ t a b (aH 0) k (λi=>cn ((aE (cS a b) t.ins k).get i)) (⟨x.op,x.a,b,x.c,x.n,x.args,x.k,x.names,x.place,x.exit,x.once⟩:au) m) g
  .have e:wz m a b x=x:=by unfold wz; rw [h1,pW (show (x.b==a)=false from h2)]; rfl
   have g:=D0 t a b hS k hk h0 ih m (wz m a b x) hx
   rw [e] at g
   exact ae.lr (uQ t a b (aH 0) k (λi=>cn ((aE (cS a b) t.ins k).get i)) x m) g
 .have e:wz m a b x=x:=by unfold wz; rw [h1]; rfl
  have g:=D0 t a b hS k hk h0 ih m (wz m a b x) hx
  rw [e] at g
  exact ae.lr (uQ t a b (aH 0) k (λi=>cn ((aE (cS a b) t.ins k).get i)) x m) g
theorem Fw (hS:aM t) (k:Nat) (hk:k<t.ins.n) (h0:(t.ins.get k).args.n=0) (ih:ae 78 2 (Go.V.bA [cm t.ins,eV t.aa] (.t []) [cm (aE (cS a b) t.ins t.ins.n),eV (aE (dV a b) t.aa t.aa.n)]) (af 78 2) (jf t a b (aH 0) (k+1))) (m:Int) (x:au) (hx:yP m a b (wz m a b (xQ m a b x))={ cS a b (t.ins.get k) with args:=(t.ins.get k).args }):ae 78 2 (Go.V.bA [cm t.ins,eV t.aa] (.t []) [cm (aE (cS a b) t.ins t.ins.n),eV (aE (dV a b) t.aa t.aa.n)]) (af 78 7) (w4 t a b (aH 0) k (λi=>cn ((aE (cS a b) t.ins k).get i)) x m):=by
 refine aG (X:=Q7 (aH 0)) (stop:=iH) (aB3 _ _ t a b (aH 0) k (λi=>cn ((aE (cS a b) t.ins k).get i)) x m ?_)
 refine ag (λh1=>?_) (λh1=>?_)
 .refine ai (bX hk) (ai (dv _) ?_)
  refine ag (λh2=>?_) (λh2=>?_)
  .refine ai (dv _) ?_
   have e:xQ m a b x=(⟨x.op,b,x.b,x.c,x.n,x.args,x.k,x.names,x.place,x.exit,x.once⟩:au):=by grind [xQ,pV]
   have g:=KE t a b hS k hk h0 ih m (xQ m a b x) hx
   rw [e] at g
   exact ae.lr (A2 t a b (aH 0) k (λi=>cn ((aE (cS a b) t.ins k).get i)) (⟨x.op,b,x.b,x.c,x.n,x.args,x.k,x.names,x.place,x.exit,x.once⟩:au) m) g
  .have e:xQ m a b x=x:=by unfold xQ; rw [h1,pW (show (x.a==a)=false from h2)]; rfl
   have g:=KE t a b hS k hk h0 ih m (xQ m a b x) hx
   rw [e] at g
   exact ae.lr (A2 t a b (aH 0) k (λi=>cn ((aE (cS a b) t.ins k).get i)) x m) g
 .have e:xQ m a b x=x:=by unfold xQ; rw [h1]; rfl
  have g:=KE t a b hS k hk h0 ih m (xQ m a b x) hx
  rw [e] at g
  exact ae.lr (A2 t a b (aH 0) k (λi=>cn ((aE (cS a b) t.ins k).get i)) x m) g
abbrev KC (aj ax:Int) (aJ:Nat) (aZ:ak) (bR:Nat->Nat->O) (cW:au):VS:=⟨[(1,int aj,[]),(2,int ax,[]),gV,(6,int aJ,[])],[foN aZ.ins.n aJ bR cW,eV aZ.aa,Gx aZ,hZ cW.args,P0 cW.names],[]⟩
def Fk (k:Nat) (g:Nat->Nat->O) (x:au) (s1:Sq Int)  : VS:=(KC a b k t g x)
end
section
variable (L:LP) (QE:D->List ah->Prop) (t:ak) (a b:Int) (k:Nat) (g:Nat->Nat->O) (x:au)
abbrev J7 (aj:au):D:=.a [(ci aj.1),(ci aj.2),(ci aj.3),(ci aj.4),(ci aj.5),(.sa 3 aj.6.1),(ci aj.7.1),(ci aj.7.2),(oW aj),(.sa 4 aj.8.1),(ci aj.9.1),(ci aj.9.2),(ci aj.10),(gG aj)]
theorem Yi (s1:Sq Int) (h:nd (bQ (↑k:Int) t.2.1) (nd (k.blt t.2.1) (nd (k.beq k) ((LC 74 [(J7 x)] (rk t g k x) (.c (.sa 3 x.6.1)) (rk t g k x)/\nd (k.blt t.2.1) (nd (k.beq k) (br (x.1 != 20) (L (af 78 7) ⟨[(dC a),(dn b),cX,(lT k),(oC k),(8,((int (↑x.6.1:Int)),[])),(32,((bool true),[]))],(rk t g k x),[]⟩) (nd (k.blt t.2.1) (nd (k.beq k) ((LC 128 [(.c (.sa 3 x.6.1)),(int a),(int b)] (rk t g k x) (.t []) [(NS t g k x),(iK t),(dB t),(eJ s1),(tq x)]/\L (af 78 2) ⟨[(dC a),(dn b),cX,(6,((int (IntKind.i64.wrap ((↑k:Int)+1))),[]))],[(NS t g k x),(iK t),(dB t),(eJ s1),(tq x)],[]⟩))))))))))):b5 (XnL x.args.n s1) 78 iH L QE 4 (Fk t a b k g x s1 ):=km h
def FT   : VS:=(KC a b k t g x)
theorem Xu (h:nd (bQ (↑k:Int) t.2.1) (nd (k.blt t.2.1) (nd (k.beq k) ((LC 74 [(J7 x)] (rk t g k x) (.c bS) (rk t g k x)/\nd (k.blt t.2.1) (nd (k.beq k) (br (x.1 != 20) (L (af 78 7) ⟨[(dC a),(dn b),cX,(lT k),(oC k),(8,((int (↑0:Int)),[])),(32,((bool true),[]))],(rk t g k x),[]⟩) (nd (k.blt t.2.1) (nd (k.beq k) ((LC 128 [(.c (.sa 3 x.6.1)),(int a),(int b)] (rk t g k x) (.t []) (rk t g k x)/\L (af 78 2) ⟨[(dC a),(dn b),cX,(6,((int (IntKind.i64.wrap ((↑k:Int)+1))),[]))],(rk t g k x),[]⟩))))))))))):b5 XnN 78 iH L QE 4 (FT t a b k g x  ):=km h
def oQ (q:Nat) (r:ah)  : VS:=(KC a b k t g x)
abbrev Ax (aj:ak) (ax:Nat->Nat->O) (aJ:Nat) (aZ:au) (bR:ah):List ah:=[(NS aj ax aJ aZ),(iK aj),(dB aj),(vA aZ),(tq aZ),bR]
end
section
variable (L:LP) (aj:aq) (QE:D->List ah->Prop) (ax:Nat->Nat->O) (t:ak) (aJ:Nat) (a b:Int) (s1:Sq Int) (s:Sq au) (k:Nat) (g:Nat->Nat->O) (e:aq) (j:Nat) (g2:Nat->Nat->O)
theorem Fh (x:au) (q:Nat) (r:ah) (h:nd (bQ (↑k:Int) t.2.1) (nd (k.blt t.2.1) (nd (k.beq k) ((LC 74 [(J7 x)] (rk t g k x) (.c (.sa 5 q)) (Ax t g k x r)/\nd (k.blt t.2.1) (nd (k.beq k) (br (x.1 != 20) (L (af 78 7) ⟨[(dC a),(dn b),cX,(lT k),(oC k),(8,((int (↑q:Int)),[])),(32,((bool true),[]))],(Ax t g k x r),[]⟩) (nd (k.blt t.2.1) (nd (k.beq k) ((LC 128 [(.c (.sa 3 x.6.1)),(int a),(int b)] (Ax t g k x r) (.t []) (Ax t g k x r)/\L (af 78 2) ⟨[(dC a),(dn b),cX,(6,((int (IntKind.i64.wrap ((↑k:Int)+1))),[]))],(Ax t g k x r),[]⟩))))))))))):b5 (XnR q r) 78 iH L QE 4 (oQ t a b k g x q r ):=km h
def ob (s1:Sq Int) (s:Sq au) (k:Nat):VS:=⟨[(1,int a,[]),(2,int b,[]),gV,(9,int k,[])],[cm s,eV (aE (dV a b) t.aa k),Gx t],[]⟩
abbrev kF (aj:Sq au):ah:=.bo 52 14 aj.1 (λi=>cn (aj.2 i)) .none
theorem HL (h:br (decide ((↑k:Int)<(↑t.3.1:Int))) (L (af 78 18) ⟨[(dC a),(dn b),cX,(oO k),(10,((int 0),[]))],[(kF s),(.bo 57 3 t.3.1 (λi=>cL ((aE (dV a b) t.3 k).get i)) .none),(dB t)],[]⟩) (QE (.t []) [(.bo 52 14 s.1 (λi=>cn (s.2 i)) .none),(.bo 57 3 t.3.1 (λi=>cL ((aE (dV a b) t.3 k).get i)) .none),(.box [(ci t.1.1),(ci t.1.2),(.sa 0 t.2.1),(.sa 1 t.3.1)])])):b5 (OK s1) 78 iH L QE 15 (ob t a b s1 s k):=km h
def qe (s1:Sq Int) (s:Sq au) (k:Nat) (g:Nat->Nat->O) (e:aq) (j:Nat):VS:=⟨[(1,int a,[]),(2,int b,[]),gV,(9,int k,[]),(10,int j,[])],[cm s,feN t.aa.n k g e,Gx t,tR (aE (Gw a b) e.frames j),YS e.az],[]⟩
abbrev qK (aj:ak) (ax:Nat->Nat->O) (aJ:Nat) (aZ:aq):ah:=.bo 57 3 aj.3.1 (ax) (.some (aJ,[(.c (.sa 3 aZ.1.1)),(.c (.sa 4 aZ.2.1)),(.c (ci aZ.3))]))
abbrev z6:ah:=.bo 59 4 aj.2.1 (λi=>jH (aj.2.2 i)) .none
theorem HG (h:nd (bQ (↑k:Int) t.3.1) (nd (k.blt t.3.1) (nd (k.beq k) (br (decide ((↑j:Int)<(↑e.1.1:Int))) (L (af 78 20) ⟨[(dC a),(dn b),cX,(oO k),(10,((int (↑j:Int)),[])),(97,((bool true),[]))],[(kF s),(qK t g k e),(dB t),(DG e a b j),(z6 e)],[]⟩) (L (af 78 22) ⟨[(dC a),(dn b),cX,(oO k),(11,((int 0),[]))],[(kF s),(qK t g k e),(dB t),(DG e a b j),(z6 e)],[]⟩))))):b5 (OK s1) 78 iH L QE 18 (qe t a b s1 s k g e j):=km h
def Bw (s1:Sq Int) (s:Sq au) (k:Nat) (g:Nat->Nat->O) (e:aq) (j:Nat) (g2:Nat->Nat->O) (x:cK):VS:=⟨[(1,int a,[]),(2,int b,[]),gV,(9,int k,[]),(10,int j,[])],[cm s,feN t.aa.n k g e,Gx t,ffN e.frames.n j g2 x,YS e.az,hZ x.vars],[]⟩
abbrev LI (aZ:cK):ah:=.bo 92 3 aj.1.1 (ax) (.some (aJ,[(.c (ci aZ.1)),(.c (ci aZ.2)),(.c (.sa 5 aZ.3.1))]))
theorem Ux (x:cK) (h:nd (bQ (↑k:Int) t.3.1) (nd (k.blt t.3.1) (nd (k.beq k) (nd (bQ (↑j:Int) e.1.1) (nd (j.blt e.1.1) (nd (j.beq j) ((LC 128 [(.c (.sa 5 x.3.1)),(int a),(int b)] [(kF s),(qK t g k e),(dB t),(LI e g2 j x),(z6 e),(.arr 3 1 x.3.1 (λi=>bn (x.3.2 i)))] (.t []) [(kF s),(qK t g k e),(dB t),(LI e g2 j x),(z6 e),(eJ s1)]/\L (af 78 18) ⟨[(dC a),(dn b),cX,(oO k),(10,((int (IntKind.i64.wrap ((↑j:Int)+1))),[]))],[(kF s),(qK t g k e),(dB t),(LI e g2 j x),(z6 e),(eJ s1)],[]⟩)))))))):b5 (OK s1) 78 iH L QE 20 (Bw t a b s1 s k g e j g2 x):=km h
def ou (s1:Sq Int) (s:Sq au) (k:Nat) (g:Nat->Nat->O) (e:aq) (j:Nat):VS:=⟨[(1,int a,[]),(2,int b,[]),gV,(9,int k,[]),(11,int j,[])],[cm s,feN t.aa.n k g e,Gx t,tR (aE (Gw a b) e.frames e.frames.n),YS (aE (wP a b) e.az j)],[]⟩
theorem G0 (h:nd (bQ (↑k:Int) t.3.1) (nd (k.blt t.3.1) (nd (k.beq k) (br (decide ((↑j:Int)<(↑e.2.1:Int))) (L (af 78 24) ⟨[(dC a),(dn b),cX,(oO k),(11,((int (↑j:Int)),[])),(121,((bool true),[]))],[(kF s),(qK t g k e),(dB t),(pN e a b),(.bo 59 4 e.2.1 (λi=>jH ((aE (wP a b) e.2 j).get i)) .none)],[]⟩) (L (af 78 15) ⟨[(dC a),(dn b),cX,(9,((int (IntKind.i64.wrap ((↑k:Int)+1))),[]))],[(kF s),(qK t g k e),(dB t),(pN e a b),(.bo 59 4 e.2.1 (λi=>jH ((aE (wP a b) e.2 j).get i)) .none)],[]⟩))))):b5 (OK s1) 78 iH L QE 22 (ou t a b s1 s k g e j):=km h
def zR (s1:Sq Int) (s:Sq au) (k:Nat) (g:Nat->Nat->O) (e:aq) (j:Nat) (g2:Nat->Nat->O) (x:cZ):VS:=⟨[(1,int a,[]),(2,int b,[]),gV,(9,int k,[]),(11,int j,[])],[cm s,feN t.aa.n k g e,Gx t,tR (aE (Gw a b) e.frames e.frames.n),fvN e.az.n j g2 x,hZ x.items],[]⟩
abbrev JL (aZ:cZ):ah:=.bo 59 4 aj.2.1 (ax) (.some (aJ,[(.c (ci aZ.1)),(.c (ci aZ.2)),(.o (.ar 9 1 aZ.3.1 (λi=>cA (aZ.3.2 i)))),(.c (.sa 5 aZ.4.1))]))
theorem SV (x:cZ) (h:nd (bQ (↑k:Int) t.3.1) (nd (k.blt t.3.1) (nd (k.beq k) (nd (bQ (↑j:Int) e.2.1) (nd (j.blt e.2.1) (nd (j.beq j) ((LC 128 [(.c (.sa 5 x.4.1)),(int a),(int b)] [(kF s),(qK t g k e),(dB t),(pN e a b),(JL e g2 j x),(.arr 3 1 x.4.1 (λi=>bn (x.4.2 i)))] (.t []) [(kF s),(qK t g k e),(dB t),(pN e a b),(JL e g2 j x),(eJ s1)]/\nd (bQ (↑k:Int) t.3.1) (nd (k.blt t.3.1) (nd (k.beq k) (nd (bQ (↑j:Int) e.2.1) (nd (j.blt e.2.1) (nd (j.beq j) (br (x.1==a) (nd (bQ (↑k:Int) t.3.1) (nd (k.blt t.3.1) (nd (k.beq k) (nd (bQ (↑j:Int) e.2.1) (nd (j.beq j) (L (af 78 22) ⟨[(dC a),(dn b),cX,(oO k),(11,((int (IntKind.i64.wrap ((↑j:Int)+1))),[]))],[(kF s),(qK t g k e),(dB t),(pN e a b),(.bo 59 4 e.2.1 (g2) (.some (j,[(.c (ci b)),(.c (ci x.2)),(.o (.ar 9 1 x.3.1 (λi=>cA (x.3.2 i)))),(.c (.sa 5 x.4.1))]))),(eJ s1)],[]⟩)))))) (L (af 78 22) ⟨[(dC a),(dn b),cX,(oO k),(11,((int (IntKind.i64.wrap ((↑j:Int)+1))),[]))],[(kF s),(qK t g k e),(dB t),(pN e a b),(JL e g2 j x),(eJ s1)],[]⟩))))))))))))))):b5 (OK s1) 78 iH L QE 24 (zR t a b s1 s k g e j g2 x):=km h
end
section
variable (t:ak) (a b:Int)
theorem ab0 (hS:aM t) (hN:∀ k,k<t.ins.n->(t.ins.get k).op≠20->(t.ins.get k).args.n=0) (k:Nat) (hk:k<t.ins.n) (ih:ae 78 2 (Go.V.bA [cm t.ins,eV t.aa] (.t []) [cm (aE (cS a b) t.ins t.ins.n),eV (aE (dV a b) t.aa t.aa.n)]) (af 78 2) (jf t a b (aH 0) (k+1))) (ho:(t.ins.get k).op=20):ae 78 2 (Go.V.bA [cm t.ins,eV t.aa] (.t []) [cm (aE (cS a b) t.ins t.ins.n),eV (aE (dV a b) t.aa t.aa.n)]) (af 78 4) (Fk t a b k (λi=>cn ((aE (cS a b) t.ins k).get i)) (t.ins.get k) (aH 0)):=by
 have hM:=hS.ins
 have hW:=b6 hk (by unfold maxLen; omega:_<=maxLen)
 have hA:=hS.args k hk
 have hu:nE (t.ins.get k)=(.c (.sa 0 (t.ins.get k).args.n),[]):=by unfold nE; rw [ho]; rfl
 have h0:=A3 (t.ins.get k)
 rw [hu] at h0
 have h1:=λRS h=>bt.gQ h0 [3,4] RS rfl h
 refine aG (X:=XnL (t.ins.get k).args.n (jN a b (t.ins.get k).args (t.ins.get k).args.n)) (stop:=iH) (Yi _ _ t a b k (λi=>cn ((aE (cS a b) t.ins k).get i)) (t.ins.get k) (jN a b (t.ins.get k).args (t.ins.get k).args.n) ?_)
 refine ai (aC hk) (ai (bX hk) (ai (dv _) ⟨h1 _ ⟨rfl,aQ rfl,rfl,aQ rfl,rfl⟩,ai (bX hk) (ai (dv _) (ag (λh=>?_) (λh=>?_)))⟩))
 .grind
 .refine ai (bX hk) (ai (dv _) ⟨bt.gQ (JZ a b (t.ins.get k).args hA) [3] _ rfl ⟨rfl,aQ rfl,rfl⟩,?_⟩)
  rw [hW]
  refine ae.close 0 5 3 rfl rfl rfl rfl rfl rfl (ae.close 0 9 4 rfl rfl rfl rfl rfl rfl (ae.rename [0,1,2] rfl ?_))
  have e:cS a b (t.ins.get k)={ (t.ins.get k) with args:=jN a b (t.ins.get k).args (t.ins.get k).args.n }:=by unfold cS qO; rw [show gL (t.ins.get k).op=0 from by rw [ho]; rfl]; rfl
  exact ae.lf (jf t a b (aH 0) (k+1)) (.cons (iL (f:=cS a b) (by rw [e]; exact ⟨aR.aB _,aR.aB _,aR.aB _,aR.aB _,aR.aB _,aR.refl _,aR.aB _,aR.aB _,aR.aB _,aR.refl _,aR.aB _,aR.aB _,aR.aB _,aR.aB _,trivial⟩)) (rc (rc .nil))) ih
theorem WL (hS:aM t) (hN:∀ k,k<t.ins.n->(t.ins.get k).op≠20->(t.ins.get k).args.n=0) (k:Nat) (hk:k<t.ins.n) (ih:ae 78 2 (Go.V.bA [cm t.ins,eV t.aa] (.t []) [cm (aE (cS a b) t.ins t.ins.n),eV (aE (dV a b) t.aa t.aa.n)]) (af 78 2) (jf t a b (aH 0) (k+1))) (ho:((t.ins.get k).op==20)=false) (hm:gL (t.ins.get k).op=0):ae 78 2 (Go.V.bA [cm t.ins,eV t.aa] (.t []) [cm (aE (cS a b) t.ins t.ins.n),eV (aE (dV a b) t.aa t.aa.n)]) (af 78 4) (FT t a b k (λi=>cn ((aE (cS a b) t.ins k).get i)) (t.ins.get k) ):=by
 have hM:=hS.ins
 have hW:=b6 hk (by unfold maxLen; omega:_<=maxLen)
 have hA:=hS.args k hk
 have hu:nE (t.ins.get k)=(.c (.im (.v (.slice none 0 0))),[]):=by unfold nE; rw [ho,hm]; rfl
 have h0:=A3 (t.ins.get k)
 rw [hu] at h0
 have h1:=λRS h=>bt.gQ h0 [3,4] RS rfl h
 have hn:(((aW (t.ins.get k)).n:Nat):Int)=0:=by unfold aW; rw [ho,hm]; rfl
 have g:=Fw t a b hS k hk (hN k hk (by simpa using ho)) ih _ _ (yB a b _ ho)
 rw [hn] at g
 refine aG (X:=XnN) (stop:=iH) (Xu _ _ t a b k (λi=>cn ((aE (cS a b) t.ins k).get i)) (t.ins.get k)  ?_)
 refine ai (aC hk) (ai (bX hk) (ai (dv _) ⟨h1 _ ⟨rfl,aQ rfl,rfl,aQ rfl,rfl⟩,ai (bX hk) (ai (dv _) (ag (λh=>?_) (λh=>?_)))⟩))
 .exact ae.rename [0,1,2,3,4] rfl (ae.lr (w4 t a b (aH 0) k (λi=>cn ((aE (cS a b) t.ins k).get i)) (t.ins.get k) 0) g)
 grind
theorem QJ (hS:aM t) (hN:∀ k,k<t.ins.n->(t.ins.get k).op≠20->(t.ins.get k).args.n=0) (k:Nat) (hk:k<t.ins.n) (ih:ae 78 2 (Go.V.bA [cm t.ins,eV t.aa] (.t []) [cm (aE (cS a b) t.ins t.ins.n),eV (aE (dV a b) t.aa t.aa.n)]) (af 78 2) (jf t a b (aH 0) (k+1))) (ho:((t.ins.get k).op==20)=false) (hm:gL (t.ins.get k).op=1):ae 78 2 (Go.V.bA [cm t.ins,eV t.aa] (.t []) [cm (aE (cS a b) t.ins t.ins.n),eV (aE (dV a b) t.aa t.aa.n)]) (af 78 4) (oQ t a b k (λi=>cn ((aE (cS a b) t.ins k).get i)) (t.ins.get k) 1 (.row 3 1 1 [ci (t.ins.get k).a])):=by
 have hM:=hS.ins
 have hW:=b6 hk (by unfold maxLen; omega:_<=maxLen)
 have hA:=hS.args k hk
 have hu:nE (t.ins.get k)=(.c (.sa 2 1),[.row 3 1 1 [ci (t.ins.get k).a]]):=by unfold nE; rw [ho,hm]; rfl
 have h0:=A3 (t.ins.get k)
 rw [hu] at h0
 have h1:=λRS h=>bt.gQ h0 [3,4] RS rfl h
 have hn:(((aW (t.ins.get k)).n:Nat):Int)=1:=by unfold aW; rw [ho,hm]; rfl
 have g:=Fw t a b hS k hk (hN k hk (by simpa using ho)) ih _ _ (yB a b _ ho)
 rw [hn] at g
 refine aG (X:=XnR 1 (.row 3 1 1 [ci (t.ins.get k).a])) (stop:=iH) (Fh _ _ t a b k (λi=>cn ((aE (cS a b) t.ins k).get i)) (t.ins.get k) 1 (.row 3 1 1 [ci (t.ins.get k).a]) ?_)
 refine ai (aC hk) (ai (bX hk) (ai (dv _) ⟨h1 _ ⟨rfl,aQ rfl,rfl,aQ rfl,rfl⟩,ai (bX hk) (ai (dv _) (ag (λh=>?_) (λh=>?_)))⟩))
 .exact ae.rename [0,1,2,3,4] rfl (ae.lr (w4 t a b (aH 0) k (λi=>cn ((aE (cS a b) t.ins k).get i)) (t.ins.get k) 1) g)
 grind
theorem WD (hS:aM t) (hN:∀ k,k<t.ins.n->(t.ins.get k).op≠20->(t.ins.get k).args.n=0) (k:Nat) (hk:k<t.ins.n) (ih:ae 78 2 (Go.V.bA [cm t.ins,eV t.aa] (.t []) [cm (aE (cS a b) t.ins t.ins.n),eV (aE (dV a b) t.aa t.aa.n)]) (af 78 2) (jf t a b (aH 0) (k+1))) (ho:((t.ins.get k).op==20)=false) (hm:gL (t.ins.get k).op=2):ae 78 2 (Go.V.bA [cm t.ins,eV t.aa] (.t []) [cm (aE (cS a b) t.ins t.ins.n),eV (aE (dV a b) t.aa t.aa.n)]) (af 78 4) (oQ t a b k (λi=>cn ((aE (cS a b) t.ins k).get i)) (t.ins.get k) 2 (.row 3 1 2 [ci (t.ins.get k).a,ci (t.ins.get k).b])):=by
 have hM:=hS.ins
 have hW:=b6 hk (by unfold maxLen; omega:_<=maxLen)
 have hA:=hS.args k hk
 have hu:nE (t.ins.get k)=(.c (.sa 2 2),[.row 3 1 2 [ci (t.ins.get k).a,ci (t.ins.get k).b]]):=by unfold nE; rw [ho,hm]; rfl
 have h0:=A3 (t.ins.get k)
 rw [hu] at h0
 have h1:=λRS h=>bt.gQ h0 [3,4] RS rfl h
 have hn:(((aW (t.ins.get k)).n:Nat):Int)=2:=by unfold aW; rw [ho,hm]; rfl
 have g:=Fw t a b hS k hk (hN k hk (by simpa using ho)) ih _ _ (yB a b _ ho)
 rw [hn] at g
 refine aG (X:=XnR 2 (.row 3 1 2 [ci (t.ins.get k).a,ci (t.ins.get k).b])) (stop:=iH) (Fh _ _ t a b k (λi=>cn ((aE (cS a b) t.ins k).get i)) (t.ins.get k) 2 (.row 3 1 2 [ci (t.ins.get k).a,ci (t.ins.get k).b]) ?_)
 refine ai (aC hk) (ai (bX hk) (ai (dv _) ⟨h1 _ ⟨rfl,aQ rfl,rfl,aQ rfl,rfl⟩,ai (bX hk) (ai (dv _) (ag (λh=>?_) (λh=>?_)))⟩))
 .exact ae.rename [0,1,2,3,4] rfl (ae.lr (w4 t a b (aH 0) k (λi=>cn ((aE (cS a b) t.ins k).get i)) (t.ins.get k) 2) g)
 grind
theorem Vn (hS:aM t) (hN:∀ k,k<t.ins.n->(t.ins.get k).op≠20->(t.ins.get k).args.n=0) (k:Nat) (hk:k<t.ins.n) (ih:ae 78 2 (Go.V.bA [cm t.ins,eV t.aa] (.t []) [cm (aE (cS a b) t.ins t.ins.n),eV (aE (dV a b) t.aa t.aa.n)]) (af 78 2) (jf t a b (aH 0) (k+1))) (ho:((t.ins.get k).op==20)=false) (hm:gL (t.ins.get k).op=3):ae 78 2 (Go.V.bA [cm t.ins,eV t.aa] (.t []) [cm (aE (cS a b) t.ins t.ins.n),eV (aE (dV a b) t.aa t.aa.n)]) (af 78 4) (oQ t a b k (λi=>cn ((aE (cS a b) t.ins k).get i)) (t.ins.get k) 3 (.row 3 1 3 [ci (t.ins.get k).a,ci (t.ins.get k).b,ci (t.ins.get k).c])):=by
 have hM:=hS.ins
 have hW:=b6 hk (by unfold maxLen; omega:_<=maxLen)
 have hA:=hS.args k hk
 have hu:nE (t.ins.get k)=(.c (.sa 2 3),[.row 3 1 3 [ci (t.ins.get k).a,ci (t.ins.get k).b,ci (t.ins.get k).c]]):=by unfold nE; rw [ho,hm]; rfl
 have h0:=A3 (t.ins.get k)
 rw [hu] at h0
 have h1:=λRS h=>bt.gQ h0 [3,4] RS rfl h
 have hn:(((aW (t.ins.get k)).n:Nat):Int)=3:=by unfold aW; rw [ho,hm]; rfl
 have g:=Fw t a b hS k hk (hN k hk (by simpa using ho)) ih _ _ (yB a b _ ho)
 rw [hn] at g
 refine aG (X:=XnR 3 (.row 3 1 3 [ci (t.ins.get k).a,ci (t.ins.get k).b,ci (t.ins.get k).c])) (stop:=iH) (Fh _ _ t a b k (λi=>cn ((aE (cS a b) t.ins k).get i)) (t.ins.get k) 3 (.row 3 1 3 [ci (t.ins.get k).a,ci (t.ins.get k).b,ci (t.ins.get k).c]) ?_)
 refine ai (aC hk) (ai (bX hk) (ai (dv _) ⟨h1 _ ⟨rfl,aQ rfl,rfl,aQ rfl,rfl⟩,ai (bX hk) (ai (dv _) (ag (λh=>?_) (λh=>?_)))⟩))
 .exact ae.rename [0,1,2,3,4] rfl (ae.lr (w4 t a b (aH 0) k (λi=>cn ((aE (cS a b) t.ins k).get i)) (t.ins.get k) 3) g)
 grind
theorem YG (hS:aM t) (s:Sq au) (k:Nat) (hk:k<t.aa.n) (j:Nat) (hj:j<(t.aa.get k).az.n) (ih:ae 78 2 (Go.V.bA [cm t.ins,eV t.aa] (.t []) [cm (aE (cS a b) t.ins t.ins.n),eV (aE (dV a b) t.aa t.aa.n)]) (af 78 22) (ou t a b (aH 0) s k (λi=>cL ((aE (dV a b) t.aa k).get i)) (t.aa.get k) (j+1))):ae 78 2 (Go.V.bA [cm t.ins,eV t.aa] (.t []) [cm (aE (cS a b) t.ins t.ins.n),eV (aE (dV a b) t.aa t.aa.n)]) (af 78 24) (zR t a b (aH 0) s k (λi=>cL ((aE (dV a b) t.aa k).get i)) (t.aa.get k) j (λi=>jH ((aE (wP a b) (t.aa.get k).az j).get i)) ((t.aa.get k).az.get j)):=by
 have hI:=(hS.ex k hk).items j hj
 have hB:=(hS.ex k hk).az
 have hW:=b6 hj (by unfold maxLen; omega:_<=maxLen)
 refine aG (X:=OK (jN a b ((t.aa.get k).az.get j).items ((t.aa.get k).az.get j).items.n)) (stop:=iH) (SV _ _ t a b (jN a b ((t.aa.get k).az.get j).items ((t.aa.get k).az.get j).items.n) s k (λi=>cL ((aE (dV a b) t.aa k).get i)) (t.aa.get k) j (λi=>jH ((aE (wP a b) (t.aa.get k).az j).get i)) ((t.aa.get k).az.get j) ?_)
 refine ai (aC hk) (ai (bX hk) (ai (dv _) (ai (aC hj) (ai (bX hj) (ai (dv _) (⟨bt.gQ (JZ a b ((t.aa.get k).az.get j).items hI) [5] _ rfl ⟨rfl,aQ rfl,rfl⟩,ai (aC hk) (ai (bX hk) (ai (dv _) (ai (aC hj) (ai (bX hj) (ai (dv _) (ag (λh=>ai (aC hk) (ai (bX hk) (ai (dv _) (ai (aC hj) (ai (dv _) (?_)))))) (λh=>?_)))))))⟩))))))
 .have e:wP a b ((t.aa.get k).az.get j)=⟨b,((t.aa.get k).az.get j).cls,((t.aa.get k).az.get j).names,(jN a b ((t.aa.get k).az.get j).items ((t.aa.get k).az.get j).items.n)⟩:=by grind [wP,pV]
  rw [hW]
  refine ae.close 4 3 5 rfl rfl rfl rfl rfl rfl (ae.rename [0,1,2,3,4] rfl ?_)
  exact ae.lf (ou t a b (aH 0) s k (λi=>cL ((aE (dV a b) t.aa k).get i)) (t.aa.get k) (j+1)) (rc (rc (rc (rc (.cons (iL (f:=wP a b) (by rw [e]; exact ⟨aR.aB _,aR.aB _,aR.refl _,aR.refl _,trivial⟩)) .nil))))) ih
 .have e:wP a b ((t.aa.get k).az.get j)=⟨((t.aa.get k).az.get j).value,((t.aa.get k).az.get j).cls,((t.aa.get k).az.get j).names,(jN a b ((t.aa.get k).az.get j).items ((t.aa.get k).az.get j).items.n)⟩:=by grind [wP,pW]
  rw [hW]
  refine ae.close 4 3 5 rfl rfl rfl rfl rfl rfl (ae.rename [0,1,2,3,4] rfl ?_)
  exact ae.lf (ou t a b (aH 0) s k (λi=>cL ((aE (dV a b) t.aa k).get i)) (t.aa.get k) (j+1)) (rc (rc (rc (rc (.cons (iL (f:=wP a b) (by rw [e]; exact ⟨aR.aB _,aR.aB _,aR.refl _,aR.refl _,trivial⟩)) .nil))))) ih
theorem ae4 (hS:aM t) (s:Sq au) (k:Nat) (hk:k<t.aa.n) (ih:ae 78 2 (Go.V.bA [cm t.ins,eV t.aa] (.t []) [cm (aE (cS a b) t.ins t.ins.n),eV (aE (dV a b) t.aa t.aa.n)]) (af 78 15) (ob t a b (aH 0) s (k+1))):∀ j,j<=(t.aa.get k).az.n->ae 78 2 (Go.V.bA [cm t.ins,eV t.aa] (.t []) [cm (aE (cS a b) t.ins t.ins.n),eV (aE (dV a b) t.aa t.aa.n)]) (af 78 22) (ou t a b (aH 0) s k (λi=>cL ((aE (dV a b) t.aa k).get i)) (t.aa.get k) j):=by
 have hB:=(hS.ex k hk).az
 have hN:=hS.aa
 refine aN (λj hj oH=>?_) ?_
 .refine aG (X:=OK (aH 0)) (stop:=iH) (G0 _ _ t a b (aH 0) s k (λi=>cL ((aE (dV a b) t.aa k).get i)) (t.aa.get k) j ?_)
  refine ai (aC hk) (ai (bX hk) (ai (dv _) (ag (λh0=>?_) (λh=>(dec_lt h hj).elim))))
  refine ae.iZ 4 j (gu (jH ((t.aa.get k).az.get j)) 4 0) rfl hj (by grind [mn]) (ae.open 4 3 rfl rfl trivial ?_)
  exact ae.lr (zR t a b (aH 0) s k (λi=>cL ((aE (dV a b) t.aa k).get i)) (t.aa.get k) j (λi=>jH ((aE (wP a b) (t.aa.get k).az j).get i)) ((t.aa.get k).az.get j)) (YG t a b hS s k hk j hj oH)
 .refine aG (X:=OK (aH 0)) (stop:=iH) (G0 _ _ t a b (aH 0) s k (λi=>cL ((aE (dV a b) t.aa k).get i)) (t.aa.get k) _ ?_)
  refine ai (aC hk) (ai (bX hk) (ai (dv _) (ag (λh=>bq h) (λh=>?_))))
  rw [b6 hk (by unfold maxLen; omega:_<=maxLen)]
  refine ae.close 1 0 3 rfl rfl rfl rfl rfl rfl (ae.close 1 1 4 rfl rfl rfl rfl rfl rfl (ae.rename [0,1,2] rfl ?_))
  exact ae.lf (ob t a b (aH 0) s (k+1)) (rc (.cons (iL (f:=dV a b) ⟨aR.refl _,aR.refl _,aR.aB _,trivial⟩) (rc .nil))) ih
theorem YW (hS:aM t) (s:Sq au) (k:Nat) (hk:k<t.aa.n) (j:Nat) (hj:j<(t.aa.get k).frames.n) (ih:ae 78 2 (Go.V.bA [cm t.ins,eV t.aa] (.t []) [cm (aE (cS a b) t.ins t.ins.n),eV (aE (dV a b) t.aa t.aa.n)]) (af 78 18) (qe t a b (aH 0) s k (λi=>cL ((aE (dV a b) t.aa k).get i)) (t.aa.get k) (j+1))):ae 78 2 (Go.V.bA [cm t.ins,eV t.aa] (.t []) [cm (aE (cS a b) t.ins t.ins.n),eV (aE (dV a b) t.aa t.aa.n)]) (af 78 20) (Bw t a b (aH 0) s k (λi=>cL ((aE (dV a b) t.aa k).get i)) (t.aa.get k) j (λi=>dA ((aE (Gw a b) (t.aa.get k).frames j).get i)) ((t.aa.get k).frames.get j)):=by
 have hI:=(hS.ex k hk).vars j hj
 have hB:=(hS.ex k hk).frames
 have hW:=b6 hj (by unfold maxLen; omega:_<=maxLen)
 refine aG (X:=OK (jN a b ((t.aa.get k).frames.get j).vars ((t.aa.get k).frames.get j).vars.n)) (stop:=iH) (Ux _ _ t a b (jN a b ((t.aa.get k).frames.get j).vars ((t.aa.get k).frames.get j).vars.n) s k (λi=>cL ((aE (dV a b) t.aa k).get i)) (t.aa.get k) j (λi=>dA ((aE (Gw a b) (t.aa.get k).frames j).get i)) ((t.aa.get k).frames.get j) ?_)
 refine ai (aC hk) (ai (bX hk) (ai (dv _) (ai (aC hj) (ai (bX hj) (ai (dv _) (⟨bt.gQ (JZ a b ((t.aa.get k).frames.get j).vars hI) [5] _ rfl ⟨rfl,aQ rfl,rfl⟩,?_⟩))))))
 rw [hW]
 refine ae.close 3 2 5 rfl rfl rfl rfl rfl rfl (ae.rename [0,1,2,3,4] rfl ?_)
 exact ae.lf (qe t a b (aH 0) s k (λi=>cL ((aE (dV a b) t.aa k).get i)) (t.aa.get k) (j+1)) (rc (rc (rc (.cons (iL (f:=Gw a b) ⟨aR.aB _,aR.aB _,aR.refl _,trivial⟩) (rc .nil))))) ih
theorem XI (hS:aM t) (s:Sq au) (k:Nat) (hk:k<t.aa.n) (ih:ae 78 2 (Go.V.bA [cm t.ins,eV t.aa] (.t []) [cm (aE (cS a b) t.ins t.ins.n),eV (aE (dV a b) t.aa t.aa.n)]) (af 78 15) (ob t a b (aH 0) s (k+1))):∀ j,j<=(t.aa.get k).frames.n->ae 78 2 (Go.V.bA [cm t.ins,eV t.aa] (.t []) [cm (aE (cS a b) t.ins t.ins.n),eV (aE (dV a b) t.aa t.aa.n)]) (af 78 18) (qe t a b (aH 0) s k (λi=>cL ((aE (dV a b) t.aa k).get i)) (t.aa.get k) j):=by
 refine aN (λj hj oH=>?_) ?_
 .refine aG (X:=OK (aH 0)) (stop:=iH) (HG _ _ t a b (aH 0) s k (λi=>cL ((aE (dV a b) t.aa k).get i)) (t.aa.get k) j ?_)
  refine ai (aC hk) (ai (bX hk) (ai (dv _) (ag (λh0=>?_) (λh=>(dec_lt h hj).elim))))
  refine ae.iZ 3 j (gu (dA ((t.aa.get k).frames.get j)) 3 0) rfl hj (by grind [mn]) (ae.open 3 2 rfl rfl trivial ?_)
  exact ae.lr (Bw t a b (aH 0) s k (λi=>cL ((aE (dV a b) t.aa k).get i)) (t.aa.get k) j (λi=>dA ((aE (Gw a b) (t.aa.get k).frames j).get i)) ((t.aa.get k).frames.get j)) (YW t a b hS s k hk j hj oH)
 .refine aG (X:=OK (aH 0)) (stop:=iH) (HG _ _ t a b (aH 0) s k (λi=>cL ((aE (dV a b) t.aa k).get i)) (t.aa.get k) _ ?_)
  refine ai (aC hk) (ai (bX hk) (ai (dv _) (ag (λh=>bq h) (λh=>?_))))
  exact ae.lf (ou t a b (aH 0) s k (λi=>cL ((aE (dV a b) t.aa k).get i)) (t.aa.get k) 0) (rc (rc (rc (rc (.cons (rm) .nil))))) (ae4 t a b hS s k hk ih 0 (bk _))
theorem aa5 (hS:aM t):∀ k,k<=t.aa.n->ae 78 2 (Go.V.bA [cm t.ins,eV t.aa] (.t []) [cm (aE (cS a b) t.ins t.ins.n),eV (aE (dV a b) t.aa t.aa.n)]) (af 78 15) (ob t a b (aH 0) (aE (cS a b) t.ins t.ins.n) k):=by
 refine aN (λk hk oH=>?_) ?_
 .refine aG (X:=OK (aH 0)) (stop:=iH) (HL _ _ t a b (aH 0) _ k ?_)
  refine ag (λh0=>?_) (λh=>(dec_lt h hk).elim)
  refine ae.iZ 1 k (gu (cL (t.aa.get k)) 3 0) rfl hk (by grind [mn]) (ae.open 1 0 rfl rfl trivial (ae.open 1 1 rfl rfl trivial ?_))
  exact ae.lf (qe t a b (aH 0) (aE (cS a b) t.ins t.ins.n) k (λi=>cL ((aE (dV a b) t.aa k).get i)) (t.aa.get k) 0) (rc (rc (rc (.cons (rm) (rc .nil))))) (XI t a b hS _ k hk oH 0 (bk _))
 .refine aG (X:=OK (aH 0)) (stop:=iH) (HL _ _ t a b (aH 0) _ _ ?_)
  refine ag (λh=>bq h) (λh=>?_)
  exact ⟨[0,1],.t [],_,_,rfl,(rc (rc .nil)),⟨2,aQ rfl,aQ rfl,rfl,rfl,aX.refl _,⟨.inr rfl,⟨.inr rfl,trivial⟩⟩⟩⟩
theorem ax4 (hS:aM t) (hN:∀ k,k<t.ins.n->(t.ins.get k).op≠20->(t.ins.get k).args.n=0):∀ k,k<=t.ins.n->ae 78 2 (Go.V.bA [cm t.ins,eV t.aa] (.t []) [cm (aE (cS a b) t.ins t.ins.n),eV (aE (dV a b) t.aa t.aa.n)]) (af 78 2) (jf t a b (aH 0) k):=by
 refine aN (λk hk ih=>?_) ?_
 .refine aG (X:=Q7 (aH 0)) (stop:=iH) (WG _ _ t a b (aH 0) k ?_)
  refine ag (λh0=>?_) (λh=>(dec_lt h hk).elim)
  refine ae.iZ 0 k (gu (cn (t.ins.get k)) 14 0) rfl hk (by grind [mn]) (ae.open 0 5 rfl rfl trivial (ae.open 0 9 rfl rfl trivial ?_))
  cases ho:(t.ins.get k).op==20 with
  | true=>exact ae.lr (Fk t a b k (λi=>cn ((aE (cS a b) t.ins k).get i)) (t.ins.get k) (aH 0)) (ab0 t a b hS hN k hk ih (eq_of_beq ho))
  | false=>
    rcases nO (t.ins.get k).op with hc|hc|hc|hc
    .exact ae.lr (FT t a b k (λi=>cn ((aE (cS a b) t.ins k).get i)) (t.ins.get k)) (WL t a b hS hN k hk ih ho hc)
    .exact ae.lr (oQ t a b k (λi=>cn ((aE (cS a b) t.ins k).get i)) (t.ins.get k) 1 (.row 3 1 1 [ci (t.ins.get k).a])) (QJ t a b hS hN k hk ih ho hc)
    .exact ae.lr (oQ t a b k (λi=>cn ((aE (cS a b) t.ins k).get i)) (t.ins.get k) 2 (.row 3 1 2 [ci (t.ins.get k).a,ci (t.ins.get k).b])) (WD t a b hS hN k hk ih ho hc)
    .exact ae.lr (oQ t a b k (λi=>cn ((aE (cS a b) t.ins k).get i)) (t.ins.get k) 3 (.row 3 1 3 [ci (t.ins.get k).a,ci (t.ins.get k).b,ci (t.ins.get k).c])) (Vn t a b hS hN k hk ih ho hc)
 .refine aG (X:=Q7 (aH 0)) (stop:=iH) (WG _ _ t a b (aH 0) _ ?_)
  refine ag (λh=>bq h) (λh=>?_)
  exact ae.lf (ob t a b (aH 0) (aE (cS a b) t.ins t.ins.n) 0) (rc (.cons (rm) (rc .nil))) (aa5 t a b hS 0 (bk _))
theorem aX6 (hS:aM t) (hN:∀ k,k<t.ins.n->(t.ins.get k).op≠20->(t.ins.get k).args.n=0):LC 78 [.a [.im (iI t.place.fn),.im (iI t.place.line),.sa 0 t.ins.n,.sa 1 t.aa.n],int a,int b] [cm t.ins,eV t.aa] (.t []) [cm (aE (cS a b) t.ins t.ins.n),eV (aE (dV a b) t.aa t.aa.n)]:=by
 refine cM bB5 (aQ (by kernel_rfl)) (cY (X:=Q7 (aH 0)) (stop:=iH) (by6 _ _ t a b (aH 0) ?_))
 exact ae.lf (jf t a b (aH 0) 0) (.cons (rm) (rc (rc .nil))) (ax4 t a b hS hN 0 (bk _))
end
open Go Go.V
section
def XK (i e:ah):eU:={ F:=ext pY [(125,λ_ _=>(.t [],[(0,i),(1,e)],[]))],S:=qy }
def Jf (t:ak) (p q:Nat):D:=.a (jO t p q)
def va (kind k BM:Int) (v:jd):D:=.a [ci kind,ci k,ci BM,ci v.kind,ci v.n,.im (iS v.s)]
def td:jd:=⟨1,0,⟨⟨[]⟩⟩⟩
def dk:jd:=⟨0,0,⟨⟨[]⟩⟩⟩
def iG:au:=⟨0,0,0,0,0,⟨0,λ_=>0⟩,dk,⟨0,λ_=>⟨⟨[]⟩⟩⟩,⟨0,0⟩,-1,false⟩
def oK (o:Bool):au:=⟨2,0,0,0,0,⟨0,λ_=>0⟩,td,⟨0,λ_=>⟨⟨[]⟩⟩⟩,⟨0,0⟩,-1,o⟩
end
def xL:Nat->Bool:=λi=>Nat.beq i 20||Nat.beq i 8||Nat.beq i 16
theorem aG1:Fn 76:={}
section
variable (aj:ak) (ax:Nat)
abbrev eD:D:=int ((aj.2.2 ax).1)
abbrev JX:D:=bool (fy (aj.2.2 ax).1 [1,2,3,4,10,12,14,16,17])
abbrev Ky:eQ:=(6,((.c (.rt 4 0 0)),[]))
end
section
variable (aj:Nat) (L:LP) (i0:ah) {sz:Nat} (QE:D->List ah->Prop) (t:ak) (n:Nat) (e0:ah) (s:Sq au) (k:Nat) (g:Nat->Nat->O) (x:au) (i:ah) (es:Sq aq) (e:ah)
abbrev fI:List C:=[(ci 3),(ci (↑aj:Int)),(ci 0),(ci 0),(ci 0),dH]
abbrev nj:List C:=fO 0 0 0 0 0 (-1)
theorem ba4 (h:nd (bQ (↑k:Int) t.2.1) (nd (k.blt t.2.1) (br ((t.2.2 k).1==1) (QE (bool false) [(.bo 52 14 t.2.1 (λi=>bL (t.2.2 i)) .none),(.bo 57 3 t.3.1 (λi=>bD (t.3.2 i)) .none),(.box [(ci t.1.1),(ci t.1.2),(.sa 0 t.2.1),(.sa 1 t.3.1)]),(.box [(ci 3),(ci (↑k:Int)),(ci 0),(ci 0),(ci 0),(.im (.v (.string ⟨⟨[]⟩⟩)))]),(.box (fO 0 0 0 0 0 (-1)))]) (nd (k.blt t.2.1) (br ((t.2.2 k).1==20) (QE (bool false) [(.bo 52 14 t.2.1 (λi=>bL (t.2.2 i)) .none),(.bo 57 3 t.3.1 (λi=>bD (t.3.2 i)) .none),(.box [(ci t.1.1),(ci t.1.2),(.sa 0 t.2.1),(.sa 1 t.3.1)]),(.box [(ci 3),(ci (↑k:Int)),(ci 0),(ci 0),(ci 0),(.im (.v (.string ⟨⟨[]⟩⟩)))]),(.box (fO 0 0 0 0 0 (-1)))]) (nd (k.blt t.2.1) (br ((t.2.2 k).1==21) (QE (bool false) [(.bo 52 14 t.2.1 (λi=>bL (t.2.2 i)) .none),(.bo 57 3 t.3.1 (λi=>bD (t.3.2 i)) .none),(.box [(ci t.1.1),(ci t.1.2),(.sa 0 t.2.1),(.sa 1 t.3.1)]),(.box [(ci 3),(ci (↑k:Int)),(ci 0),(ci 0),(ci 0),(.im (.v (.string ⟨⟨[]⟩⟩)))]),(.box (fO 0 0 0 0 0 (-1)))]) (nd (k.blt t.2.1) ((LC 124 [(eD t k)] [] (JX t k) []/\br (fy (t.2.2 k).1 [1,2,3,4,10,12,14,16,17]) ((LC 21 [(.a [(ci t.1.1),(ci t.1.2),(.im (.sl 14 t.2.1 (λi j=>oI (bL (t.2.2 i) j)))),(.im (.sl 3 t.3.1 (λi j=>oI (bD (t.3.2 i) j))))]),(int (↑k:Int))] [] (.t []) []/\False)) (L (af 76 20) ⟨[(5,((.c (.rt 0 k 0)),[])),Ky,(132,((bool false),[]))],[(.bo 52 14 t.2.1 (λi=>bL (t.2.2 i)) .none),(.bo 57 3 t.3.1 (λi=>bD (t.3.2 i)) .none),(dB t),(.box (fI k)),(.box nj)],[]⟩))))))))))):ep (XK i e) 76 xL L QE [Jf t 0 1,va 3 k 0 dk] [bV t.ins,fb t.aa]:=km h
abbrev WK:D:=.a (lift (OX ({ kind:=Int.ofNat 1,n:=Int.ofNat 0,s:={ data:={ toList:=[] } } })))
abbrev RD:D:=bool (jz { kind:=Int.ofNat 1,n:=Int.ofNat 0,s:={ data:={ toList:=[] } } })
abbrev Lv:List C:=[(ci 1),(ci (↑aj:Int)),(ci 0),(ci 1),(ci 0),dH]
theorem aO3 (h:nd (bQ (↑k:Int) t.2.1) ((LC 123 [WK] [] RD []/\nd (k.blt t.2.1) ((LC 54 [(.c (.im (.sl 1 5 (flat 1 [I.v (Value.int IntKind.i64 3),I.v (Value.int IntKind.i64 4),I.v (Value.int IntKind.i64 10),I.v (Value.int IntKind.i64 12),I.v (Value.int IntKind.i64 14)])))),(eD t k)] [] (bool (jh (t.2.2 k).1 { n:=5,get:=λi=>rI (flat 1 [I.v (Value.int IntKind.i64 3),I.v (Value.int IntKind.i64 4),I.v (Value.int IntKind.i64 10),I.v (Value.int IntKind.i64 12),I.v (Value.int IntKind.i64 14)] i) })) []/\br (!jh (t.2.2 k).1 { n:=5,get:=λi=>rI (flat 1 [I.v (Value.int IntKind.i64 3),I.v (Value.int IntKind.i64 4),I.v (Value.int IntKind.i64 10),I.v (Value.int IntKind.i64 12),I.v (Value.int IntKind.i64 14)] i) }) (QE (bool false) [(.bo 52 14 t.2.1 (λi=>bL (t.2.2 i)) .none),(.bo 57 3 t.3.1 (λi=>bD (t.3.2 i)) .none),(.box [(ci t.1.1),(ci t.1.2),(.sa 0 t.2.1),(.sa 1 t.3.1)]),(.box [(ci 1),(ci (↑k:Int)),(ci 0),(ci 1),(ci 0),(.im (.v (.string ⟨⟨[]⟩⟩)))]),(.box (fO 0 0 0 0 0 (-1))),(.row 3 1 5 [(ci 3),(ci 4),(ci 10),(ci 12),(ci 14)])]) (L (af 76 8) ⟨[tK,(5,((.c (.rt 0 k 0)),[])),(30,((bool false),[]))],[(.bo 52 14 t.2.1 (λi=>bL (t.2.2 i)) .none),(.bo 57 3 t.3.1 (λi=>bD (t.3.2 i)) .none),(dB t),(.box (Lv k)),(.box nj),(.row 3 1 5 [(ci 3),(ci 4),(ci 10),(ci 12),(ci 14)])],[]⟩)))))):ep (XK i e) 76 xL L QE [Jf t 0 1,va 1 k 0 td] [bV t.ins,fb t.aa]:=km h
abbrev nL (ax:Nat):ah:=.box [(ci 2),(ci (↑aj:Int)),(ci (↑ax:Int)),(ci 0),(ci 0),dH]
theorem bi9 (j:Nat) (i e:ah) (h:nd (bQ (↑k:Int) t.2.1) (br (decide ((↑j:Int)≥(↑k:Int))) (QE (bool false) [(.bo 52 14 t.2.1 (λi=>bL (t.2.2 i)) .none),(.bo 57 3 t.3.1 (λi=>bD (t.3.2 i)) .none),(.box [(ci t.1.1),(ci t.1.2),(.sa 0 t.2.1),(.sa 1 t.3.1)]),(.box [(ci 2),(ci (↑k:Int)),(ci (↑j:Int)),(ci 0),(ci 0),(.im (.v (.string ⟨⟨[]⟩⟩)))]),(.box (fO 0 0 0 0 0 (-1)))]) (nd (bQ (↑j:Int) t.2.1) (nd (j.blt t.2.1) (nd (k.blt t.2.1) ((LC 124 [(eD t k)] [] (JX t k) []/\br (!fy (t.2.2 k).1 [1,2,3,4,10,12,14,16,17]) (QE (bool false) [(.bo 52 14 t.2.1 (λi=>bL (t.2.2 i)) .none),(.bo 57 3 t.3.1 (λi=>bD (t.3.2 i)) .none),(.box [(ci t.1.1),(ci t.1.2),(.sa 0 t.2.1),(.sa 1 t.3.1)]),(.box [(ci 2),(ci (↑k:Int)),(ci (↑j:Int)),(ci 0),(ci 0),(.im (.v (.string ⟨⟨[]⟩⟩)))]),(.box (fO 0 0 0 0 0 (-1)))]) ((LC 124 [(eD t j)] [] (JX t j) []/\br (!fy (t.2.2 j).1 [1,2,3,4,10,12,14,16,17]) (QE (bool false) [(.bo 52 14 t.2.1 (λi=>bL (t.2.2 i)) .none),(.bo 57 3 t.3.1 (λi=>bD (t.3.2 i)) .none),(.box [(ci t.1.1),(ci t.1.2),(.sa 0 t.2.1),(.sa 1 t.3.1)]),(.box [(ci 2),(ci (↑k:Int)),(ci (↑j:Int)),(ci 0),(ci 0),(.im (.v (.string ⟨⟨[]⟩⟩)))]),(.box (fO 0 0 0 0 0 (-1)))]) (nd (k.blt t.2.1) (br ((t.2.2 k).1==17) (QE (bool false) [(.bo 52 14 t.2.1 (λi=>bL (t.2.2 i)) .none),(.bo 57 3 t.3.1 (λi=>bD (t.3.2 i)) .none),(.box [(ci t.1.1),(ci t.1.2),(.sa 0 t.2.1),(.sa 1 t.3.1)]),(.box [(ci 2),(ci (↑k:Int)),(ci (↑j:Int)),(ci 0),(ci 0),(.im (.v (.string ⟨⟨[]⟩⟩)))]),(.box (fO 0 0 0 0 0 (-1)))]) (br ((t.2.2 j).1==17) (QE (bool false) [(.bo 52 14 t.2.1 (λi=>bL (t.2.2 i)) .none),(.bo 57 3 t.3.1 (λi=>bD (t.3.2 i)) .none),(.box [(ci t.1.1),(ci t.1.2),(.sa 0 t.2.1),(.sa 1 t.3.1)]),(.box [(ci 2),(ci (↑k:Int)),(ci (↑j:Int)),(ci 0),(ci 0),(.im (.v (.string ⟨⟨[]⟩⟩)))]),(.box (fO 0 0 0 0 0 (-1)))]) (nd (k.blt t.2.1) (br ((t.2.2 k).1==1) (QE (bool false) [(.bo 52 14 t.2.1 (λi=>bL (t.2.2 i)) .none),(.bo 57 3 t.3.1 (λi=>bD (t.3.2 i)) .none),(.box [(ci t.1.1),(ci t.1.2),(.sa 0 t.2.1),(.sa 1 t.3.1)]),(.box [(ci 2),(ci (↑k:Int)),(ci (↑j:Int)),(ci 0),(ci 0),(.im (.v (.string ⟨⟨[]⟩⟩)))]),(.box (fO 0 0 0 0 0 (-1)))]) ((LC 125 [(.a [(ci t.1.1),(ci t.1.2),(.sa 0 t.2.1),(.sa 1 t.3.1)]),(int (↑k:Int)),(int (↑j:Int))] [(.bo 52 14 t.2.1 (λi=>bL (t.2.2 i)) .none),(.bo 57 3 t.3.1 (λi=>bD (t.3.2 i)) .none),(dB t),(nL k j),(.box nj)] (.t []) [i,e,(dB t),(nL k j),(.box nj)]/\L (af 76 16) ⟨[(5,((.c (.rt 0 k 0)),[])),Ky],[i,e,(dB t),(nL k j),(.box nj)],[]⟩)))))))))))))))):ep (XK i e) 76 xL L QE [Jf t 0 1,va 2 k j dk] [bV t.ins,fb t.aa]:=km h
def A0  : VS:=⟨[(5,.c (.rt 0 k 0),[]),(6,.c (.rt 2 0 0),[])],[yd n k g x,fb es,.box (fO 0 0 0 0 0 (-1))],[]⟩
abbrev S7 (aj:D->List ah->Prop) (ax:Nat) (aJ:Nat->Nat->O) (aZ:Nat) (bR:Sq aq):Prop:=aj (bool true) [(.bo 52 14 ax (aJ) (.some (aZ,[(.c (ci 0)),(.c (ci 0)),(.c (ci 0)),(.c (ci 0)),(.c (ci 0)),(.c (.im (.v (.slice .none 0 0)))),(.c (ci 0)),(.c (ci 0)),(.c (.im (.v (.string ⟨⟨[]⟩⟩)))),(.c (.im (.v (.slice .none 0 0)))),(.c (ci 0)),(.c (ci 0)),(.c (ci (-1))),(.c (.im (.v (.bool false))))]))),(.bo 57 3 bR.1 (λi=>bD (bR.2 i)) .none),(.box (fO 0 0 0 0 0 (-1)))]
theorem QF (h:nd (k.beq k) (S7 QE n g k es)):b5 XR 76 xL L QE 20 (A0 n k g x es ):=km h
def Bh  : VS:=⟨[(5,.c (.rt 0 k 0),[]),(6,.c (.rt 2 0 0),[])],[yd n k g x,fb es,.box (fO 0 0 0 0 0 (-1))],[]⟩
theorem R9 (h:nd (k.beq k) (S7 QE n g k es)):b5 XR 76 xL L QE 16 (Bh n k g x es ):=km h
def Fg  : VS:=⟨[gV,(5,.c (.rt 0 k 0),[])],[yd n k g x,fb es,.box [ci 1,ci k,ci 0,ci 1,ci 0,.im (iS ⟨⟨[]⟩⟩)]],[]⟩
theorem XE (h:nd (k.blt n) (nd (k.beq k) (nd (k.beq k) (nd (k.blt n) (nd (k.beq k) (nd (k.beq k) (QE (bool true) [(.bo 52 14 n (g) (.some (k,[(.c (ci 2)),(.c (ci 0)),(.c (ci 0)),(.c (ci 0)),(.c (ci 0)),(.c (.im (.v (.slice .none 0 0)))),(.c (ci 1)),(.c (ci 0)),(.c (.im (.v (.string ⟨⟨[]⟩⟩)))),(.c (.im (.v (.slice .none 0 0)))),(.c (ci 0)),(.c (ci 0)),(.c (ci (-1))),(.c (.im (.v (.bool x.11))))]))),(.bo 57 3 es.1 (λi=>bD (es.2 i)) .none),(.box [(ci 1),(ci (↑k:Int)),(ci 0),(ci 1),(ci 0),(.im (.v (.string ⟨⟨[]⟩⟩)))])]))))))):b5 XR 76 xL L QE 8 (Fg n k g x es ):=km h
theorem aR.nil {e:Nat} {g:Nat->Nat->Go.V.I}:aR (.c (.im (.v (.slice none 0 0)))) (.o (.ar e sz 0 g)):=λE av base w K v h=>by
 obtain ⟨rfl,_⟩:=h
 exact ⟨λb hb=>(by cases hb),[],⟨(Nat.zero_mul sz).symm,.inl ⟨rfl,rfl⟩⟩,λi hi=>absurd hi (Nat.not_lt_zero i)⟩
theorem aR.pk {g:Nat->Nat->Go.V.I}:aR (.c (.im (.v (.slice none 0 0)))) (.o (.im (.sl sz 0 g))):=λE av base w K v h=>ia av w v h
theorem at4 (v:Int):LC 54 [.c (.im (.sl 1 5 (flat 1 [Go.V.I.v (Value.int IntKind.i64 3),Go.V.I.v (Value.int IntKind.i64 4),Go.V.I.v (Value.int IntKind.i64 10),Go.V.I.v (Value.int IntKind.i64 12),Go.V.I.v (Value.int IntKind.i64 14)]))),int v] [] (bool (jh v ⟨5,λi=>rI (flat 1 [Go.V.I.v (Value.int IntKind.i64 3),Go.V.I.v (Value.int IntKind.i64 4),Go.V.I.v (Value.int IntKind.i64 10),Go.V.I.v (Value.int IntKind.i64 12),Go.V.I.v (Value.int IntKind.i64 14)] i)⟩)) []:=
 bt.pre (Iy _ v) (.cons (vb (cD.sl λi hi j hj=>by
  have hj:j=0:=by omega
  subst hj
  have hi:i<5:=hi
  match i,hi with
  | 0,_=>exact cD.refl _
  | 1,_=>exact cD.refl _
  | 2,_=>exact cD.refl _
  | 3,_=>exact cD.refl _
  | 4,_=>exact cD.refl _)) (.cons (aX.refl _) .nil))
def hJ:Sq au:=⟨s.n,λi=>bif Nat.beq i k then x else s.get i⟩
theorem Br {s:Sq au} {k:Nat} {x:au} {l:List Fc} (h:Hz (bL x) l 0):aY (.bo 52 14 s.n (λi=>bL (s.get i)) (some (k,l))) (bV (hJ s k x)):=
 aY.unf (by show Hz (bL (bif Nat.beq k k then x else _)) l 0; simp_all) λi hi qG j hj=>by
  show nV (bL (s.get i) j) (bL (bif Nat.beq i k then x else s.get i) j)
  rw [KS qG]
  exact nV.refl _
theorem Zk (hk:k<s.n) (es:Sq aq):ae 76 2 (Go.V.bA [i0,e0] (bool true) [bV (hJ s k iG),fb es]) (af 76 20) (A0 s.n k (λi=>bL (s.get i)) (s.get k) es):=by
 refine aG (X:=XR) (stop:=xL) (QF _ _ s.n k (λi=>bL (s.get i)) (s.get k) es ?_)
 refine ai (by simp_all) ?_
 exact ⟨[0,1],bool true,_,_,rfl,(.cons (Br (x:=iG) ⟨aR.aB _,aR.aB _,aR.aB _,aR.aB _,aR.aB _,aR.nil,aR.aB _,aR.aB _,aR.aB _,aR.pk,aR.aB _,aR.aB _,aR.aB _,aR.aB _,trivial⟩) (rc .nil)),⟨2,aQ rfl,aQ rfl,rfl,rfl,aX.refl _,⟨.inr rfl,⟨.inr rfl,trivial⟩⟩⟩⟩
theorem XG (hk:k<s.n) (es:Sq aq):ae 76 2 (Go.V.bA [i0,e0] (bool true) [bV (hJ s k iG),fb es]) (af 76 16) (Bh s.n k (λi=>bL (s.get i)) (s.get k) es):=by
 refine aG (X:=XR) (stop:=xL) (R9 _ _ s.n k (λi=>bL (s.get i)) (s.get k) es ?_)
 refine ai (by simp_all) ?_
 exact ⟨[0,1],bool true,_,_,rfl,(.cons (Br (x:=iG) ⟨aR.aB _,aR.aB _,aR.aB _,aR.aB _,aR.aB _,aR.nil,aR.aB _,aR.aB _,aR.aB _,aR.pk,aR.aB _,aR.aB _,aR.aB _,aR.aB _,trivial⟩) (rc .nil)),⟨2,aQ rfl,aQ rfl,rfl,rfl,aX.refl _,⟨.inr rfl,⟨.inr rfl,trivial⟩⟩⟩⟩
theorem aE4 (hk:k<s.n) (es:Sq aq):ae 76 2 (Go.V.bA [i0,e0] (bool true) [bV (hJ s k (oK (s.get k).once)),fb es]) (af 76 8) (Fg s.n k (λi=>bL (s.get i)) (s.get k) es):=by
 refine aG (X:=XR) (stop:=xL) (XE _ _ s.n k (λi=>bL (s.get i)) (s.get k) es ?_)
 refine ai (by simp_all) ?_
 refine ai (by simp_all) ?_
 refine ai (by simp_all) ?_
 refine ai (by simp_all) ?_
 refine ai (by simp_all) ?_
 refine ai (by simp_all) ?_
 exact ⟨[0,1],bool true,_,_,rfl,(.cons (Br (x:=(oK (s.get k).once)) ⟨aR.aB _,aR.aB _,aR.aB _,aR.aB _,aR.aB _,aR.nil,aR.aB _,aR.aB _,aR.aB _,aR.pk,aR.aB _,aR.aB _,aR.aB _,aR.aB _,trivial⟩) (rc .nil)),⟨2,aQ rfl,aQ rfl,rfl,rfl,aX.refl _,⟨.inr rfl,⟨.inr rfl,trivial⟩⟩⟩⟩
theorem ay8 (hk:k<t.ins.n) (hS:aM t) (ho:(t.ins.get k).op=7∨(t.ins.get k).op=8∨(t.ins.get k).op=11∨(t.ins.get k).op=13):LC 76 [Jf t 0 1,va 3 k 0 dk] [bV t.ins,fb t.aa] (bool true) [bV (hJ t.ins k iG),fb t.aa]:=by
 have n1:∀ {n:Int},n≠7->n≠8->n≠11->n≠13->((t.ins.get k).op==n)=true->False:=λa b c d h=>by grind
 have n2:fy (t.ins.get k).op [1,2,3,4,10,12,14,16,17]=false:=by rcases ho with q|q|q|q<;>rw [q]<;>rfl
 refine cM aG1 (aQ (by kernel_rfl)) (cY (X:=XK .dead .dead) (stop:=xL) (ba4 _ _ t k .dead .dead ?_))
 refine ai (by grind [aC]) ?_
 refine ai (by simp_all) ?_
 refine ag (λh=>(n1 (by decide) (by decide) (by decide) (by decide) h).elim) (λ_=>?_)
 refine ai (by simp_all) ?_
 refine ag (λh=>(n1 (by decide) (by decide) (by decide) (by decide) h).elim) (λ_=>?_)
 refine ai (by simp_all) ?_
 refine ag (λh=>(n1 (by decide) (by decide) (by decide) (by decide) h).elim) (λ_=>?_)
 refine ai (by simp_all) ?_
 refine ⟨wT _,?_⟩
 refine ag (λh=>Bool.noConfusion (n2.symm.trans h)) (λ_=>?_)
 refine ae.iZ 0 k (gu (bL (t.ins.get k)) 14 0) rfl hk rfl (ae.rename [0,1,4] rfl ?_)
 exact ae.lr (A0 t.ins.n k (λi=>bL (t.ins.get i)) (t.ins.get k) t.aa) (Zk _ _ t.ins k hk t.aa)
theorem aE0 (hk:k<t.ins.n) (hS:aM t) (ho:(t.ins.get k).op=10):LC 76 [Jf t 0 1,va 1 k 0 td] [bV t.ins,fb t.aa] (bool true) [bV (hJ t.ins k (oK (t.ins.get k).once)),fb t.aa]:=by
 refine cM aG1 (aQ (by kernel_rfl)) (cY (X:=XK .dead .dead) (stop:=xL) (aO3 _ _ t k .dead .dead ?_))
 refine ai (by grind [aC]) ?_
 refine ⟨vQ _,?_⟩
 refine ai (by simp_all) ?_
 refine ⟨at4 _,?_⟩
 refine ag (λh=>by have h:(!jh (t.ins.get k).op ⟨5,λi=>rI (flat 1 [Go.V.I.v (Value.int IntKind.i64 3),Go.V.I.v (Value.int IntKind.i64 4),Go.V.I.v (Value.int IntKind.i64 10),Go.V.I.v (Value.int IntKind.i64 12),Go.V.I.v (Value.int IntKind.i64 14)] i)⟩)=true:=h; rw [ho] at h; exact Bool.noConfusion h) (λ_=>?_)
 refine ae.iZ 0 k (gu (bL (t.ins.get k)) 14 0) rfl hk rfl (ae.rename [0,1,3] rfl ?_)
 exact ae.lr (Fg t.ins.n k (λi=>bL (t.ins.get i)) (t.ins.get k) t.aa) (aE4 _ _ t.ins k hk t.aa)
theorem aD2 (hk:k<t.ins.n) (hS:aM t) (j:Nat) (hjk:j<k) (h1:fy (t.ins.get k).op [1,2,3,4,10,12,14,16,17]=true) (h2:fy (t.ins.get j).op [1,2,3,4,10,12,14,16,17]=true) (h3:((t.ins.get k).op==17)=false) (h4:((t.ins.get j).op==17)=false) (h5:((t.ins.get k).op==1)=false):LC 76 [Jf t 0 1,va 2 k j dk] [bV t.ins,fb t.aa] (bool true) [bV (hJ (aE (cS k j) t.ins t.ins.n) k iG),fb (aE (dV k j) t.aa t.aa.n)]:=by
 have hj:j<t.ins.n:=by omega
 have hc:=λRS h=>bt.gQ (av7 t (k:Int) (j:Int) hS) [0,1] RS rfl h
 refine cM aG1 (aQ (by kernel_rfl)) (cY (X:=XK (bV (aE (cS k j) t.ins t.ins.n)) (fb (aE (dV k j) t.aa t.aa.n))) (stop:=xL) (bi9 _ _ t k j (bV (aE (cS k j) t.ins t.ins.n)) (fb (aE (dV k j) t.aa t.aa.n)) ?_))
 refine ai (by grind [aC]) ?_
 refine ag (λh=>by grind) (λ_=>?_)
 refine ai (by grind [aC]) ?_
 refine ai (by simp_all) ?_
 refine ai (by simp_all) ?_
 refine ⟨wT _,?_⟩
 refine ag (λh=>by grind) (λ_=>?_)
 refine ⟨wT _,?_⟩
 refine ag (λh=>by grind) (λ_=>?_)
 refine ai (by simp_all) ?_
 refine ag (λh=>Bool.noConfusion (h3.symm.trans h)) (λ_=>?_)
 refine ag (λh=>Bool.noConfusion (h4.symm.trans h)) (λ_=>?_)
 refine ai (by simp_all) ?_
 refine ag (λh=>Bool.noConfusion (h5.symm.trans h)) (λ_=>?_)
 refine ⟨hc _ ⟨rfl,aQ rfl,rfl,aQ rfl,rfl⟩,?_⟩
 refine ae.iZ 0 k (gu (bL ((aE (cS k j) t.ins t.ins.n).get k)) 14 0) rfl hk rfl (ae.rename [0,1,4] rfl ?_)
 exact ae.lr (Bh t.ins.n k (λi=>bL ((aE (cS k j) t.ins t.ins.n).get i)) ((aE (cS k j) t.ins t.ins.n).get k) (aE (dV k j) t.aa t.aa.n)) (XG _ _ (aE (cS k j) t.ins t.ins.n) k hk (aE (dV k j) t.aa t.aa.n))
end
open Go Go.V
section
section
variable (t:ak) (g:Nat->au) (ge:Nat->aq)
def XW:eU:={ F:=ext pY [(18,λds _=>(int (cp (dO ds 0)),[],[])),(75,λ_ rs=>(Jf t rs.length (rs.length+1),[],[bV t.ins,fb t.aa])),(76,λ_ _=>(bool true,[(3,bV ⟨t.ins.n,g⟩),(4,fb ⟨t.aa.n,ge⟩)],[]))],S:=qy }
def uT:ak:=⟨t.place,⟨t.ins.n,g⟩,⟨t.aa.n,ge⟩⟩
def rwZ:D:=.t [(true,[ci 0,ci 0,kY,kY]),(false,[ci 1])]
end
def H2 (u:ak):D:=bif cp u != 0 then rwZ else .t [(true,lift (aT u)),(false,[ci 0])]
end
def bg2:Nat->Bool:=bH
theorem bA2:Fn 43:={}
abbrev Vv:D:=.t [(.true,[(ci 0),(ci 0),(.im (.v (.slice .none 0 0))),(.im (.v (.slice .none 0 0)))]),(.false,[(ci 31)])]
abbrev AQ:D:=.t [(.true,[(ci 0),(ci 0),(.im (.v (.slice .none 0 0))),(.im (.v (.slice .none 0 0)))]),(.false,[(ci 1)])]
abbrev p9 (aj:Int) (ax:Nat) (aJ:Int) (aZ:jd):List C:=[(ci aj),(ci (↑ax:Int)),(ci aJ),(ci aZ.1),(ci aZ.2),(.im (.v (.string aZ.3)))]
theorem bp7 (L:LP) (QD:D->Prop) (t:ak) (g:Nat->au) (ge:Nat->aq) (kd:Int) (k:Nat) (j:Int) (v:jd) (h:(LC 18 [(ez t)] [] (int (cp t)) []/\br (cp t != 0) (QD Vv) (br (decide ((↑k:Int)≥(↑t.2.1:Int))) (QD AQ) ((LC 75 [(ez t)] [(aU t),(.box (p9 kd k j v)),ch] (.a (fS t)) [(aU t),(.box (p9 kd k j v)),ch,(rq t),(qF t)]/\(LC 76 [(.a (fS t)),(.a (p9 kd k j v))] [(aU t),(.box (p9 kd k j v)),ch,(rq t),(qF t),(.box (fS t))] (bool true) [(aU t),(.box (p9 kd k j v)),ch,(.bo 52 14 t.2.1 (λi=>bL (g i)) .none),(.bo 57 3 t.3.1 (λi=>bD (ge i)) .none),(.box (fS t))]/\(LC 18 [(.a [(ci t.1.1),(ci t.1.2),(.im (.sl 14 t.2.1 (λi j=>oI (bL (g i) j)))),(.im (.sl 3 t.3.1 (λi j=>oI (bD (ge i) j))))])] [] (int (cp { place:=t.1,ins:={ n:=t.2.1,get:=λi=>g i },aa:={ n:=t.3.1,get:=λi=>ge i } })) []/\br (cp { place:=t.1,ins:={ n:=t.2.1,get:=λi=>g i },aa:={ n:=t.3.1,get:=λi=>ge i } }!=0) (QD AQ) (QD (.t [(.true,[(ci t.1.1),(ci t.1.2),(.im (.sl 14 t.2.1 (λi j=>oI (bL (g i) j)))),(.im (.sl 3 t.3.1 (λi j=>oI (bD (ge i) j))))]),(.false,[(ci 0)])]))))))))):ep (XW t g ge) 43 bg2 L (bf QD) [aO t,va kd k j v] []:=km h
theorem ae8 (x:au):∀ j,j<14->cD (oI (bL x j)) (gw x j)
 | 0,_=>cD.refl _
 | 1,_=>cD.refl _
 | 2,_=>cD.refl _
 | 3,_=>cD.refl _
 | 4,_=>cD.refl _
 | 5,_=>cD.refl _
 | 6,_=>cD.refl _
 | 7,_=>cD.refl _
 | 8,_=>cD.refl _
 | 9,_=>cD.refl _
 | 10,_=>cD.refl _
 | 11,_=>cD.refl _
 | 12,_=>cD.refl _
 | 13,_=>cD.refl _
 | n+14,h=>absurd h (by omega)
theorem ag0 (x:cZ):∀ j,j<4->cD (oI (fR x j)) (ff x j)
 | 0,_=>cD.refl _
 | 1,_=>cD.refl _
 | 2,_=>cD.refl _
 | 3,_=>cD.refl _
 | n+4,h=>absurd h (by omega)
theorem aF0 (x:aq):∀ j,j<3->cD (oI (bD x j)) (dQ x j)
 | 0,_=>cD.sl λi _ j hj=>KF _ j hj
 | 1,_=>cD.sl λi _ j hj=>ag0 _ j hj
 | 2,_=>cD.refl _
 | n+3,h=>absurd h (by omega)
theorem Nb (u:ak):aF dI [.im (iI u.place.fn),.im (iI u.place.line),.im (.sl 14 u.ins.n λi j=>oI (bL (u.ins.get i) j)),.im (.sl 3 u.aa.n λi j=>oI (bD (u.aa.get i) j))] (lift (aT u)):=
 .cons (dI.refl _) (.cons (dI.refl _) (.cons (dI.im (cD.sl λi _ j hj=>ae8 _ j hj)) (.cons (dI.im (cD.sl λi _ j hj=>aF0 _ j hj)) .nil)))
theorem UG (t:ak) (g:Nat->au) (ge:Nat->aq) (kd:Int) (k:Nat) (j:Int) (v:jd) (hS:aM t) (hk:k<t.ins.n) (h0:cp t=0) (hSu:aM (uT t g ge)) (hc:LC 76 [Jf t 0 1,va kd k j v] [bV t.ins,fb t.aa] (bool true) [bV ⟨t.ins.n,g⟩,fb ⟨t.aa.n,ge⟩]):LC 43 [aO t,va kd k j v] [] (H2 (uT t g ge)) []:=by
 have hc:=λRS h=>bt.gQ hc [3,4] RS rfl h
 refine pv (X:=XW t g ge) (stop:=bg2) bA2 (bp7 _ _ t g ge kd k j v ⟨Wk t hS,ag (λh=>?_) (λ_=>ag (λh=>?_) (λ_=>⟨bt.gQ (aW0 t hS) [] _ rfl rfl,hc _ ⟨rfl,aQ rfl,rfl,aQ rfl,rfl⟩,bt.pre (Wk _ hSu) (.cons (jK (Nb (uT t g ge))) .nil),ag (λh=>?_) (λh=>?_)⟩))⟩)
 .grind
 .grind
 .have h:(cp (uT t g ge)!=0)=true:=h
  show aX _ (H2 _)
  unfold H2
  rw [h]
  exact aX.refl _
 .have h:(cp (uT t g ge)!=0)=false:=h
  show aX _ (H2 _)
  unfold H2
  rw [h]
  exact H4 (Nb (uT t g ge))
open Go Go.V
section
def Gu (i e:ah) (b:Bool):eU:={ F:=ext pY [(46,λds rs=>(.a (jO (dO ds 0) rs.length (rs.length+1)),[],[cm (dO ds 0).ins,eV (dO ds 0).aa])),(79,λ_ _=>(.a (fO 0 0 0 0 0 (-1)),[],[])),(78,λ_ _=>(.t [],[(3,i),(4,e)],[])),(81,λ_ _=>(bool b,[(3,i),(4,e)],[]))],S:=qy }
def foO (n k:Nat) (g:Nat->Nat->O) (x:au):ah:=.bo 52 14 n g (some (k,gu (cn x) 14 0))
def Mq (kd k j:Int) (v:jd):ah:=.box [ci kd,ci k,ci j,ci v.kind,ci v.n,.im (iS v.s)]
def tb3 (t:ak):ah:=.box [.im (iI t.place.fn),.im (iI t.place.line),.sa 3 t.ins.n,.sa 4 t.aa.n]
def zb4:ah:=.box [ci 0,ci 0,kY,kY]
end
def bc7:Nat->Bool:=bH
theorem bu3:Fn 79:={}
section
variable (L:LP) (u aj:ak) (QD:D->Prop) (ax:Nat) (t:ak) (k j:Nat) (g:Nat->Nat->O) (x:au) (es:Sq aq) (bb:Bool)
theorem bC3 (h:QD (.a nj)):ep (Gu .dead .dead false) 79 bc7 L (bf QD) [] []:=km h
theorem WX:LC 79 [] [] (.a (fO 0 0 0 0 0 (-1))) []:=by
 refine pv (X:=(Gu .dead .dead false)) (stop:=bc7) bu3 (bC3 _ _ ?_)
 exact aX.refl _
def rY:Nat->Bool:=λi=>Nat.beq i 6||Nat.beq i 18||Nat.beq i 30
theorem ba0:Fn 44:={}
theorem aZ3 (kd:Int) (k:Nat) (j:Int) (v:jd) (h:(LC 40 [(ez t)] [] (int (dS t)) []/\br (dS t != 0) (QD Vv) (br (decide ((↑k:Int)≥(↑t.2.1:Int))) (QD AQ) ((LC 46 [(ez t)] [(aU t),(.box (p9 kd k j v)),ch] (.a (fS t)) [(aU t),(.box (p9 kd k j v)),ch,(jt t),(iK t)]/\L (af 44 6) ⟨[b4,fV,mC,hU],[(aU t),(.box (p9 kd k j v)),ch,(jt t),(iK t),(.box (fS t))],[]⟩))))):ep (Gu .dead .dead false) 44 rY L (bf QD) [aO t,va kd k j v] []:=km h
def NX:D:=bif dS u != 0 then rwZ else .t [(true,lift (aT u)),(false,[ci 0])]
theorem oi {s:Sq au} {k:Nat} {x:au} {l:List Fc} (h:Hz (cn x) l 0):aY (.bo 52 14 s.n (λi=>cn (s.get i)) (some (k,l))) (cm (hJ s k x)):=
 aY.unf (by show Hz (cn (bif Nat.beq k k then x else _)) l 0; simp_all) λi hi qG j hj=>by
  show nV (cn (s.get i) j) (cn (bif Nat.beq i k then x else s.get i) j)
  rw [KS qG]
  exact nV.refl _
theorem N0:aF dI [.im (iI u.place.fn),.im (iI u.place.line),.im (.sl 14 u.ins.n λi j=>oI (cn (u.ins.get i) j)),.im (.sl 3 u.aa.n λi j=>oI (cL (u.aa.get i) j))] (lift (aT u)):=
 .cons (dI.refl _) (.cons (dI.refl _) (.cons (dI.im (cD.sl λi _ j hj=>Te _ j hj)) (.cons (dI.im (cD.sl λi _ j hj=>Vk _ j hj)) .nil)))
abbrev Er:a8:=[gm,(3,.c (.rt 1 0 0),[]),(4,.c (.rt 2 0 0),[]),nn]
def MT  : VS:=⟨Er,[.box (lift (aT t)),Mq 3 k 0 dk,zb4,foO t.ins.n k g x,eV es,tb3 t],[]⟩
abbrev Q1 (ax:Nat->Nat->O) (aJ:Nat):ah:=.bo 52 14 aj.2.1 (ax) (.some (aJ,[(.c (ci 0)),(.c (ci 0)),(.c (ci 0)),(.c (ci 0)),(.c (ci 0)),(.c bS),(.c (ci 0)),(.c (ci 0)),(.c dH),(.c bS),(.c (ci 0)),(.c (ci 0)),(.c (ci (-1))),(.c ea)]))
abbrev Dl (aj:Sq aq):ah:=.bo 57 3 aj.1 (λi=>cL (aj.2 i)) .none
abbrev mf:List D:=[(ez aj),(fp ax)]
abbrev Kg (aj:Nat) (ax:LP) (aJ:ak) (aZ:Nat->Nat->O) (bR:Sq aq):Prop:=(LC 79 [] [] (.a nj) []/\nd (aj.beq aj) (ax (af 44 30) ⟨[mC,hU,(8,((bool false),[]))],[(aU aJ),(.box (fI aj)),ch,(Q1 aJ aZ aj),(.bo 57 3 bR.1 (λi=>cL (bR.2 i)) .none),(.box (fS aJ))],[]⟩))
theorem X4 (h:nd (bQ (↑k:Int) t.2.1) (nd (k.blt t.2.1) (nd (k.beq k) (br (x.1 != 1) (nd (k.blt t.2.1) (nd (k.beq k) (br (x.1 != 20) (nd (k.blt t.2.1) (nd (k.beq k) (br (x.1 != 21) (nd (k.blt t.2.1) (nd (k.beq k) ((LC 68 [(int x.1)] [] (bool (xU x.1)) []/\br (!xU x.1) ((LC 79 [] [] (.a nj) []/\nd (k.beq k) (L (af 44 30) ⟨[mC,hU,(8,((bool true),[]))],[(aU t),(.box (fI k)),ch,(Q1 t g k),(Dl es),(.box (fS t))],[]⟩))) ((LC 45 (mf t k) [] (.t []) []/\False)))))) (Kg k L t g es)))) (Kg k L t g es)))) (Kg k L t g es))))):b5 (Gu .dead .dead false) 44 rY L (bf QD) 6 (MT t k g x es ):=km h
def Oz  : VS:=⟨Er,[.box (lift (aT t)),Mq 1 k 0 td,zb4,foO t.ins.n k g x,eV es,tb3 t],[]⟩
abbrev NU (aj:Nat) (ax:ak) (aJ:LP) (aZ:Nat->Nat->O) (bR:au) (cW:Sq aq):Prop:=nd (aj.blt ax.2.1) (nd (aj.beq aj) (nd (aj.beq aj) (nd (aj.blt ax.2.1) (nd (aj.beq aj) (nd (aj.beq aj) (aJ (af 44 30) ⟨[(4,((.c (.rt 2 0 0)),[])),(6,((.c (.rt 5 0 0)),[])),(8,((bool true),[]))],[(aU ax),(.box [(ci 1),(ci (↑aj:Int)),(ci 0),(ci 1),(ci 0),dH]),ch,(.bo 52 14 ax.2.1 (aZ) (.some (aj,[(.c (ci 2)),(.c (ci 0)),(.c (ci 0)),(.c (ci 0)),(.c (ci 0)),(.c bS),(.c (ci 1)),(.c (ci 0)),(.c dH),(.c bS),(.c (ci 0)),(.c (ci 0)),(.c (ci (-1))),(.c (.im (.v (.bool bR.11))))]))),(.bo 57 3 cW.1 (λi=>cL (cW.2 i)) .none),(.box [(ci ax.1.1),(ci ax.1.2),(.sa 3 ax.2.1),(.sa 4 ax.3.1)])],[]⟩))))))
theorem ag8 (h:nd (bQ (↑k:Int) t.2.1) ((LC 77 [WK] [] RD []/\nd (k.blt t.2.1) (nd (k.beq k) (br (x.1==3) (NU k t L g x es) (nd (k.blt t.2.1) (nd (k.beq k) (br (x.1==4) (NU k t L g x es) (nd (k.blt t.2.1) (nd (k.beq k) (br (x.1==10) (NU k t L g x es) (nd (k.blt t.2.1) (nd (k.beq k) (br (x.1==12) (NU k t L g x es) (nd (k.blt t.2.1) (nd (k.beq k) (nd (k.blt t.2.1) (nd (k.beq k) (nd (k.beq k) (nd (k.blt t.2.1) (nd (k.beq k) (nd (k.beq k) (L (af 44 30) ⟨[mC,hU,(8,((bool (x.1==14)),[]))],[(aU t),(.box (Lv k)),ch,(.bo 52 14 t.2.1 (g) (.some (k,[(.c (ci 2)),(.c (ci 0)),(.c (ci 0)),(.c (ci 0)),(.c (ci 0)),(.c bS),(.c (ci 1)),(.c (ci 0)),(.c dH),(.c bS),(.c (ci 0)),(.c (ci 0)),(.c (ci (-1))),(.c (gG x))]))),(Dl es),(.box (fS t))],[]⟩))))))))))))))))))))))):b5 (Gu .dead .dead false) 44 rY L (bf QD) 6 (Oz t k g x es ):=km h
def Ou  : VS:=⟨Er,[.box (lift (aT t)),Mq 5 k 0 dk,zb4,foO t.ins.n k g x,eV es,tb3 t],[]⟩
abbrev Rj (aJ:Nat->Nat->O) (aZ:au) (bR:Sq aq):List ah:=[(aU aj),(.box [(ci 5),(ci (↑ax:Int)),(ci 0),(ci 0),(ci 0),dH]),ch,(.bo 52 14 aj.2.1 (aJ) (.some (ax,[(.c (ci aZ.1)),(.c (ci aZ.2)),(.c (ci aZ.3)),(.c (ci aZ.4)),(.c (ci aZ.5)),(.o (.ar 3 1 aZ.6.1 (λi=>bn (aZ.6.2 i)))),(.c (ci aZ.7.1)),(.c (ci aZ.7.2)),(.c (oW aZ)),(.o (.ar 9 1 aZ.8.1 (λi=>cA (aZ.8.2 i)))),(.c (ci aZ.9.1)),(.c (ci aZ.9.2)),(.c (ci aZ.10)),(.c (.im (.v (.bool true))))]))),(Dl bR),(.box (fS aj))]
theorem Y3 (h:nd (bQ (↑k:Int) t.2.1) (nd (k.blt t.2.1) (nd (k.beq k) ((LC 80 [(int x.1)] [] (bool (Ns x.1)) []/\br (Ns x.1) (nd (k.blt t.2.1) (nd (k.beq k) (nd (k.beq k) (L (af 44 30) ⟨[mC,hU,(8,((bool !x.11),[]))],(Rj t k g x es),[]⟩)))) (nd (k.beq k) (L (af 44 30) ⟨[mC,hU,(8,((bool false),[]))],(Rj t k g x es),[]⟩))))))):b5 (Gu .dead .dead false) 44 rY L (bf QD) 6 (Ou t k g x es ):=km h
def NR (i e:ah)  : VS:=⟨Er,[.box (lift (aT t)),Mq 2 k j dk,zb4,cm t.ins,eV t.aa,tb3 t],[]⟩
abbrev AU:a8:=[fV,mC,hU,(8,((bool false),[])),(131,((bool false),[]))]
theorem Zv (i e:ah) (h:nd (bQ (↑k:Int) t.2.1) (br (decide ((↑j:Int)<(↑k:Int))) (nd (bQ (↑j:Int) t.2.1) (nd (k.blt t.2.1) ((LC 68 [(eD t k)] [] (bool (xU (t.2.2 k).1)) []/\br (xU (t.2.2 k).1) ((LC 68 [(eD t j)] [] (bool (xU (t.2.2 j).1)) []/\br (xU (t.2.2 j).1) (nd (k.blt t.2.1) (br ((t.2.2 k).1 != 17) (br ((t.2.2 j).1 != 17) (nd (k.blt t.2.1) (br ((t.2.2 k).1 != 1) ((LC 78 [(.a (fS t)),(int (↑k:Int)),(int (↑j:Int))] [(aU t),(nL k j),ch,(.bo 52 14 t.2.1 (λi=>cn (t.2.2 i)) .none),(.bo 57 3 t.3.1 (λi=>cL (t.3.2 i)) .none),(.box (fS t)),(eS t j)] (.t []) [(aU t),(nL k j),ch,i,e,(.box (fS t)),(eS t j)]/\L (af 44 18) ⟨[fV,mC,hU,(8,((bool ((t.2.2 k).1 != 1)),[]))],[(aU t),(nL k j),ch,i,e,(.box (fS t)),(eS t j)],[]⟩)) (L (af 44 30) ⟨[fV,mC,hU,(8,((bool ((t.2.2 k).1 != 1)),[])),(131,((bool false),[]))],[(aU t),(nL k j),ch,(.bo 52 14 t.2.1 (λi=>cn (t.2.2 i)) .none),(.bo 57 3 t.3.1 (λi=>cL (t.3.2 i)) .none),(.box (fS t)),(eS t j)],[]⟩))) (L (af 44 30) ⟨AU,[(aU t),(nL k j),ch,(.bo 52 14 t.2.1 (λi=>cn (t.2.2 i)) .none),(.bo 57 3 t.3.1 (λi=>cL (t.3.2 i)) .none),(.box (fS t)),(eS t j)],[]⟩)) (L (af 44 30) ⟨AU,[(aU t),(nL k j),ch,(.bo 52 14 t.2.1 (λi=>cn (t.2.2 i)) .none),(.bo 57 3 t.3.1 (λi=>cL (t.3.2 i)) .none),(.box (fS t)),(eS t j)],[]⟩))) (L (af 44 30) ⟨AU,[(aU t),(nL k j),ch,(.bo 52 14 t.2.1 (λi=>cn (t.2.2 i)) .none),(.bo 57 3 t.3.1 (λi=>cL (t.3.2 i)) .none),(.box (fS t)),(eS t j)],[]⟩))) (L (af 44 30) ⟨AU,[(aU t),(nL k j),ch,(.bo 52 14 t.2.1 (λi=>cn (t.2.2 i)) .none),(.bo 57 3 t.3.1 (λi=>cL (t.3.2 i)) .none),(.box (fS t)),(eS t j)],[]⟩))))) (L (af 44 30) ⟨AU,[(aU t),(nL k j),ch,(.bo 52 14 t.2.1 (λi=>cn (t.2.2 i)) .none),(.bo 57 3 t.3.1 (λi=>cL (t.3.2 i)) .none),(.box (fS t))],[]⟩))):b5 (Gu i e false) 44 rY L (bf QD) 6 (NR t k j i e ):=km h
def zH  : VS:=⟨[(3,.c (.rt 1 0 0),[]),(4,.c (.rt 2 0 0),[]),nn,(8,bool bb,[])],[.box (lift (aT t)),Mq 2 k j dk,zb4,foO t.ins.n k g x,eV es,tb3 t],[]⟩
theorem Ut (h:(LC 79 [] [] (.a nj) []/\nd (bQ (↑k:Int) t.2.1) (nd (k.beq k) ((LC 79 [] [] (.a nj) []/\nd (bQ (↑k:Int) t.2.1) (nd (k.beq k) (L (af 44 30) ⟨[mC,hU,(8,((bool bb),[]))],[(aU t),(nL k j),ch,(Q1 t g k),(Dl es),(.box (fS t)),.dead],[]⟩))))))):b5 (Gu .dead .dead false) 44 rY L (bf QD) 18 (zH t k j g x es bb ):=km h
end
section
variable (t:ak) (kd:Int) (k:Nat) (j:Int) (v:jd) (s:Sq au) (es:Sq aq)
def jI (b:Bool)  : VS:=⟨[(4,.c (.rt 2 0 0),[]),nn,(8,bool b,[])],[.box (lift (aT t)),Mq kd k j v,zb4,cm s,eV es,.box [ci t.place.fn,ci t.place.line,.sa 3 s.n,.sa 4 es.n]],[]⟩
theorem Hb (L:LP) (QD:D->Prop) (t:ak) (kd:Int) (k:Nat) (j:Int) (v:jd) (s:Sq au) (es:Sq aq) (b:Bool)  (h:br (!b) (QD AQ) ((LC 40 [(.a [(ci t.1.1),(ci t.1.2),(.im (.sl 14 s.1 (λi j=>oI (cn (s.2 i) j)))),(.im (.sl 3 es.1 (λi j=>oI (cL (es.2 i) j))))])] [] (int (dS { place:=t.1,ins:=s,aa:=es })) []/\br (dS { place:=t.1,ins:=s,aa:=es }!=0) (QD AQ) (QD (.t [(.true,[(ci t.1.1),(ci t.1.2),(.im (.sl 14 s.1 (λi j=>oI (cn (s.2 i) j)))),(.im (.sl 3 es.1 (λi j=>oI (cL (es.2 i) j))))]),(.false,[(ci 0)])]))))):b5 (Gu .dead .dead false) 44 rY L (bf QD) 30 (jI t kd k j v s es b ):=km h
theorem Ox (hS:aM ⟨t.place,s,es⟩):ae 44 0 (a7 (NX ⟨t.place,s,es⟩)) (af 44 30) (jI t kd k j v s es true):=by
 refine aK (X:=(Gu .dead .dead false)) (stop:=rY) (Hb _ _ t kd k j v s es true ?_)
 refine ag (λh=>Bool.noConfusion h) (λ_=>⟨bt.pre (MV ⟨t.place,s,es⟩ hS) (.cons (jK (N0 ⟨t.place,s,es⟩)) .nil),ag (λh=>?_) (λh=>?_)⟩)
 .have h:(dS ⟨t.place,s,es⟩!=0)=true:=h
  show aX _ (NX _)
  unfold NX
  rw [h]
  exact aX.refl _
 .have h:(dS ⟨t.place,s,es⟩!=0)=false:=h
  show aX _ (NX _)
  unfold NX
  rw [h]
  exact H4 (N0 ⟨t.place,s,es⟩)
theorem am7:ae 44 0 (a7 rwZ) (af 44 30) (jI t kd k j v s es false):=by
 refine aK (X:=(Gu .dead .dead false)) (stop:=rY) (Hb _ _ t kd k j v s es false ?_)
 exact ag (λ_=>aX.refl _) (λh=>Bool.noConfusion h)
theorem ag9 (hS:aM t) (hk:k<t.ins.n) (h0:dS t=0) (d:D) (g:ae 44 0 (a7 d) (af 44 6) ⟨[(2,.c (.rt 0 0 0),[]),(3,.c (.rt 1 0 0),[]),(4,.c (.rt 2 0 0),[]),(6,.c (.rt 5 0 0),[])],[.box (lift (aT t)),Mq kd k j v,zb4,cm t.ins,eV t.aa,tb3 t],[]⟩):LC 44 [aO t,va kd k j v] [] d []:=by
 refine pv (X:=(Gu .dead .dead false)) (stop:=rY) ba0 (aZ3 _ _ t kd k j v ⟨MV t hS,ag (λh=>?_) (λ_=>ag (λh=>?_) (λ_=>⟨bt.gQ (ao3 t hS) [] _ rfl rfl,g⟩))⟩)
 all_goals grind
theorem aI5 (hk:k<t.ins.n) (hS:aM t) (h0:dS t=0) (ho:(t.ins.get k).op=7∨(t.ins.get k).op=8∨(t.ins.get k).op=11∨(t.ins.get k).op=13) (hu:aM ⟨t.place,hJ t.ins k iG,t.aa⟩):LC 44 [aO t,va 3 k 0 dk] [] (NX ⟨t.place,hJ t.ins k iG,t.aa⟩) []:=by
 refine ag9 t 3 k 0 dk hS hk h0 _ ?_
 refine ae.iZ 3 k (gu (cn (t.ins.get k)) 14 0) rfl hk rfl ?_
 refine ae.lr (MT t k (λi=>cn (t.ins.get i)) (t.ins.get k) t.aa) ?_
 have n2:xU (t.ins.get k).op=false:=by rcases ho with q|q|q|q<;>rw [q]<;>rfl
 refine aK (X:=(Gu .dead .dead false)) (stop:=rY) (X4 _ _ t k (λi=>cn (t.ins.get i)) (t.ins.get k) t.aa ?_)
 refine ai (by grind [aC]) ?_
 refine ai (by simp_all) ?_
 refine ai (by simp_all) ?_
 refine ag (λ_=>?_) (λh=>absurd h (by grind))
 refine ai (by simp_all) ?_
 refine ai (by simp_all) ?_
 refine ag (λ_=>?_) (λh=>absurd h (by grind))
 refine ai (by simp_all) ?_
 refine ai (by simp_all) ?_
 refine ag (λ_=>?_) (λh=>absurd h (by grind))
 refine ai (by simp_all) ?_
 refine ai (by simp_all) ?_
 refine ⟨I7 _,?_⟩
 refine ag (λ_=>?_) (λh=>absurd h (by grind))
 refine ⟨WX,?_⟩
 refine ai (by simp_all) ?_
 exact ae.lf (jI t 3 k 0 dk (hJ t.ins k iG) (t.aa) true) (rc (rc (rc (.cons (oi (s:=t.ins) (x:=iG) ⟨aR.aB _,aR.aB _,aR.aB _,aR.aB _,aR.aB _,aR.nil,aR.aB _,aR.aB _,aR.aB _,aR.nil,aR.aB _,aR.aB _,aR.aB _,aR.aB _,trivial⟩) (rc (rc .nil)))))) (Ox t 3 k 0 dk (hJ t.ins k iG) (t.aa) hu)
theorem ar1 (hk:k<t.ins.n) (hS:aM t) (h0:dS t=0) (ho:(t.ins.get k).op=10) (hu:aM ⟨t.place,hJ t.ins k (oK (t.ins.get k).once),t.aa⟩):LC 44 [aO t,va 1 k 0 td] [] (NX ⟨t.place,hJ t.ins k (oK (t.ins.get k).once),t.aa⟩) []:=by
 refine ag9 t 1 k 0 td hS hk h0 _ ?_
 refine ae.iZ 3 k (gu (cn (t.ins.get k)) 14 0) rfl hk rfl ?_
 refine ae.lr (Oz t k (λi=>cn (t.ins.get i)) (t.ins.get k) t.aa) ?_
 refine aK (X:=(Gu .dead .dead false)) (stop:=rY) (ag8 _ _ t k (λi=>cn (t.ins.get i)) (t.ins.get k) t.aa ?_)
 refine ai (by grind [aC]) ?_
 refine ⟨am5 _ (by show (0:Nat)<=_; exact bk _),?_⟩
 refine ai (by simp_all) ?_
 refine ai (by simp_all) ?_
 refine ag (λh=>absurd h (by grind)) (λ_=>?_)
 refine ai (by simp_all) ?_
 refine ai (by simp_all) ?_
 refine ag (λh=>absurd h (by grind)) (λ_=>?_)
 refine ai (by simp_all) ?_
 refine ai (by simp_all) ?_
 refine ag (λ_=>?_) (λh=>absurd h (by grind))
 refine ai (by simp_all) ?_
 refine ai (by simp_all) ?_
 refine ai (by simp_all) ?_
 refine ai (by simp_all) ?_
 refine ai (by simp_all) ?_
 refine ai (by simp_all) ?_
 exact ae.lf (jI t 1 k 0 td (hJ t.ins k (oK (t.ins.get k).once)) (t.aa) true) (rc (rc (rc (.cons (oi (s:=t.ins) (x:=(oK (t.ins.get k).once)) ⟨aR.aB _,aR.aB _,aR.aB _,aR.aB _,aR.aB _,aR.nil,aR.aB _,aR.aB _,aR.aB _,aR.nil,aR.aB _,aR.aB _,aR.aB _,aR.aB _,trivial⟩) (rc (rc .nil)))))) (Ox t 1 k 0 td (hJ t.ins k (oK (t.ins.get k).once)) (t.aa) hu)
def xo:ak:=⟨t.place,hJ t.ins k { (t.ins.get k) with once:=true },t.aa⟩
def xg:D:=bif Ns (t.ins.get k).op && !(t.ins.get k).once then NX (xo t k) else rwZ
theorem aD4 (hk:k<t.ins.n) (hS:aM t) (h0:dS t=0) (hu:aM ⟨t.place,hJ t.ins k { (t.ins.get k) with once:=true },t.aa⟩):LC 44 [aO t,va 5 k 0 dk] [] (xg t k) []:=by
 refine ag9 t 5 k 0 dk hS hk h0 _ ?_
 refine ae.iZ 3 k (gu (cn (t.ins.get k)) 14 0) rfl hk rfl ?_
 refine ae.lr (Ou t k (λi=>cn (t.ins.get i)) (t.ins.get k) t.aa) ?_
 refine aK (X:=(Gu .dead .dead false)) (stop:=rY) (Y3 _ _ t k (λi=>cn (t.ins.get i)) (t.ins.get k) t.aa ?_)
 refine ai (by grind [aC]) ?_
 refine ai (by simp_all) ?_
 refine ai (by simp_all) ?_
 refine ⟨al3 _,ag (λh=>?_) (λh=>?_)⟩
 .refine ai (by simp_all) ?_
  refine ai (by simp_all) ?_
  refine ai (by simp_all) ?_
  cases ho:(t.ins.get k).once with
  | false=>
    have e:xg t k=NX (xo t k):=by grind [xg]
    rw [e]
    exact ae.lf (jI t 5 k 0 dk (hJ t.ins k ({ (t.ins.get k) with once:=true })) (t.aa) true) (rc (rc (rc (.cons (oi (s:=t.ins) (x:=({ (t.ins.get k) with once:=true })) ⟨aR.aB _,aR.aB _,aR.aB _,aR.aB _,aR.aB _,aR.refl _,aR.aB _,aR.aB _,aR.aB _,aR.refl _,aR.aB _,aR.aB _,aR.aB _,aR.aB _,trivial⟩) (rc (rc .nil)))))) (Ox t 5 k 0 dk (hJ t.ins k ({ (t.ins.get k) with once:=true })) (t.aa) hu)
  | true=>
    have e:xg t k=rwZ:=by grind [xg]
    rw [e]
    exact ae.lf (jI t 5 k 0 dk (hJ t.ins k ({ (t.ins.get k) with once:=true })) (t.aa) false) (rc (rc (rc (.cons (oi (s:=t.ins) (x:=({ (t.ins.get k) with once:=true })) ⟨aR.aB _,aR.aB _,aR.aB _,aR.aB _,aR.aB _,aR.refl _,aR.aB _,aR.aB _,aR.aB _,aR.refl _,aR.aB _,aR.aB _,aR.aB _,aR.aB _,trivial⟩) (rc (rc .nil)))))) (am7 t 5 k 0 dk (hJ t.ins k ({ (t.ins.get k) with once:=true })) (t.aa))
 .refine ai (by simp_all) ?_
  have e:xg t k=rwZ:=by grind [xg]
  rw [e]
  exact ae.lf (jI t 5 k 0 dk (hJ t.ins k ({ (t.ins.get k) with once:=true })) (t.aa) false) (rc (rc (rc (.cons (oi (s:=t.ins) (x:=({ (t.ins.get k) with once:=true })) ⟨aR.aB _,aR.aB _,aR.aB _,aR.aB _,aR.aB _,aR.refl _,aR.aB _,aR.aB _,aR.aB _,aR.refl _,aR.aB _,aR.aB _,aR.aB _,aR.aB _,trivial⟩) (rc (rc .nil)))))) (am7 t 5 k 0 dk (hJ t.ins k ({ (t.ins.get k) with once:=true })) (t.aa))
theorem bi4 (j:Nat) (hk:k<t.ins.n) (hj:j<t.ins.n) (hu:aM ⟨t.place,hJ (aE (cS k j) t.ins t.ins.n) k iG,(aE (dV k j) t.aa t.aa.n)⟩):ae 44 0 (a7 (NX ⟨t.place,hJ (aE (cS k j) t.ins t.ins.n) k iG,(aE (dV k j) t.aa t.aa.n)⟩)) (af 44 18) (zH t k j (λi=>cn ((aE (cS k j) t.ins t.ins.n).get i)) ((aE (cS k j) t.ins t.ins.n).get k) (aE (dV k j) t.aa t.aa.n) true):=by
 refine aK (X:=(Gu .dead .dead false)) (stop:=rY) (Ut _ _ t k j (λi=>cn ((aE (cS k j) t.ins t.ins.n).get i)) ((aE (cS k j) t.ins t.ins.n).get k) (aE (dV k j) t.aa t.aa.n) true ?_)
 refine ⟨WX,?_⟩
 refine ai (by grind [aC]) ?_
 refine ai (by simp_all) ?_
 refine ⟨WX,?_⟩
 refine ai (by grind [aC]) ?_
 refine ai (by simp_all) ?_
 refine ae.rename [0,1,2,3,4,5] rfl ?_
 exact ae.lf (jI t 2 k j dk (hJ (aE (cS k j) t.ins t.ins.n) k iG) ((aE (dV k j) t.aa t.aa.n)) true) (rc (rc (rc (.cons (oi (s:=(aE (cS k j) t.ins t.ins.n)) (x:=iG) ⟨aR.aB _,aR.aB _,aR.aB _,aR.aB _,aR.aB _,aR.nil,aR.aB _,aR.aB _,aR.aB _,aR.nil,aR.aB _,aR.aB _,aR.aB _,aR.aB _,trivial⟩) (rc (rc .nil)))))) (Ox t 2 k j dk (hJ (aE (cS k j) t.ins t.ins.n) k iG) ((aE (dV k j) t.aa t.aa.n)) hu)
theorem aJ1 (hk:k<t.ins.n) (hS:aM t) (h0:dS t=0) (j:Nat) (hjk:j<k) (h1:xU (t.ins.get k).op=true) (h2:xU (t.ins.get j).op=true) (h3:((t.ins.get k).op==17)=false) (h4:((t.ins.get j).op==17)=false) (h5:((t.ins.get k).op==1)=false) (hN:∀ k,k<t.ins.n->(t.ins.get k).op≠20->(t.ins.get k).args.n=0) (hu:aM ⟨t.place,hJ (aE (cS k j) t.ins t.ins.n) k iG,(aE (dV k j) t.aa t.aa.n)⟩):LC 44 [aO t,va 2 k j dk] [] (NX ⟨t.place,hJ (aE (cS k j) t.ins t.ins.n) k iG,(aE (dV k j) t.aa t.aa.n)⟩) []:=by
 have hj:j<t.ins.n:=by omega
 have hc:=λRS h=>bt.gQ (aX6 t (k:Int) (j:Int) hS hN) [3,4] RS rfl h
 refine ag9 t 2 k j dk hS hk h0 _ ?_
 refine ae.lr (NR t k j (cm (aE (cS k j) t.ins t.ins.n)) (eV (aE (dV k j) t.aa t.aa.n))) ?_
 refine aK (X:=Gu (cm (aE (cS k j) t.ins t.ins.n)) (eV (aE (dV k j) t.aa t.aa.n)) false) (stop:=rY) (Zv _ _ t k j (cm (aE (cS k j) t.ins t.ins.n)) (eV (aE (dV k j) t.aa t.aa.n)) ?_)
 refine ai (by grind [aC]) ?_
 refine ag (λ_=>?_) (λh=>absurd (of_decide_eq_false h) (by omega))
 refine ai (by grind [aC]) ?_
 refine ai (by simp_all) ?_
 refine ⟨I7 _,?_⟩
 refine ag (λ_=>?_) (λh=>Bool.noConfusion (h1.symm.trans h))
 refine ⟨I7 _,?_⟩
 refine ag (λ_=>?_) (λh=>Bool.noConfusion (h2.symm.trans h))
 refine ai (by simp_all) ?_
 refine ag (λ_=>?_) (λh=>absurd h (by grind))
 refine ag (λ_=>?_) (λh=>absurd h (by grind))
 refine ai (by simp_all) ?_
 refine ag (λ_=>?_) (λh=>absurd h (by grind))
 refine ⟨hc _ ⟨rfl,aQ rfl,rfl,aQ rfl,rfl⟩,?_⟩
 rw [show ((t.ins.get k).op != 1)=true from by grind]
 refine ae.rename [0,1,2,3,4,5] rfl ?_
 refine ae.iZ 3 k (gu (cn ((aE (cS k j) t.ins t.ins.n).get k)) 14 0) rfl hk rfl ?_
 exact ae.lr (zH t k j (λi=>cn ((aE (cS k j) t.ins t.ins.n).get i)) ((aE (cS k j) t.ins t.ins.n).get k) (aE (dV k j) t.aa t.aa.n) true) (bi4 t k j hk hj hu)
end
open Go Go.V
section
def F65:FuncId->List D->List ah->Out:=ext pY [(65,λds _=>(int (cf (dO ds 0) (aI ds 1).toNat (aI ds 2).toNat),[],[]))]
def PN:eU:={ F:=F65 }
def kZ (t:ak) (k:Nat):Nat->Nat->Bool
 | 0,_=>false
 | m+1,j=>bif et (t.ins.get j).op&&cf t k j==2 then true else bif decide ((t.ins.get j).exit≥0)||(ij (t.ins.get j).op&&cf t k j != 0) then false else kZ t k m (j+1)
def rZ (t:ak) (k:Nat):Bool:=bif et (t.ins.get k).op then kZ t k (t.ins.n-(k+1)) (k+1) else false
def kg (kd k j:Int) (v:jd) (b:Bool):D:=.t [(true,[ci kd,ci k,ci j,ci v.kind,ci v.n,.im (iS v.s)]),(false,[.im (iB b)])]
end
def WU:Nat->Bool:=λi=>Nat.beq i 5
theorem bu4:Fn 61:={}
section
variable (aj:Nat) (L:LP) (QD:D->Prop) (t:ak) (k j:Nat)
abbrev sk:D:=.t [(.true,[(ci 3),(ci (↑aj:Int)),(ci 0),(ci 0),(ci 0),(.im (.v (.string ⟨⟨[]⟩⟩)))]),(.false,[(.im (.v (.bool false)))])]
abbrev o8:List C:=[(ci 0),(ci 0),(ci 0),(ci 0),(ci 0),dH]
abbrev gq:ah:=.box o8
theorem bB1 (h:nd (bQ (↑k:Int) t.2.1) ((LC 102 [(eD t k)] [] (bool (et (t.2.2 k).1)) []/\br (!et (t.2.2 k).1) (QD (sk k)) (L (af 61 5) ⟨[(dy k),b4,bK,sJ,(7,((int (IntKind.i64.wrap ((↑k:Int)+1))),[]))],[(aU t),gq,(.box (fI k))],[]⟩)))):ep PN 61 WU L (bf QD) [aO t,int k] []:=km h
def Bu:VS:=⟨[(oM k),(2,(.c (.rt 0 0 0)),[]),lX,(6,(.c (.rt 2 0 0)),[]),(7,int j,[])],[(aU t),gq,(.box (fI k))],[]⟩
abbrev wI (aj:ak) (ax aJ:Nat):List D:=[(ez aj),(fp ax),(fp aJ)]
abbrev DN:D:=.t [(.true,[(ci 3),(ci (↑aj:Int)),(ci 0),(ci 0),(ci 0),(.im (.v (.string ⟨⟨[]⟩⟩)))]),(.false,[(.im (.v (.bool true)))])]
abbrev Gg (aj:ak) (ax aJ:Nat):List ah:=[(aU aj),gq,(.box (fI ax)),(eS aj aJ)]
theorem T8 (h:br (decide ((↑j:Int)<(↑t.2.1:Int))) (nd (bQ (↑j:Int) t.2.1) ((LC 65 (wI t k j) [] (int (cf t k j)) []/\(LC 102 [(eD t j)] [] (bool (et (t.2.2 j).1)) []/\br (et (t.2.2 j).1) (br (cf t k j==2) (QD (DN k)) (br (decide ((t.2.2 j).10≥0)) (QD (sk k)) ((LC 98 [(eD t j)] [] (bool (ij (t.2.2 j).1)) []/\br (ij (t.2.2 j).1) (br (cf t k j != 0) (QD (sk k)) (L (af 61 5) ⟨[(dy k),b4,bK,sJ,(7,((int (IntKind.i64.wrap ((↑j:Int)+1))),[]))],(Gg t k j),[]⟩)) (L (af 61 5) ⟨[(dy k),b4,bK,sJ,(7,((int (IntKind.i64.wrap ((↑j:Int)+1))),[]))],(Gg t k j),[]⟩))))) (br (decide ((t.2.2 j).10≥0)) (QD (sk k)) ((LC 98 [(eD t j)] [] (bool (ij (t.2.2 j).1)) []/\br (ij (t.2.2 j).1) (br (cf t k j != 0) (QD (sk k)) (L (af 61 5) ⟨[(dy k),b4,bK,sJ,(7,((int (IntKind.i64.wrap ((↑j:Int)+1))),[]))],(Gg t k j),[]⟩)) (L (af 61 5) ⟨[(dy k),b4,bK,sJ,(7,((int (IntKind.i64.wrap ((↑j:Int)+1))),[]))],(Gg t k j),[]⟩)))))))) (QD (sk k))):b5 PN 61 WU L (bf QD) 5 (Bu t k j):=km h
theorem ax6 (hk:k<t.ins.n) (hS:aM t) (hm:gK t) (a:Bool):∀ j,j<=t.ins.n->k<j->kZ t k (t.ins.n-j) j=a->ae 61 0 (a7 (kg 3 k 0 dk a)) (af 61 5) (Bu t k j):=by
 have hN:=hS.ins
 refine aN (λj hj ih Xh ha=>?_) (λXh ha=>?_)
 .have e:t.ins.n-j=(t.ins.n-(j+1))+1:=by omega
  rw [e] at ha
  have hW:=b6 hj (by unfold maxLen; omega:_<=maxLen)
  have h65:LC 65 [aO t,int k,int j] [] (int (cf t k j)) []:=by
   grind [ah3]
  replace ih:=λ(_:k<j)=>ih (by omega)
  refine aK (X:=PN) (stop:=WU) (T8 _ _ t k j ?_)
  refine ag (λh0=>?_) (λh=>(dec_lt h hj).elim)
  refine ai (by exact aC hj) ?_
  refine ⟨h65,?_⟩
  refine ⟨vF _,?_⟩
  refine ag (λh1=>?_) (λh1=>?_)
  .refine ag (λh2=>?_) (λh2=>?_)
   .simp only [kZ,show (et (t.ins.get j).op)=true from h1,show (cf t k j==2)=true from h2,fg] at ha
    subst ha
    exact aX.refl _
   .refine ag (λh3=>?_) (λh3=>?_)
    .simp only [kZ,show (et (t.ins.get j).op)=true from h1,show (cf t k j==2)=false from h2,show (decide ((t.ins.get j).exit≥0))=true from h3,fg] at ha
     subst ha
     exact aX.refl _
    .refine ⟨Ar _,?_⟩
     refine ag (λh4=>?_) (λh4=>?_)
     .grind [et,ij]
     .simp only [kZ,show (et (t.ins.get j).op)=true from h1,show (cf t k j==2)=false from h2,show (decide ((t.ins.get j).exit≥0))=false from h3,show (ij (t.ins.get j).op)=false from h4,fg] at ha
      rw [hW]
      exact ae.rename [0,1,2] rfl (ae.lr (Bu t k (j+1)) (ih Xh ha))
  .refine ag (λh2=>?_) (λh2=>?_)
   .simp only [kZ,show (et (t.ins.get j).op)=false from h1,show (decide ((t.ins.get j).exit≥0))=true from h2,fg] at ha
    subst ha
    exact aX.refl _
   .refine ⟨Ar _,?_⟩
    refine ag (λh3=>?_) (λh3=>?_)
    .refine ag (λh4=>?_) (λh4=>?_)
     .simp only [kZ,show (et (t.ins.get j).op)=false from h1,show (decide ((t.ins.get j).exit≥0))=false from h2,show (ij (t.ins.get j).op)=true from h3,show (cf t k j != 0)=true from h4,fg] at ha
      subst ha
      exact aX.refl _
     .simp only [kZ,show (et (t.ins.get j).op)=false from h1,show (decide ((t.ins.get j).exit≥0))=false from h2,show (ij (t.ins.get j).op)=true from h3,show (cf t k j != 0)=false from h4,fg] at ha
      rw [hW]
      exact ae.rename [0,1,2] rfl (ae.lr (Bu t k (j+1)) (ih Xh ha))
    .simp only [kZ,show (et (t.ins.get j).op)=false from h1,show (decide ((t.ins.get j).exit≥0))=false from h2,show (ij (t.ins.get j).op)=false from h3,fg] at ha
     rw [hW]
     exact ae.rename [0,1,2] rfl (ae.lr (Bu t k (j+1)) (ih Xh ha))
 .rw [Nat.sub_self] at ha
  refine aK (X:=PN) (stop:=WU) (T8 _ _ t k _ ?_)
  refine ag (λh=>bq h) (λh=>?_)
  have ha:false=a:=ha
  subst ha
  exact aX.refl _
end
theorem be8 (t:ak) (k:Nat) (hk:k<t.ins.n) (hS:aM t) (hm:gK t):LC 61 [aO t,int k] [] (kg 3 k 0 dk (rZ t k)) []:=by
 have hN:=hS.ins
 refine pv (X:=PN) (stop:=WU) bu4 (bB1 _ _ t k (ai (aC hk) ⟨vF _,ag (λh=>?_) (λh=>?_)⟩))
 .have h:(!et (t.ins.get k).op)=true:=h
  rw [show rZ t k=false from by grind [rZ]]
  exact aX.refl _
 .have h:(!et (t.ins.get k).op)=false:=h
  have e:rZ t k=kZ t k (t.ins.n-(k+1)) (k+1):=by grind [rZ]
  rw [b6 hk (by unfold maxLen; omega)]
  exact ax6 t k hk hS hm _ (k+1) hk (Nat.lt_succ_self k) e.symm
open Go Go.V
section
def PX (dP:Int->Bool) (y1 y2:Int->ah):eU:={ F:=pY,S:=[1,2,8],FY:=λr ds rs=>(bool (!dP (aI ds 0)),[(1,y1 (aI ds 0)),(2,y2 (aI ds 0)),(r,GU (!dP (aI ds 0)) (bh rs r))],[]) }
def rW (t:ak) (dP:Int->Bool):Nat->Option Nat
 | 0=>none
 | j+1=>bif !(t.ins.get j).once then bif dP (Int.ofNat j) then some j else rW t dP j else rW t dP j
end
def CM:Nat->Bool:=λi=>Nat.beq i 1
theorem aX7:Fn 132:={}
abbrev JB:eQ:=(2,((.c (.rt 5 0 0)),[]))
abbrev rj (aj:Nat):ah:=.box [(ci (↑aj:Int))]
section
variable (L:LP) (QE:D->List ah->Prop) (dP:Int->Bool) (y1 y2:Int->ah) (t:ak) (k:Nat) (r0 r1 r2 r3 r4 r5:ah) (f N:Nat) (sl:a8) (ps:List Tmp) (ca cb:Code)
theorem aM7 (h:L (af 132 1) ⟨[(0,((.c (.yl 8)),[])),JB,(4,((int (IntKind.i64.wrap ((↑k:Int)-1))),[]))],[r0,r1,r2,r3,r4,(aU t),(rj k),r5,(kQ f N sl ps ca cb)],[]⟩):ep (PX dP y1 y2) 132 CM L QE [.c (.yl 8),.c (.rt 6 0 0),.c (.rt 5 0 0)] [r0,r1,r2,r3,r4,.box (lift (aT t)),.box [.im (iI k)],r5,.loop f N sl ps ca cb .ready none]:=km h
def MM (dP:Int->Bool) (y1 y2:Int->ah) (t:ak) (k:Nat) (r0 r1 r2 r3 r4 r5:ah) (f N:Nat) (sl:a8) (ps:List Tmp) (ca cb:Code) (j:Nat):VS:=⟨[(0,.c (.yl 8),[]),(2,.c (.rt 5 0 0),[]),(4,int j,[])],[r0,r1,r2,r3,r4,.box (lift (aT t)),.box [.im (iI k)],r5,.loop f N sl ps ca cb .ready none],[]⟩
theorem Yz (j:Nat) (h:nd (bQ (↑j:Int) t.2.1) (br (!(t.2.2 j).11) ((nS nF Tryz.prog 8 [(int (↑j:Int)),(.a (lift (bW (t.2.2 j))))] [r0,r1,r2,r3,r4,(.box (lift (aT (t)))),(.box [(ci (↑k:Int))]),r5,(.loop f N sl ps ca cb .ready none),(.box (lift (bW (t.2.2 j))))] (bool (!dP (Int.ofNat j))) [r0,(y1 (Int.ofNat j)),(y2 (Int.ofNat j)),r3,r4,(.box (lift (aT (t)))),(.box [(ci (↑k:Int))]),r5,(.loop f N sl ps ca cb (bif !dP (Int.ofNat j) then LoopState.ready else LoopState.done) (bif !dP (Int.ofNat j) then none else some Code.ret)),(.box (lift (bW (t.2.2 j))))]/\br (!!dP (Int.ofNat j)) (QE (.t []) [r0,(y1 (Int.ofNat j)),(y2 (Int.ofNat j)),r3,r4,(.box (lift (aT (t)))),(.box [(ci (↑k:Int))]),r5,(.loop f N sl ps ca cb (bif !dP (Int.ofNat j) then LoopState.ready else LoopState.done) (bif !dP (Int.ofNat j) then none else some Code.ret)),(.box (lift (bW (t.2.2 j))))]) (L (af 132 1) ⟨[(0,((.c (.yl 8)),[])),JB,(4,((int (IntKind.i64.wrap ((↑j:Int)-1))),[]))],[r0,(y1 (Int.ofNat j)),(y2 (Int.ofNat j)),r3,r4,(aU t),(rj k),r5,(.loop f N sl ps ca cb (bif !dP (Int.ofNat j) then LoopState.ready else LoopState.done) (bif !dP (Int.ofNat j) then none else some Code.ret)),(eS t j)],[]⟩))) (L (af 132 1) ⟨[(0,((.c (.yl 8)),[])),JB,(4,((int (IntKind.i64.wrap ((↑j:Int)-1))),[]))],[r0,r1,r2,r3,r4,(aU t),(rj k),r5,(kQ f N sl ps ca cb),(eS t j)],[]⟩))):b5 (PX dP y1 y2) 132 CM L QE 1 (MM dP y1 y2 t k r0 r1 r2 r3 r4 r5 f N sl ps ca cb j):=km h
def Vw (dP:Int->Bool) (y1 y2:Int->ah) (t:ak) (k:Nat) (r0 r1 r2 r3 r4 r5:ah) (f N:Nat) (sl:a8) (ps:List Tmp) (ca cb:Code)  : VS:=⟨[(0,.c (.yl 8),[]),(2,.c (.rt 5 0 0),[]),(4,int (-1),[])],[r0,r1,r2,r3,r4,.box (lift (aT t)),.box [.im (iI k)],r5,.loop f N sl ps ca cb .ready none],[]⟩
theorem Uk (h:QE (.t []) [r0,r1,r2,r3,r4,(.box (lift (aT (t)))),(.box [(ci (↑k:Int))]),r5,(.loop f N sl ps ca cb .ready none)]):b5 (PX dP y1 y2) 132 CM L QE 1 (Vw dP y1 y2 t k r0 r1 r2 r3 r4 r5 f N sl ps ca cb ):=km h
def QT (dP:Int->Bool) (y1 y2:Int->ah) (t:ak) (k:Nat) (r0 r1 r2 r3 r4 r5:ah) (f N:Nat) (sl:a8) (ps:List Tmp) (ca cb:Code) (o:Option Nat):List ah:=match o with
 | none=>[r0,r1,r2,r3,r4,.box (lift (aT t)),.box [.im (iI k)],r5,.loop f N sl ps ca cb .ready none]
 | some j=>[r0,(y1 (Int.ofNat j)),(y2 (Int.ofNat j)),r3,r4,.box (lift (aT t)),.box [.im (iI k)],r5,.loop f N sl ps ca cb .done (some .ret)]
end
section
variable (dP:Int->Bool) (y1 y2:Int->ah) (t:ak) (k:Nat) (r0 r1 r2 r3 r4 r5:ah) (f N:Nat) (sl:a8) (ps:List Tmp) (ca cb:Code)
def stB:Nat->VS
 | 0=>⟨[(0,.c (.yl 8),[]),(2,.c (.rt 5 0 0),[]),(4,int (-1),[])],[r0,r1,r2,r3,r4,.box (lift (aT t)),.box [.im (iI k)],r5,.loop f N sl ps ca cb .ready none],[]⟩
 | j+1=>MM dP y1 y2 t k r0 r1 r2 r3 r4 r5 f N sl ps ca cb j
theorem jE (j:Nat) (hj:j<=1000):IntKind.i64.wrap ((j:Int)-1)=match j with|0 => -1|j+1=>(j:Int):=by
 cases j with
 | zero=>rfl
 | succ j=>grind [nG]
theorem aS8 (hy:∀ (j:Nat) (x:ah),j<k->(t.ins.get j).once=false->nS nF Tryz.prog 8 [int j,fk (t.ins.get j)] [r0,r1,r2,r3,r4,.box (lift (aT t)),.box [.im (iI k)],r5,.loop f N sl ps ca cb .ready none,x] (bool (!dP (Int.ofNat j))) [r0,(y1 (Int.ofNat j)),(y2 (Int.ofNat j)),r3,r4,.box (lift (aT t)),.box [.im (iI k)],r5,.loop f N sl ps ca cb (bif !dP (Int.ofNat j) then .ready else .done) (bif !dP (Int.ofNat j) then none else some .ret),x]) (hk:k<=t.ins.n) (hN:t.ins.n<=1000) (hw:e6 9 [r0,r1,r2,r3,r4,.box (lift (aT t)),.box [.im (iI k)],r5,.loop f N sl ps ca cb .ready none]) (he:∀ j:Nat,dP (Int.ofNat j)=false->y1 (Int.ofNat j)=r1/\y2 (Int.ofNat j)=r2) (hl:∀ j:Nat,iE 9 (y1 (Int.ofNat j))=true/\iE 9 (y2 (Int.ofNat j))=true):∀ j,j<=k->ae 132 9 (Go.V.Ends [r0,r1,r2,r3,r4,.box (lift (aT t)),.box [.im (iI k)],r5,.loop f N sl ps ca cb .ready none] (.t []) (QT dP y1 y2 t k r0 r1 r2 r3 r4 r5 f N sl ps ca cb (rW t dP j))) (af 132 1) (stB dP y1 y2 t k r0 r1 r2 r3 r4 r5 f N sl ps ca cb j):=by
 intro j
 induction j with
 | zero=>
   intro _
   refine aG (X:=PX dP y1 y2) (stop:=CM) (Uk _ _ dP y1 y2 t k r0 r1 r2 r3 r4 r5 f N sl ps ca cb ?_)
   exact ⟨9,aQ rfl,aQ rfl,rfl,rfl,aX.refl _,by repeat' (first|exact trivial|refine ⟨.inl (.inl rfl),?_⟩|refine ⟨.inr (hl 0).1,?_⟩|refine ⟨.inr (hl 0).2,?_⟩|refine ⟨.inl (.inr ⟨_,_,_,_,_,_,_,_,_,_,rfl,rfl⟩),?_⟩|done)⟩
 | succ j oH=>
   intro hj
   have oH:=oH (by omega)
   refine aG (X:=PX dP y1 y2) (stop:=CM) (Yz _ _ dP y1 y2 t k r0 r1 r2 r3 r4 r5 f N sl ps ca cb j ?_)
   refine ai (by exact aC (by omega)) ?_
   refine ag (λh0=>?_) (λh0=>?_)
   .refine ⟨hy j _ (by omega) (by simpa using h0),?_⟩
    refine ag (λh1=>?_) (λh1=>?_)
    .have h1:(!!dP (Int.ofNat j))=true:=h1
     have h1:dP (Int.ofNat j)=true:=by simpa using h1
     have h0:(!(t.ins.get j).once)=true:=h0
     rw [show rW t dP (j+1)=some j from by show (bif !(t.ins.get j).once then _ else _)=_; rw [h0,h1]; rfl,h1]
     exact ⟨9,aQ rfl,aQ rfl,rfl,rfl,aX.refl _,by repeat' (first|exact trivial|refine ⟨.inl (.inl rfl),?_⟩|refine ⟨.inr (hl j).1,?_⟩|refine ⟨.inr (hl j).2,?_⟩|refine ⟨.inl (.inr ⟨_,_,_,_,_,_,_,_,_,_,rfl,rfl⟩),?_⟩|done)⟩
    .have h1:(!!dP (Int.ofNat j))=false:=h1
     have h1:dP (Int.ofNat j)=false:=by simpa using h1
     have h0:(!(t.ins.get j).once)=true:=h0
     rw [show rW t dP (j+1)=rW t dP j from by show (bif !(t.ins.get j).once then _ else _)=_; rw [h0,h1]; rfl] at *
     rw [(he j h1).1,(he j h1).2,h1]
     refine ae.cut 9 (bF _) (aQ rfl) rfl rfl hw ?_
     rw [jE j (by omega)]
     cases j with
     | zero=>exact oH
     | succ j=>exact oH
   .have h0:(!(t.ins.get j).once)=false:=h0
    rw [show rW t dP (j+1)=rW t dP j from by show (bif !(t.ins.get j).once then _ else _)=_; rw [h0]; rfl] at *
    refine ae.cut 9 (bF _) (aQ rfl) rfl rfl hw ?_
    rw [jE j (by omega)]
    cases j with
    | zero=>exact oH
    | succ j=>exact oH
theorem KX (hy:∀ (j:Nat) (x:ah),j<k->(t.ins.get j).once=false->nS nF Tryz.prog 8 [int j,fk (t.ins.get j)] [r0,r1,r2,r3,r4,.box (lift (aT t)),.box [.im (iI k)],r5,.loop f N sl ps ca cb .ready none,x] (bool (!dP (Int.ofNat j))) [r0,(y1 (Int.ofNat j)),(y2 (Int.ofNat j)),r3,r4,.box (lift (aT t)),.box [.im (iI k)],r5,.loop f N sl ps ca cb (bif !dP (Int.ofNat j) then .ready else .done) (bif !dP (Int.ofNat j) then none else some .ret),x]) (hk:k<=t.ins.n) (hN:t.ins.n<=1000) (hw:e6 9 [r0,r1,r2,r3,r4,.box (lift (aT t)),.box [.im (iI k)],r5,.loop f N sl ps ca cb .ready none]) (he:∀ j:Nat,dP (Int.ofNat j)=false->y1 (Int.ofNat j)=r1/\y2 (Int.ofNat j)=r2) (hl:∀ j:Nat,iE 9 (y1 (Int.ofNat j))=true/\iE 9 (y2 (Int.ofNat j))=true):LC 132 [.c (.yl 8),.c (.rt 6 0 0),.c (.rt 5 0 0)] [r0,r1,r2,r3,r4,.box (lift (aT t)),.box [.im (iI k)],r5,.loop f N sl ps ca cb .ready none] (.t []) (QT dP y1 y2 t k r0 r1 r2 r3 r4 r5 f N sl ps ca cb (rW t dP k)):=by
 refine iW aX7 (aQ (by kernel_rfl)) (cY (X:=PX dP y1 y2) (stop:=CM) (aM7 _ _ dP y1 y2 t k r0 r1 r2 r3 r4 r5 f N sl ps ca cb ?_))
 rw [jE k (by omega)]
 have:=aS8 dP y1 y2 t k r0 r1 r2 r3 r4 r5 f N sl ps ca cb hy hk hN hw he hl k (bF _)
 revert this
 cases k with
 | zero=>exact id
 | succ k=>exact id
def al8:Nat->Bool:=bH
theorem bh0:Fn 101:={}
theorem bd6 (L:LP) (QE:D->List ah->Prop) (t:ak) (k:Nat) (h:QE (.c (.fL 132 [1,0])) [(.box (lift (aT (t)))),(.box [(ci (↑k:Int))])]):ep PN 101 al8 L QE [aO t,int k] []:=km h
theorem wg:LC 101 [aO t,int k] [] (.c (.fL 132 [1,0])) [.box (lift (aT t)),.box [.im (iI k)]]:=
 cM bh0 (aQ (by kernel_rfl)) (cY (X:=PN) (stop:=al8) (bd6 _ _ t k ⟨[0,1],.c (.fL 132 [1,0]),_,_,rfl,(rc (rc .nil)),⟨2,aQ rfl,aQ rfl,rfl,rfl,aX.refl _,⟨rfl,⟨rfl,trivial⟩⟩⟩⟩))
end
end
end Go.Proofs.YtgbbdaegmfjahaaGreat
