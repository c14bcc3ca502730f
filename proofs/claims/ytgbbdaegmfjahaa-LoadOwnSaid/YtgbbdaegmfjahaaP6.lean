/- Loops: what is to be shown. -/
import Derived.Test.YtgbbdaegmfjahaaP5
set_option linter.unusedVariables false
set_option linter.unusedSimpArgs false
set_option maxRecDepth 1000000
namespace Go.Proofs.Ytgbbdaegmfjahaa
open Go Go.V
noncomputable section
def b3 (t:ae) (k:Nat):Bool := !(xM (t.ins.get k)!=((k:Int)==(t.ins.n:Int)-1))&&(bo (t.ins.get k) && !((t.ins.get k).once && !eD (t.ins.get k).op [2,3,4,5,6,7,8,9,10,12,14]))
def b7 (t:ae) (k:Nat):Bool := !((t.ins.get k).op==1&&(decide ((k:Int)≥(nG t.ins:Int))||(decide ((k:Int)>0)&&decide ((t.ins.get k).k.n<=(t.ins.get (k-1)).k.n))))
def b9 (t:ae) (k:Nat):Bool := !((t.ins.get k).op==20&&(((t.ins.get k).args.n:Int)!=(nG t.ins:Int)))
def Nv (t:ae) (k:Nat):Bool := !decide ((t.ins.get k).exit < -1)&&(!decide ((t.ins.get k).exit≥(t.aa.n:Int))&&(!(decide ((t.ins.get k).exit≥0) && !sU (t.ins.get k).op) && !(decide ((t.ins.get k).exit<0)&&eD (t.ins.get k).op [5,6,7,8,9,15,18,21])))
def Qv (t:ae) (l:List Int) (k:Nat):Bool×List Int:=bif decide ((t.ins.get k).exit<0) then (true,l) else bif dX (t.ins.get k).exit l then (false,l) else (lK t (t.aa.get (t.ins.get k).exit.toNat) k,sV (t.ins.get k).exit l)
def o13 (t:ae) (l:List Int) (k:Nat):Bool×List Int:=bif MP t k then Qv t l k else (false,l)
def MH (t:ae) (l:List Int) (k:Nat):Bool×List Int:=bif Nv t k then o13 t l k else (false,l)
def o9 (t:ae) (l:List Int) (k:Nat):Bool×List Int:=bif b9 t k then MH t l k else (false,l)
def o7 (t:ae) (l:List Int) (k:Nat):Bool×List Int:=bif b7 t k then o9 t l k else (false,l)
def o3 (t:ae) (l:List Int) (k:Nat):Bool×List Int:=bif b3 t k then o7 t l k else (false,l)
def Lw (x:Option ag):List Int:=match x with
 | some (.set l)=>l
 | _=>[]
def F9L:xQ:=[
 (54,λds rs=>(bool (lK (fj ds 0) (RZ ds 1) (aI ds 2)),[],[])),
 (28,λds rs=>(bool (o3 (fj ds 0) (Lw (aV rs 1)) (aI ds 1).toNat).1,[(1,.set (o3 (fj ds 0) (Lw (aV rs 1)) (aI ds 1).toNat).2)],[]))]
def F9:=ext F8 F9L
def Be:fN:={ F:=F9,S:=[1] }
def rj:Nat->Bool:=λi=>Nat.beq i 3||Nat.beq i 7||Nat.beq i 9||Nat.beq i 11||Nat.beq i 13||Nat.beq i 14
theorem aF7:Fn 28:={}
abbrev kh (aw:Nat):D:=int (↑aw:Int)
abbrev jK (aw:Nat):fp:=(1,((kh aw),[]))
abbrev kZ (aw:ae):D:=int ((↑(nG aw.2):Int))
abbrev sq:fp:=(3,((.c (.rt 3 0 0)),[]))
abbrev qh:fp:=(7,((.c (.rt 4 0 0)),[]))
abbrev oe (aw:ae) (aG:Nat):ag:=.box (lift (aN (aw.ins.2 aG)))
abbrev ia (aw:ag) (aG:List Int) (bk:ag) (bN:ae) (dp:Nat):List ag:=[aw,(.set aG),bk,(eM bN),(oe bN dp)]
theorem az3 (L:LP) (QE:D->List ag->Prop) (t:ae) (r0 r2:ag) (l:List Int) (k:Nat) (h:nd (cM (↑k:Int) t.2.1) (L (ai 28 3) ⟨[(jK k),(2,((kZ t),[])),sq,qh,(8,((bool ((↑k:Int)==IntKind.i64.wrap ((↑t.2.1:Int)-1))),[]))],(ia r0 l r2 t k),[]⟩)):fx Be 28 rj L QE [zJ t 1,int k,int (nG t.ins)] [r0,.set l,r2]:=km h
abbrev oS (aw:Nat):fp:=(1,(kh aw),[])
abbrev uf:fp:=(3,(.c (.rt 3 0 0)),[])
abbrev uE:fp:=(7,(.c (.rt 4 0 0)),[])
def R7 (t:ae) (r0 r2:ag) (l:List Int) (k:Nat)  : VS:=⟨[(oS k),(2,(kZ t),[]),uf,uE,(8,(bool ((↑k:Int)==IntKind.i64.wrap ((↑t.2.1:Int)-1))),[])],(ia r0 l r2 t k),[]⟩
abbrev kX (aw:ae) (aG:Nat):List D:=[(int ((aw.ins.2 aG).1))]
abbrev DL (aw:Nat) (aG:ae) (bk:ag) (bN:List Int) (dp:ag):VS:=⟨[(jK aw),(2,((kZ aG),[])),sq,qh,(24,((bool false),[]))],(ia bk bN dp aG aw),[]⟩
theorem ZY (L:LP) (QE:D->List ag->Prop) (t:ae) (r0 r2:ag) (l:List Int) (k:Nat)  (h:br ((t.ins.2 k).1==20) (br (!true==((↑k:Int)==IntKind.i64.wrap ((↑t.2.1:Int)-1))) (QE (bool false) [r0,(.set l),r2,(.box (dA (t) 1)),(.box (lift (aN (t.ins.2 k))))]) ((LC 48 [(.a (lift (aN (t.ins.2 k))))] [] (bool (bo (t.ins.2 k))) []/\br (!bo (t.ins.2 k)) (QE (bool false) [r0,(.set l),r2,(.box (dA (t) 1)),(.box (lift (aN (t.ins.2 k))))]) (br ((t.ins.2 k).11) ((LC 49 (kX t k) [] (bool (eD (t.ins.2 k).1 [2,3,4,5,6,7,8,9,10,12,14])) []/\br (!eD (t.ins.2 k).1 [2,3,4,5,6,7,8,9,10,12,14]) (QE (bool false) [r0,(.set l),r2,(.box (dA (t) 1)),(.box (lift (aN (t.ins.2 k))))]) (L (ai 28 7) (DL k t r0 l r2)))) (L (ai 28 7) (DL k t r0 l r2)))))) (br (!((t.ins.2 k).1==21)==((↑k:Int)==IntKind.i64.wrap ((↑t.2.1:Int)-1))) (QE (bool false) [r0,(.set l),r2,(.box (dA (t) 1)),(.box (lift (aN (t.ins.2 k))))]) ((LC 48 [(.a (lift (aN (t.ins.2 k))))] [] (bool (bo (t.ins.2 k))) []/\br (!bo (t.ins.2 k)) (QE (bool false) [r0,(.set l),r2,(.box (dA (t) 1)),(.box (lift (aN (t.ins.2 k))))]) (br ((t.ins.2 k).11) ((LC 49 (kX t k) [] (bool (eD (t.ins.2 k).1 [2,3,4,5,6,7,8,9,10,12,14])) []/\br (!eD (t.ins.2 k).1 [2,3,4,5,6,7,8,9,10,12,14]) (QE (bool false) [r0,(.set l),r2,(.box (dA (t) 1)),(.box (lift (aN (t.ins.2 k))))]) (L (ai 28 7) (DL k t r0 l r2)))) (L (ai 28 7) (DL k t r0 l r2))))))):cB Be 28 rj L QE 3 (R7 t r0 r2 l k ):=km h
def yc (t:ae) (r0 r2:ag) (l:List Int) (k:Nat)  : VS:=⟨[(oS k),(2,(kZ t),[]),uf,uE],(ia r0 l r2 t k),[]⟩
abbrev IG (aw:Nat) (aG:ae):aK:=[(jK aw),(2,((kZ aG),[])),sq,qh,(46,((bool false),[]))]
theorem XX (L:LP) (QE:D->List ag->Prop) (t:ae) (r0 r2:ag) (l:List Int) (k:Nat)  (h:br ((t.ins.2 k).1==1) (br (decide ((↑k:Int)≥(↑(nG t.2):Int))) (QE (bool false) [r0,(.set l),r2,(.box (dA (t) 1)),(.box (lift (aN (t.ins.2 k))))]) (br (decide ((↑k:Int)>0)) (nd (cM (IntKind.i64.wrap ((↑k:Int)-1)) t.2.1) (br (decide ((t.ins.2 k).7.2<=(t.ins.2 (IntKind.i64.wrap ((↑k:Int)-1)).toNat).7.2)) (QE (bool false) [r0,(.set l),r2,(.box (dA (t) 1)),(.box (lift (aN (t.ins.2 k))))]) (L (ai 28 9) ⟨(IG k t),(ia r0 l r2 t k),[]⟩))) (L (ai 28 9) ⟨(IG k t),(ia r0 l r2 t k),[]⟩))) (L (ai 28 9) ⟨(IG k t),(ia r0 l r2 t k),[]⟩)):cB Be 28 rj L QE 7 (yc t r0 r2 l k ):=km h
def uy (t:ae) (r0 r2:ag) (l:List Int) (k:Nat)  : VS:=⟨[(oS k),(2,(kZ t),[]),uf,uE],(ia r0 l r2 t k),[]⟩
theorem Z9 (L:LP) (QE:D->List ag->Prop) (t:ae) (r0 r2:ag) (l:List Int) (k:Nat)  (h:br ((t.ins.2 k).1==20) (br ((↑(t.ins.2 k).6.1:Int)!=(↑(nG t.2):Int)) (QE (bool false) [r0,(.set l),r2,(.box (dA (t) 1)),(.box (lift (aN (t.ins.2 k))))]) (L (ai 28 11) ⟨[(jK k),sq,qh,(74,((bool false),[]))],(ia r0 l r2 t k),[]⟩)) (L (ai 28 11) ⟨[(jK k),sq,qh,(74,((bool false),[]))],(ia r0 l r2 t k),[]⟩)):cB Be 28 rj L QE 9 (uy t r0 r2 l k ):=km h
def wb (t:ae) (r0 r2:ag) (l:List Int) (k:Nat)  : VS:=⟨[(oS k),uf,uE],(ia r0 l r2 t k),[]⟩
abbrev B8 (aw:Nat):aK:=[(jK aw),sq,qh,(85,((bool false),[]))]
theorem S7 (L:LP) (QE:D->List ag->Prop) (t:ae) (r0 r2:ag) (l:List Int) (k:Nat)  (h:br (decide ((t.ins.2 k).10 < -1)) (QE (bool false) [r0,(.set l),r2,(.box (dA (t) 1)),(.box (lift (aN (t.ins.2 k))))]) (br (decide ((t.ins.2 k).10≥(↑t.3.1:Int))) (QE (bool false) [r0,(.set l),r2,(.box (dA (t) 1)),(.box (lift (aN (t.ins.2 k))))]) (br (decide ((t.ins.2 k).10≥0)) ((LC 50 (kX t k) [] (bool (sU (t.ins.2 k).1)) []/\br (!sU (t.ins.2 k).1) (QE (bool false) [r0,(.set l),r2,(.box (dA (t) 1)),(.box (lift (aN (t.ins.2 k))))]) (br (decide ((t.ins.2 k).10<0)) ((LC 51 (kX t k) [] (bool (eD (t.ins.2 k).1 [5,6,7,8,9,15,18,21])) []/\br (eD (t.ins.2 k).1 [5,6,7,8,9,15,18,21]) (QE (bool false) [r0,(.set l),r2,(.box (dA (t) 1)),(.box (lift (aN (t.ins.2 k))))]) (L (ai 28 13) ⟨(B8 k),(ia r0 l r2 t k),[]⟩))) (L (ai 28 13) ⟨(B8 k),(ia r0 l r2 t k),[]⟩)))) (br (decide ((t.ins.2 k).10<0)) ((LC 51 (kX t k) [] (bool (eD (t.ins.2 k).1 [5,6,7,8,9,15,18,21])) []/\br (eD (t.ins.2 k).1 [5,6,7,8,9,15,18,21]) (QE (bool false) [r0,(.set l),r2,(.box (dA (t) 1)),(.box (lift (aN (t.ins.2 k))))]) (L (ai 28 13) ⟨(B8 k),(ia r0 l r2 t k),[]⟩))) (L (ai 28 13) ⟨(B8 k),(ia r0 l r2 t k),[]⟩))))):cB Be 28 rj L QE 11 (wb t r0 r2 l k ):=km h
def wz (t:ae) (r0 r2:ag) (l:List Int) (k:Nat)  : VS:=⟨[(oS k),uf,uE],(ia r0 l r2 t k),[]⟩
abbrev WW (aw:ae) (aG:Nat):D:=.c (.im (.sl 1 ((bz (aw.ins.2 aG)).1) (λi=>bA ((bz (Dk [D.a (lift [iI (aw.ins.get aG).op,iI (aw.ins.get aG).a,iI (aw.ins.get aG).b,iI (aw.ins.get aG).c,iI (aw.ins.get aG).n,zK 1 bA (aw.ins.get aG).args,iI (aw.ins.get aG).k.kind,iI (aw.ins.get aG).k.n,iS (aw.ins.get aG).k.s,zK 1 cw (aw.ins.get aG).names,iI (aw.ins.get aG).place.fn,iI (aw.ins.get aG).place.line,iI (aw.ins.get aG).exit,iB (aw.ins.get aG).once])] 0)).2 i))))
theorem VC (L:LP) (QE:D->List ag->Prop) (t:ae) (r0 r2:ag) (l:List Int) (k:Nat)  (h:(LC 52 [(.a (lift (aN (t.ins.2 k))))] [] (WW t k) []/\L (ai 28 14) ⟨[(jK k),sq,qh,(120,((WW t k),[])),(121,((int ((↑(bz (t.ins.2 k)).1:Int))),[])),(122,((int 0),[]))],(ia r0 l r2 t k),[]⟩)):cB Be 28 rj L QE 13 (wz t r0 r2 l k ):=km h
def BP (t:ae) (r0 r2:ag) (l:List Int) (k:Nat) (j:Nat):VS:=⟨[(oS k),uf,uE,(120,iM 1 bA (bz (t.ins.get k)),[]),(121,(int ((↑(bz (t.ins.2 k)).1:Int))),[]),(122,int j,[])],(ia r0 l r2 t k),[]⟩
theorem J8 (L:LP) (QE:D->List ag->Prop) (t:ae) (r0 r2:ag) (l:List Int) (k:Nat) (j:Nat) (h:br (decide ((↑j:Int)<(↑(bz (t.ins.2 k)).1:Int))) (nd (cM (↑j:Int) (bz (t.ins.2 k)).1) ((LC 53 [(.a (dA (t) 1)),(int ((bz (t.ins.get k)).2 j)),(int (↑k:Int))] (ia r0 l r2 t k) (bool (e6 t ((bz (t.ins.get k)).2 j) (Int.ofNat k))) (ia r0 l r2 t k)/\br (!e6 t ((bz (t.ins.get k)).2 j) (Int.ofNat k)) (QE (bool false) [r0,(.set l),r2,(.box (dA (t) 1)),(.box (lift (aN (t.ins.2 k))))]) (nd (cM ((bz (t.ins.get k)).2 j) t.2.1) (br ((t.ins.2 ((bz (t.ins.get k)).2 j).toNat).1==17) (QE (bool false) [r0,(.set l),r2,(.box (dA (t) 1)),(.box (lift (aN (t.ins.2 k))))]) (L (ai 28 14) ⟨[(jK k),sq,qh,(120,((.c (.im (.sl 1 ((bz (t.ins.2 k)).1) (λi=>bA ((bz (t.ins.get k)).2 i))))),[])),(121,((int ((↑(bz (t.ins.2 k)).1:Int))),[])),(122,((int (IntKind.i64.wrap ((↑j:Int)+1))),[]))],(ia r0 l r2 t k),[]⟩)))))) (br (decide ((t.ins.2 k).10<0)) (QE (bool true) [r0,(.set l),r2,(.box (dA (t) 1)),(.box (lift (aN (t.ins.2 k))))]) (br (dX (t.ins.2 k).10 l) (QE (bool false) [r0,(.set l),r2,(.box (dA (t) 1)),(.box (lift (aN (t.ins.2 k))))]) (nd (cM (t.ins.2 k).10 t.3.1) ((LC 54 [(.a (dA (t) 1)),(.a (lift (bn (t.aa.2 (t.ins.2 k).10.toNat)))),(int (↑k:Int))] [r0,(.set (sV (t.ins.2 k).10 l)),r2,(eM t),(oe t k),.dead] (bool (lK t (t.aa.2 (t.ins.2 k).10.toNat) (Int.ofNat k))) [r0,(.set (sV (t.ins.2 k).10 l)),r2,(eM t),(oe t k),.dead]/\QE (bool (lK t (t.aa.2 (t.ins.2 k).10.toNat) (Int.ofNat k))) [r0,(.set (sV (t.ins.2 k).10 l)),r2,(.box (dA (t) 1)),(.box (lift (aN (t.ins.2 k)))),.dead])))))):cB Be 28 rj L QE 14 (BP t r0 r2 l k j):=km h
theorem U8 (t:ae) (r0 r2:ag) (l:List Int) (k:Nat) (hk:k<t.ins.n) (hS:bj t) (hw:eP 3 [r0,.set l,r2]) (hE:(t.ins.get k).exit<t.aa.n):∀ j,j<=(bz (t.ins.get k)).n->∀ o:Bool×List Int,(bif cn (λj=>u16 t k ((bz (t.ins.get k)).get j)) ((bz (t.ins.get k)).n-j) j then Qv t l k else (false,l))=o->af 28 3 (Go.V.Ends [r0,.set l,r2] (bool (o).1) [r0,.set (o).2,r2]) (ai 28 14) (BP t r0 r2 l k j):=by
 have hN:(bz (t.ins.get k)).n<=1000:=Te _ (hS.args k hk)
 refine aU (λj hj ih o ho=>?_) (λo ho=>?_)
 .have q:(bz (t.ins.get k)).n-j=((bz (t.ins.get k)).n-(j+1))+1:=by omega
  rw [q] at ho
  have no:u16 t k ((bz (t.ins.get k)).get j)=false->o=(false,l):=λq=>by rw [eN (p:=λj=>u16 t k ((bz (t.ins.get k)).get j)) q] at ho; exact ho.symm
  have go:u16 t k ((bz (t.ins.get k)).get j)=true->af 28 3 (Go.V.Ends [r0,.set l,r2] (bool (o).1) [r0,.set (o).2,r2]) (ai 28 14) (BP t r0 r2 l k (j+1)):=λq=>by rw [fR (p:=λj=>u16 t k ((bz (t.ins.get k)).get j)) q] at ho; exact ih o ho
  refine aF (X:=Be) (stop:=rj) (J8 _ _ t r0 r2 l k j ?_)
  rw [dr hj (cW hN (by decide))]
  refine aq (λh=>?_) (λh=>(dec_lt h hj).elim)
  refine aC (a8 hj) ⟨SH _ _ _ _ _ _ _ _ (by omega),?_⟩
  refine aq (λh1=>?_) (λh1=>?_)
  .rw [no (by simp only [u16,show e6 t ((bz (t.ins.get k)).get j) k=false from by simpa using h1,aL])]; exact ⟨3,aQ rfl,aQ rfl,rfl,rfl,bh.refl _,⟨.inl (.inl rfl),.inr rfl,.inl (.inl rfl),trivial⟩⟩
  have h1:e6 t ((bz (t.ins.get k)).get j) k=true:=by simpa using h1
  refine aC (wq h1 (by omega)) (aq (λh2=>?_) (λh2=>?_))
  .rw [no (by simp only [u16,h1,show ((t.ins.get ((bz (t.ins.get k)).get j).toNat).op==17)=true from h2,aL])]; exact ⟨3,aQ rfl,aQ rfl,rfl,rfl,bh.refl _,⟨.inl (.inl rfl),.inr rfl,.inl (.inl rfl),trivial⟩⟩
  refine af.cut 5 (aQ rfl) (aQ rfl) rfl rfl ⟨hw.1.mono (by decide),.inl rfl,hw.2.2.1.mono (by decide),.inl rfl,.inl rfl,trivial⟩ (go ?_)
  simp only [u16,h1,show ((t.ins.get ((bz (t.ins.get k)).get j).toNat).op==17)=false from h2,aL]
 .rw [Nat.sub_self] at ho
  have ho:Qv t l k=o:=ho
  subst ho
  refine aF (X:=Be) (stop:=rj) (J8 _ _ t r0 r2 l k _ ?_)
  refine aq (λh=>bS h) (λh=>?_)
  refine aq (λh1=>?_) (λh1=>aq (λh2=>?_) (λh2=>?_))
  .rw [show Qv t l k=(true,l) from by simp only [Qv,show decide ((t.ins.get k).exit<0)=true from h1,aL]]; exact ⟨3,aQ rfl,aQ rfl,rfl,rfl,bh.refl _,⟨.inl (.inl rfl),.inr rfl,.inl (.inl rfl),trivial⟩⟩
  .rw [show Qv t l k=(false,l) from by simp only [Qv,show decide ((t.ins.get k).exit<0)=false from h1,show dX (t.ins.get k).exit l=true from h2,aL]]; exact ⟨3,aQ rfl,aQ rfl,rfl,rfl,bh.refl _,⟨.inl (.inl rfl),.inr rfl,.inl (.inl rfl),trivial⟩⟩
  .have h0:0<=(t.ins.get k).exit:=by have:=of_decide_eq_false h1; omega
   have hx:=hE
   refine aC (sN h0 hx) ⟨ag2 _ _ _ _ _ _ _ _ _ (by omega) (hS.ex _ (by omega)) ⟨hw.1.mono (by decide),.inl rfl,hw.2.2.1.mono (by decide),.inl rfl,.inl rfl,.inl rfl,trivial⟩,?_⟩
   rw [show Qv t l k=(lK t (t.aa.get (t.ins.get k).exit.toNat) k,sV (t.ins.get k).exit l) from by simp only [Qv,show decide ((t.ins.get k).exit<0)=false from h1,show dX (t.ins.get k).exit l=false from h2,aL]]; exact ⟨3,aQ rfl,aQ rfl,rfl,rfl,bh.refl _,⟨.inl (.inl rfl),.inr rfl,.inl (.inl rfl),trivial⟩⟩
theorem Um (t:ae) (r0 r2:ag) (l:List Int) (k:Nat) (hk:k<t.ins.n) (hS:bj t) (hw:eP 3 [r0,.set l,r2]) (hE:(t.ins.get k).exit<t.aa.n):af 28 3 (Go.V.Ends [r0,.set l,r2] (bool (o13 t l k).1) [r0,.set (o13 t l k).2,r2]) (ai 28 13) (wz t r0 r2 l k):=by
 refine aF (X:=Be) (stop:=rj) (VC _ _ t r0 r2 l k ⟨an4 _,?_⟩)
 exact U8 t r0 r2 l k hk hS hw hE 0 (bu _) _ rfl
theorem Vi (t:ae) (r0 r2:ag) (l:List Int) (k:Nat) (hk:k<t.ins.n) (hS:bj t) (hw:eP 3 [r0,.set l,r2]):af 28 3 (Go.V.Ends [r0,.set l,r2] (bool (MH t l k).1) [r0,.set (MH t l k).2,r2]) (ai 28 11) (wb t r0 r2 l k):=by
 have no:Nv t k=false->Go.V.Ends [r0,.set l,r2] (bool (MH t l k).1) [r0,.set (MH t l k).2,r2] (bool false) [r0,.set l,r2,.box (dA t 1),.box (lift (aN (t.ins.get k)))]:=λq=>by
  rw [show MH t l k=(false,l) from by unfold MH; rw [q]; rfl]; exact ⟨3,aQ rfl,aQ rfl,rfl,rfl,bh.refl _,⟨.inl (.inl rfl),.inr rfl,.inl (.inl rfl),trivial⟩⟩
 have go:Nv t k=true->af 28 3 (Go.V.Ends [r0,.set l,r2] (bool (MH t l k).1) [r0,.set (MH t l k).2,r2]) (ai 28 13) (wz t r0 r2 l k):=λq=>by
  rw [show MH t l k=o13 t l k from by unfold MH; rw [q]; rfl]; exact Um t r0 r2 l k hk hS hw (by simp only [Nv,dJ,Bool.not_eq_true',decide_eq_false_iff_not] at q; omega)
 refine aF (X:=Be) (stop:=rj) (S7 _ _ t r0 r2 l k ?_)
 repeat' (first|refine aq (λh=>?_) (λh=>?_)|refine ⟨al7 _,?_⟩|refine ⟨Wo _,?_⟩|done)
 all_goals (try simp only [Bool.not_eq_true',Bool.not_eq_false'] at *)
 all_goals first
  | exact no (by simp only [Nv, *,aL])
  | exact af.lr (wz t r0 r2 l k) (go (by simp only [Nv, *,aL]))
  | (exfalso; simp only [decide_eq_true_eq,decide_eq_false_iff_not] at *; omega)
theorem Yd (t:ae) (r0 r2:ag) (l:List Int) (k:Nat) (hk:k<t.ins.n) (hS:bj t) (hw:eP 3 [r0,.set l,r2]):af 28 3 (Go.V.Ends [r0,.set l,r2] (bool (o9 t l k).1) [r0,.set (o9 t l k).2,r2]) (ai 28 9) (uy t r0 r2 l k):=by
 have no:b9 t k=false->Go.V.Ends [r0,.set l,r2] (bool (o9 t l k).1) [r0,.set (o9 t l k).2,r2] (bool false) [r0,.set l,r2,.box (dA t 1),.box (lift (aN (t.ins.get k)))]:=λq=>by
  rw [show o9 t l k=(false,l) from by unfold o9; rw [q]; rfl]; exact ⟨3,aQ rfl,aQ rfl,rfl,rfl,bh.refl _,⟨.inl (.inl rfl),.inr rfl,.inl (.inl rfl),trivial⟩⟩
 have go:b9 t k=true->af 28 3 (Go.V.Ends [r0,.set l,r2] (bool (o9 t l k).1) [r0,.set (o9 t l k).2,r2]) (ai 28 11) (wb t r0 r2 l k):=λq=>by
  rw [show o9 t l k=MH t l k from by unfold o9; rw [q]; rfl]; exact Vi t r0 r2 l k hk hS hw
 refine aF (X:=Be) (stop:=rj) (Z9 _ _ t r0 r2 l k ?_)
 repeat' (first|refine aq (λh=>?_) (λh=>?_) |  done)
 all_goals (try simp only [Bool.not_eq_true',Bool.not_eq_false'] at *)
 all_goals first
  | exact no (by simp only [b9, *,aL])
  | exact af.lr (wb t r0 r2 l k) (go (by simp only [b9, *,aL]))
  | (exfalso; simp only [decide_eq_true_eq,decide_eq_false_iff_not] at *; omega)
theorem Z8 (t:ae) (r0 r2:ag) (l:List Int) (k:Nat) (hk:k<t.ins.n) (hS:bj t) (hw:eP 3 [r0,.set l,r2]):af 28 3 (Go.V.Ends [r0,.set l,r2] (bool (o7 t l k).1) [r0,.set (o7 t l k).2,r2]) (ai 28 7) (yc t r0 r2 l k):=by
 have no:b7 t k=false->Go.V.Ends [r0,.set l,r2] (bool (o7 t l k).1) [r0,.set (o7 t l k).2,r2] (bool false) [r0,.set l,r2,.box (dA t 1),.box (lift (aN (t.ins.get k)))]:=λq=>by
  rw [show o7 t l k=(false,l) from by unfold o7; rw [q]; rfl]; exact ⟨3,aQ rfl,aQ rfl,rfl,rfl,bh.refl _,⟨.inl (.inl rfl),.inr rfl,.inl (.inl rfl),trivial⟩⟩
 have go:b7 t k=true->af 28 3 (Go.V.Ends [r0,.set l,r2] (bool (o7 t l k).1) [r0,.set (o7 t l k).2,r2]) (ai 28 9) (uy t r0 r2 l k):=λq=>by
  rw [show o7 t l k=o9 t l k from by unfold o7; rw [q]; rfl]; exact Yd t r0 r2 l k hk hS hw
 refine aF (X:=Be) (stop:=rj) (XX _ _ t r0 r2 l k ?_)
 have w1:decide ((k:Int)>0)=true->IntKind.i64.wrap ((k:Int)-1)=((k-1:Nat):Int):=λh=>by
  have h:=of_decide_eq_true h
  rw [iV (by omega) (by have:=hS.ins; omega)]
  omega
 refine aq (λh=>?_) (λh=>?_)
 .have h:((t.ins.get k).op==1)=true:=h
  refine aq (λh0=>no (by simp only [b7,h,show decide ((k:Int)≥(nG t.ins:Int))=true from h0,aL])) (λh0=>?_)
  have h0:decide ((k:Int)≥(nG t.ins:Int))=false:=h0
  refine aq (λh1=>?_) (λh1=>?_)
  .rw [w1 h1]
   have ku:decide ((k:Int)>0)=true:=h1
   have h1'':=of_decide_eq_true h1
   refine aC (a8 (by omega)) (aq (λh2=>no ?_) (λh2=>?_))
   .simp only [b7,h,h0,ku,show decide ((t.ins.get k).k.n<=(t.ins.get (k-1)).k.n)=true from h2,aL]
   .exact af.lr (uy t r0 r2 l k) (go (by simp only [b7,h,h0,ku,show decide ((t.ins.get k).k.n<=(t.ins.get (k-1)).k.n)=false from h2,aL]))
  .exact af.lr (uy t r0 r2 l k) (go (by simp only [b7,h,h0,show decide ((k:Int)>0)=false from h1,aL]))
 .exact af.lr (uy t r0 r2 l k) (go (by simp only [b7,show ((t.ins.get k).op==1)=false from h,aL]))
theorem Ze (t:ae) (r0 r2:ag) (l:List Int) (k:Nat) (hk:k<t.ins.n) (hS:bj t) (hw:eP 3 [r0,.set l,r2]):af 28 3 (Go.V.Ends [r0,.set l,r2] (bool (o3 t l k).1) [r0,.set (o3 t l k).2,r2]) (ai 28 3) (R7 t r0 r2 l k):=by
 have no:b3 t k=false->Go.V.Ends [r0,.set l,r2] (bool (o3 t l k).1) [r0,.set (o3 t l k).2,r2] (bool false) [r0,.set l,r2,.box (dA t 1),.box (lift (aN (t.ins.get k)))]:=λq=>by
  rw [show o3 t l k=(false,l) from by unfold o3; rw [q]; rfl]; exact ⟨3,aQ rfl,aQ rfl,rfl,rfl,bh.refl _,⟨.inl (.inl rfl),.inr rfl,.inl (.inl rfl),trivial⟩⟩
 have go:b3 t k=true->af 28 3 (Go.V.Ends [r0,.set l,r2] (bool (o3 t l k).1) [r0,.set (o3 t l k).2,r2]) (ai 28 7) (yc t r0 r2 l k):=λq=>by
  rw [show o3 t l k=o7 t l k from by unfold o3; rw [q]; rfl]; exact Z8 t r0 r2 l k hk hS hw
 refine aF (X:=Be) (stop:=rj) (ZY _ _ t r0 r2 l k ?_)
 rw [Mh (by omega) hS.ins]
 refine aq (λh=>?_) (λh=>?_)
 .have h0:xM (t.ins.get k)=true:=by simp only [xM,show ((t.ins.get k).op==20)=true from h,aL]
  clear h
  refine aq (λh1=>?_) (λh1=>?_)
  .have h1:(true != ((k:Int)==(t.ins.n:Int)-1))=true:=h1
   exact no (by simp only [b3,h0,h1,aL])
  have h1:(true != ((k:Int)==(t.ins.n:Int)-1))=false:=h1
  repeat' (first|refine aq (λh=>?_) (λh=>?_)|refine ⟨Wp _,?_⟩|refine ⟨Xb _,?_⟩|done)
  all_goals (try simp only [Bool.not_eq_true',Bool.not_eq_false'] at *)
  all_goals first
   | exact no (by simp only [b3, *,aL])
   | exact af.lr (yc t r0 r2 l k) (go (by simp only [b3, *,aL]))
   | (exfalso; simp only [decide_eq_true_eq,decide_eq_false_iff_not] at *; omega)
 .have h0:xM (t.ins.get k)=((t.ins.get k).op==21):=by simp only [xM,show ((t.ins.get k).op==20)=false from h,aL]
  clear h
  refine aq (λh1=>?_) (λh1=>?_)
  .have h1:(((t.ins.get k).op==21)!=((k:Int)==(t.ins.n:Int)-1))=true:=h1
   exact no (by simp only [b3,h0,h1,aL])
  have h1:(((t.ins.get k).op==21)!=((k:Int)==(t.ins.n:Int)-1))=false:=h1
  repeat' (first|refine aq (λh=>?_) (λh=>?_)|refine ⟨Wp _,?_⟩|refine ⟨Xb _,?_⟩|done)
  all_goals (try simp only [Bool.not_eq_true',Bool.not_eq_false'] at *)
  all_goals first
   | exact no (by simp only [b3, *,aL])
   | exact af.lr (yc t r0 r2 l k) (go (by simp only [b3, *,aL]))
   | (exfalso; simp only [decide_eq_true_eq,decide_eq_false_iff_not] at *; omega)
theorem as6 (t:ae) (r0 r2:ag) (l:List Int) (k:Nat) (hk:k<t.ins.n) (hS:bj t) (hw:eP 3 [r0,.set l,r2]):LC 28 [zJ t 1,int k,int (nG t.ins)] [r0,.set l,r2] (bool (o3 t l k).1) [r0,.set (o3 t l k).2,r2]:=
 gZ aF7 (aQ (by kernel_rfl)) (dc (X:=Be) (stop:=rj) (az3 _ _ t r0 r2 l k (aC (a8 hk) (Ze t r0 r2 l k hk hS hw))))
def RL:Nat->Bool:=λi=>Nat.beq i 8
theorem aD9:Fn 10:={}
abbrev fX (aw:ae):D:=.a (lift (az (aw)))
abbrev fZ:fp:=(3,((.c (.rt 2 0 0)),[]))
abbrev cu (aw:ae):ag:=.box (lift (az (aw)))
theorem az6 (L:LP) (QD:D->Prop) (t:ae) (h:br (decide ((↑t.2.1:Int)>200)) (QD (int 2)) (br (decide ((↑t.3.1:Int)>60)) (QD (int 2)) (br (decide (t.1.1<0)) (QD (int 31)) (br (decide (t.1.2<0)) (QD (int 31)) (br ((↑t.2.1:Int)==0) (QD (int 31)) ((LC 27 [(fX t)] [] (kZ t) []/\L (ai 10 8) ⟨[fZ,(4,((kZ t),[])),(39,((iw t),[])),(40,((int 0),[]))],[(cu t),(.set []),(eM t)],[]⟩))))))):fx Be 10 RL L (bL QD) [a7 t] []:=km h
def Nn (t:ae) (l:List Int) (k:Nat):VS:=⟨[(3,(.c (.rt 2 0 0)),[]),(4,(kZ t),[]),(39,(iw t),[]),(40,int k,[])],[(cu t),.set l,(eM t)],[]⟩
theorem Rj (L:LP) (QD:D->Prop) (t:ae) (l:List Int) (k:Nat) (h:br (decide ((↑k:Int)<(↑t.2.1:Int))) ((LC 28 [(.a (dA (t) 1)),(int (↑k:Int)),(kZ t)] [(cu t),(.set l),(eM t)] (bool ((o3 t (Lw (some (ag.set l))) k).1)) [(cu t),(.set ((o3 t (Lw (some (ag.set l))) k).2)),(eM t)]/\br (!(o3 t (Lw (some (ag.set l))) k).1) (QD (int 31)) (L (ai 10 8) ⟨[fZ,(4,((kZ t),[])),(39,((iw t),[])),(40,((int (IntKind.i64.wrap ((↑k:Int)+1))),[]))],[(cu t),(.set ((o3 t (Lw (some (ag.set l))) k).2)),(eM t)],[]⟩))) (QD (int 0))):cB Be 10 RL L (bL QD) 8 (Nn t l k):=km h
def wV (t:ae):Nat->Nat->List Int->Bool
 | 0,_,_=>true
 | m+1,k,l=>bif (o3 t l k).1 then wV t m (k+1) (o3 t l k).2 else false
def bH (t:ae):Int:=bif decide ((t.ins.n:Int)>200) then 2 else bif decide ((t.aa.n:Int)>60) then 2 else bif !(decide (t.place.fn<0)||(decide (t.place.line<0)||((t.ins.n:Int)==0)))&&wV t t.ins.n 0 [] then 0 else 31
theorem YC (t:ae) (hS:bj t) (a:Int):∀ k,k<=t.ins.n->∀ l,(bif wV t (t.ins.n-k) k l then 0 else 31)=a->af 10 0 (bF (int a)) (ai 10 8) (Nn t l k):=by
 have hN:=hS.ins
 refine aU (λk hk ih l ha=>?_) (λl ha=>?_)
 .have q:t.ins.n-k=(t.ins.n-(k+1))+1:=by omega
  rw [q] at ha
  refine aR (X:=Be) (stop:=RL) (Rj _ _ t l k ?_)
  rw [dr hk (cW hN (by decide))]
  refine aq (λh=>?_) (λh=>(dec_lt h hk).elim)
  refine ⟨as6 t _ _ l k hk hS ⟨.inl rfl,.inl rfl,.inl rfl,trivial⟩,?_⟩
  refine aq (λh1=>?_) (λh1=>?_)
  .have h1:(o3 t l k).1=false:=(Bool.not_eq_true' _).mp h1
   rw [show wV t (t.ins.n-(k+1)+1) k l=false from by unfold wV; rw [h1]; rfl] at ha
   subst ha
   exact bh.refl _
  .have h1:(o3 t l k).1=true:=(Bool.not_eq_false' _▸h1:(o3 t l k).1=true)
   rw [show wV t (t.ins.n-(k+1)+1) k l=wV t (t.ins.n-(k+1)) (k+1) (o3 t l k).2 from by rw [show wV t (t.ins.n-(k+1)+1) k l=(bif (o3 t l k).1 then wV t (t.ins.n-(k+1)) (k+1) (o3 t l k).2 else false) from rfl,h1]; rfl] at ha
   exact ih _ ha
 .rw [Nat.sub_self] at ha
  refine aR (X:=Be) (stop:=RL) (Rj _ _ t l _ ?_)
  refine aq (λh=>bS h) (λh=>?_)
  subst ha; exact bh.refl _
theorem Gl (t:ae) (hS:bj t):LC 10 [a7 t] [] (int (bH t)) []:=by
 refine pv (X:=Be) (stop:=RL) aD9 (az6 _ _ t ?_)
 refine aq (λh1=>?_) (λh1=>aq (λh2=>?_) (λh2=>aq (λh3=>?_) (λh3=>aq (λh4=>?_) (λh4=>aq (λh5=>?_) (λh5=>⟨af9 _,?_⟩)))))
 .rw [show bH t=2 from by simp only [bH,show decide ((t.ins.n:Int)>200)=true from h1,aL]]; exact bh.refl _
 .rw [show bH t=2 from by simp only [bH,show decide ((t.ins.n:Int)>200)=false from h1,show decide ((t.aa.n:Int)>60)=true from h2,aL]]; exact bh.refl _
 .rw [show bH t=31 from by simp only [bH,show decide ((t.ins.n:Int)>200)=false from h1,show decide ((t.aa.n:Int)>60)=false from h2,show decide (t.place.fn<0)=true from h3,aL]]; exact bh.refl _
 .rw [show bH t=31 from by simp only [bH,show decide ((t.ins.n:Int)>200)=false from h1,show decide ((t.aa.n:Int)>60)=false from h2,show decide (t.place.line<0)=true from h4,aL]]; exact bh.refl _
 .rw [show bH t=31 from by simp only [bH,show decide ((t.ins.n:Int)>200)=false from h1,show decide ((t.aa.n:Int)>60)=false from h2,show ((t.ins.n:Int)==0)=true from h5,aL]]; exact bh.refl _
 .exact YC t hS _ 0 (bu _) [] (by simp only [bH,Nat.sub_zero,show decide ((t.ins.n:Int)>200)=false from h1,show decide ((t.aa.n:Int)>60)=false from h2,show decide (t.place.fn<0)=false from h3,show decide (t.place.line<0)=false from h4,show ((t.ins.n:Int)==0)=false from h5,aL])
open Go Go.V
def o5 (x:aj) (b:Bool):D:=.t [(true,lift (aN x)),(false,[.im (iB b)])]
def lR (x y:aj):Bool:=x.n != y.n || !bU jR x.names y.names
def kH (op:Int):Bool:=jh op||ea op
def Qg:aj:=⟨0,0,0,0,0,bc 0,⟨0,0,ByteArray.mk ⟨[]⟩⟩,bc (ByteArray.mk ⟨[]⟩),⟨0,0⟩,0,false⟩
def Sn (t:ae) (a:Int) (k:Nat):Bool:=(t.ins.get k).op==7&&(!(t.ins.get k).once&&(t.ins.get k).a==a)
def qs (t:ae) (a:Int) (i:Nat):Int:=bif (t.ins.get a.toNat).op==16 then a else oc (Sn t a) i
def Va (t:ae) (s:Int):D:=bif decide (s≥0) then o5 (t.ins.get s.toNat) true else o5 Qg false
def aH9:xQ:=[
 (10,λds rs=>(int (bH (fj ds 0)),[],[])),
 (39,λds rs=>(bool (kH (aI ds 0)),[],[])),
 (33,λds rs=>(bool (lR (Dk ds 0) (Dk ds 1)),[],[]))]
def F10:=ext F9 aH9
theorem U5 {l l':List C} {c:C} (h:aB jg l l'):bh (.t [(true,l),(false,[c])]) (.t [(true,l'),(false,[c])]):=by
 rintro E av w v ⟨vs,rfl,hv⟩
 refine ⟨vs,rfl,?_⟩
 generalize vs.toList=ys at hv
 cases hv with|cons h1 hv=>cases hv with|cons h2 hv=>
  cases hv
  obtain ⟨cs,rfl,h3⟩:=h1
  exact .cons ⟨cs,rfl,aB.cle h h3⟩ (.cons h2 .nil)
theorem zero_le:bh (.t [(true,[(.im (.v (.int .i64 0))),(.im (.v (.int .i64 0))),(.im (.v (.int .i64 0))),(.im (.v (.int .i64 0))),(.im (.v (.int .i64 0))),(.im (.v (.slice .none 0 0))),(.im (.v (.int .i64 0))),(.im (.v (.int .i64 0))),(.im (.v (.string ⟨⟨[]⟩⟩))),(.im (.v (.slice .none 0 0))),(.im (.v (.int .i64 0))),(.im (.v (.int .i64 0))),(.im (.v (.int .i64 0))),(.im (.v (.bool false)))]),(false,[(.im (.v (.bool false)))])]) (o5 Qg false):=by
 refine U5 ?_
 repeat' (first|exact .nil|refine .cons (jg.refl _) ?_|refine .cons (jg.nil 1 _) ?_|done)
def W5:fN:={ F:=F10 }
def W8:Nat->Bool:=cE
theorem ap3:Fn 39:={}
theorem am3 (L:LP) (QD:D->Prop) (op:Int) (h:(LC 31 [(int op)] [] (bool (jh op)) []/\br (jh op) (QD (bool true)) ((LC 36 [(int op)] [] (bool (ea op)) []/\QD (bool (ea op)))))):fx W5 39 W8 L (bL QD) [int op] []:=km h
theorem M7 (op:Int):LC 39 [int op] [] (bool (kH op)) []:=by
 refine pv (X:=W5) (stop:=W8) ap3 (am3 _ _ op ⟨zc _,aq (λh=>?_) (λh=>⟨tX _,?_⟩)⟩)
 .rw [show kH op=true from by simp only [kH,h,Bool.true_or]]; exact bh.refl _
 .rw [show kH op=ea op from by simp only [kH,h,Bool.false_or]]; exact bh.refl _
def We:fN:={ F:=F10 }
def WQ:Nat->Bool:=cE
theorem as7:Fn 33:={}
theorem ak4 (L:LP) (QD:D->Prop) (x y:aj) (h:br (x.5 != y.5) (QD (bool true)) ((LC 55 [(rE x),(rE y)] [] (bool (bU jR x.8 y.8)) []/\QD (bool (!bU jR x.8 y.8))))):fx We 33 WQ L (bL QD) [gL x,gL y] []:=km h
theorem Ih (x y:aj):LC 33 [gL x,gL y] [] (bool (lR x y)) []:=by
 refine pv (X:=We) (stop:=WQ) as7 (ak4 _ _ x y (aq (λh=>?_) (λh=>⟨Wi _ _,?_⟩)))
 .rw [show lR x y=true from by simp only [lR,show (x.n != y.n)=true from h,Bool.true_or]]; exact bh.refl _
 .rw [show lR x y = !bU jR x.names y.names from by simp only [lR,show (x.n != y.n)=false from h,Bool.false_or]]; exact bh.refl _
def Em:fN:={ F:=F10 }
def GM:Nat->Bool:=λi=>Nat.beq i 4
theorem aq7:Fn 69:={}
abbrev CI:fp:=(6,((.c (.rt 1 0 0)),[]))
abbrev CJ (aw:Nat):fp:=(26,((int (↑aw:Int)),[]))
abbrev fi:C:=.im (.v (.slice .none 0 0))
abbrev ff:C:=.im (.v (.string ⟨⟨[]⟩⟩))
abbrev Gv:ag:=.box [(ci 0),(ci 0),(ci 0),(ci 0),(ci 0),fi,(ci 0),(ci 0),ff,fi,(ci 0),(ci 0),(ci 0),dS]
theorem ad5 (L:LP) (QD:D->Prop) (t:ae) (a:Int) (i:Nat) (h:nd (cM a t.2.1) (br ((t.ins.2 a.toNat).1==16) (nd (cM a t.2.1) (QD (.t [(.true,(lift (aN (t.ins.2 a.toNat)))),(.false,[(.im (.v (.bool true)))])]))) (nd (GU (↑i:Int) t.2.1) (L (ai 69 4) ⟨[(1,((int a),[])),CI,(25,((.c (.im (.sl 14 i (λi=>fT (t.ins.2 i))))),[])),(CJ i),(27,((int 0),[]))],[(cu t),Gv],[]⟩)))):fx Em 69 GM L (bL QD) [a7 t,int a,int i] []:=km h
def BL (t:ae) (a:Int) (i:Nat) (k:Nat):VS:=⟨[(1,(int a),[]),(6,(.c (.rt 1 0 0)),[]),(25,(.c (.im (.sl 14 i (λi=>fT (t.ins.2 i))))),[]),(26,(int (↑i:Int)),[]),(27,int k,[])],[(cu t),Gv],[]⟩
theorem Kk (L:LP) (QD:D->Prop) (t:ae) (a:Int) (i:Nat) (k:Nat) (h:br (decide ((↑k:Int)<(↑i:Int))) (nd (cM (↑k:Int) i) (br ((t.ins.2 k).1==7) (br (!(t.ins.2 k).11) (br ((t.ins.2 k).2==a) (QD (.t [(.true,(lift (aN (t.ins.2 k)))),(.false,[(.im (.v (.bool true)))])])) (L (ai 69 4) ⟨[(1,((int a),[])),CI,(25,((.c (.im (.sl 14 i (λi=>fT (t.ins.2 i))))),[])),(CJ i),(27,((int (IntKind.i64.wrap ((↑k:Int)+1))),[]))],[(cu t),Gv,(oe t k)],[]⟩)) (L (ai 69 4) ⟨[(1,((int a),[])),CI,(25,((.c (.im (.sl 14 i (λi=>fT (t.ins.2 i))))),[])),(CJ i),(27,((int (IntKind.i64.wrap ((↑k:Int)+1))),[]))],[(cu t),Gv,(oe t k)],[]⟩)) (L (ai 69 4) ⟨[(1,((int a),[])),CI,(25,((.c (.im (.sl 14 i (λi=>fT (t.ins.2 i))))),[])),(CJ i),(27,((int (IntKind.i64.wrap ((↑k:Int)+1))),[]))],[(cu t),Gv,(oe t k)],[]⟩))) (QD (.t [(.true,[(ci 0),(ci 0),(ci 0),(ci 0),(ci 0),(.im (.v (.slice .none 0 0))),(ci 0),(ci 0),(.im (.v (.string ⟨⟨[]⟩⟩))),(.im (.v (.slice .none 0 0))),(ci 0),(ci 0),(ci 0),(.im (.v (.bool false)))]),(.false,[(.im (.v (.bool false)))])]))):cB Em 69 GM L (bL QD) 4 (BL t a i k):=km h
theorem SO (t:ae) (a:Int) (i:Nat) (hi:i<=t.ins.n) (hS:bj t) (s:Int):∀ k,k<=i->iR (Sn t a) (i-k) k=s->af 69 0 (bF (Va t s)) (ai 69 4) (BL t a i k):=by
 have hN:=hS.ins
 refine aU (λk hk ih ha=>?_) (λha=>?_)
 .have q:i-k=(i-(k+1))+1:=by omega
  rw [q] at ha
  have yes:Sn t a k=true->s=(k:Int):=λq=>by rw [pJ q] at ha; exact ha.symm
  have go:Sn t a k=false->af 69 0 (bF (Va t s)) (ai 69 4) (BL t a i (k+1)):=λq=>by rw [nt q] at ha; exact ih ha
  refine aR (X:=Em) (stop:=GM) (Kk _ _ t a i k ?_)
  rw [dr hk (by unfold maxLen; omega)]
  refine aq (λh=>?_) (λh=>(dec_lt h hk).elim)
  have nb:cM (k:Int) i=true:=a8 (by omega)
  refine aC nb ?_
  refine aq (λh1=>?_) (λh1=>?_)
  .have h1:((t.ins.get k).op==7)=true:=h1
   refine aq (λh2=>?_) (λh2=>?_)
   .have h2:(!(t.ins.get k).once)=true:=h2
    refine aq (λh3=>?_) (λh3=>?_)
    .rw [yes (by simp only [Sn,h1,h2,show ((t.ins.get k).a==a)=true from h3,aL])]
     rw [show Va t (k:Int)=o5 (t.ins.get k) true from by unfold Va; rw [show decide ((k:Int)≥0)=true from by simp]; rfl]; exact bh.refl _
    .exact af.rename [0,1] rfl (go (by simp only [Sn,h1,h2,show ((t.ins.get k).a==a)=false from h3,aL]))
   .have h2:(!(t.ins.get k).once)=false:=h2
    exact af.rename [0,1] rfl (go (by simp only [Sn,h1,h2,aL]))
  .exact af.rename [0,1] rfl (go (by simp only [Sn,show ((t.ins.get k).op==7)=false from h1,aL]))
 .rw [Nat.sub_self] at ha
  refine aR (X:=Em) (stop:=GM) (Kk _ _ t a i _ ?_)
  refine aq (λh=>bS h) (λh=>?_)
  subst ha
  exact zero_le
theorem Xk (t:ae) (a:Int) (i:Nat) (ha:cM a t.ins.n=true) (h0:0<=a) (hi:i<=t.ins.n) (hS:bj t):LC 69 [a7 t,int a,int i] [] (Va t (qs t a i)) []:=by
 refine pv (X:=Em) (stop:=GM) aq7 (ad5 _ _ t a i (aC ha (aq (λh=>aC ha ?_) (λh=>aC ?_ ?_))))
 .rw [show qs t a i=a from by simp only [qs,show ((t.ins.get a.toNat).op==16)=true from h,cond_true],show Va t a=o5 (t.ins.get a.toNat) true from by unfold Va; rw [show decide (a≥0)=true from by simpa using h0]; rfl]; exact bh.refl _
 .show Nat.ble i t.ins.n=true
  simpa [Nat.ble_eq] using hi
 .rw [show qs t a i=oc (Sn t a) i from by simp only [qs,show ((t.ins.get a.toNat).op==16)=false from h,cond_false]]
  exact SO t a i hi hS _ 0 (bu _) rfl
open Go Go.V
def Ek (t:ae) (s:Int):aj:=bif decide (s≥0) then t.ins.get s.toNat else Qg
def tlS (t:ae) (a b:Int) (i:Nat):Bool:=decide (qs t a i≥0)&&(decide (qs t b i≥0)&&lR (Ek t (qs t a i)) (Ek t (qs t b i)))
def Me (t:ae) (a b:Int) (i:Nat):Bool:=bif a==b then false else bif (t.ins.get (if b>a then b else a).toNat).op==16 then true else bif (t.ins.get (a).toNat).op==16&&(t.ins.get (b).toNat).op==16 then true else tlS t a b i
def apR (t:ae) (a b:Int) (i:Nat):Bool:=bif a==b then false else bif ((t.ins.get (a).toNat).op==16&&(t.ins.get (b).toNat).op==16)||(((t.ins.get (a).toNat).op==16&&decide (b<a))||((t.ins.get (b).toNat).op==16&&decide (a<b))) then true else tlS t a b i
def aF6:xQ:=[
 (69,λds rs=>(o5 (Ek (fj ds 0) (qs (fj ds 0) (aI ds 1) (aI ds 2).toNat)) (decide (qs (fj ds 0) (aI ds 1) (aI ds 2).toNat≥0)),[],[]))]
def F11:=ext F10 aF6
theorem Z7 (t:ae) (s:Int):Va t s=o5 (Ek t s) (decide (s≥0)):=by
 unfold Va Ek
 cases decide (s≥0)<;>rfl
theorem XQ {t:ae} {a:Int} {i:Nat} (ha:cM a t.ins.n=true) (hi:i<=t.ins.n) (h:decide (qs t a i≥0)=true):cM (qs t a i) t.ins.n=true:=by
 have h:=of_decide_eq_true h
 unfold qs at *
 cases hc:(t.ins.get a.toNat).op==16 with
 | true=>simpa [hc] using ha
 | false=>
   rw [hc] at h
   simp only [cond_false] at h ⊢
   rcases pU (Sn t a) i with ⟨h1,_⟩|⟨j,h1,h2,_⟩
   .rw [h1] at h; omega
   .rw [h1]; exact a8 (by omega)
theorem Vx {a:Int} {n:Nat} (h:cM a n=true):0<=a/\a<n:=by
 cases a with
 | ofNat m=>
   have:Nat.blt m n=true:=h
   rw [kD] at this
   exact ⟨Int.natCast_nonneg m,by show (m:Int)<n; omega⟩
 | negSucc m=>exact absurd h (by simp [cM])
theorem MR {t:ae} {s:Int} (h:decide (s≥0)=true):t.ins.get s.toNat=Ek t s:=by unfold Ek; rw [h]; rfl
def Wv:fN:={ F:=F11 }
def WN:Nat->Bool:=cE
theorem au3:Fn 41:={}
abbrev Cq (aw:ae) (aG:Int) (bk:Nat):D:=.t [(.true,(lift (aN (Ek aw (qs aw aG bk))))),(.false,[(.im (.v (.bool (decide (qs aw aG bk≥0)))))])]
abbrev Bs (aw:ae) (aG:Int) (bk:Nat) (bN:Int):D:=bool (lR (Ek aw (qs aw aG bk)) (Ek aw (qs aw bN bk)))
theorem ae2 (L:LP) (QD:D->Prop) (t:ae) (a b:Int) (i:Nat) (h:br (a==b) (QD (bool false)) (nd (cM (if b>a then b else a) t.2.1) (br ((t.ins.2 (if b>a then b else a).toNat).1==16) (QD (bool true)) (nd (cM a t.2.1) (br ((t.ins.2 a.toNat).1==16) (nd (cM b t.2.1) (br ((t.ins.2 b.toNat).1==16) (QD (bool true)) ((LC 69 [(fX t),(int a),(int (↑i:Int))] [] (Cq t a i) []/\(LC 69 [(fX t),(int b),(int (↑i:Int))] [] (Cq t b i) []/\br (decide (qs t a i≥0)) (br (decide (qs t b i≥0)) ((LC 33 [(.a (lift (aN (Ek t (qs t a i))))),(.a (lift (aN (Ek t (qs t b i)))))] [] (Bs t a i b) []/\QD (Bs t a i b))) (QD (bool false))) (QD (bool false))))))) ((LC 69 [(fX t),(int a),(int (↑i:Int))] [] (Cq t a i) []/\(LC 69 [(fX t),(int b),(int (↑i:Int))] [] (Cq t b i) []/\br (decide (qs t a i≥0)) (br (decide (qs t b i≥0)) ((LC 33 [(.a (lift (aN (Ek t (qs t a i))))),(.a (lift (aN (Ek t (qs t b i)))))] [] (Bs t a i b) []/\QD (Bs t a i b))) (QD (bool false))) (QD (bool false)))))))))):fx Wv 41 WN L (bL QD) [a7 t,int a,int b,int i] []:=km h
theorem VL (t:ae) (a:Int) (i:Nat) (ha:cM a t.ins.n=true) (hi:i<=t.ins.n) (hS:bj t):LC 69 [a7 t,int a,int i] [] (o5 (Ek t (qs t a i)) (decide (qs t a i≥0))) []:=Z7 t _▸Xk t a i ha (Vx ha).1 hi hS
theorem XV (t:ae) (a b:Int) (i:Nat) (ha:cM a t.ins.n=true) (hb:cM b t.ins.n=true) (hi:i<=t.ins.n) (hS:bj t):LC 41 [a7 t,int a,int b,int i] [] (bool (Me t a b i)) []:=by
 have hm:cM (if b>a then b else a) t.ins.n=true:=by split<;>assumption
 refine pv (X:=Wv) (stop:=WN) au3 (ae2 _ _ t a b i ?_)
 repeat' (first|refine aC (by first|assumption|exact XQ (by assumption) hi (by assumption)) ?_|refine aq (λh=>?_) (λh=>?_)|refine ⟨VL _ _ _ (by assumption) hi hS,?_⟩|refine ⟨Ih _ _,?_⟩|done)
 all_goals (try rw [MR (s:=qs t a i) (by assumption),MR (s:=qs t b i) (by assumption)])
 all_goals first
  | (exfalso; clear hm ha hb hi hS; simp_all; done)
  | (rw [show Me t a b i=false from by simp only [Me,tlS, *,aL]]; exact bh.refl _)
  | (rw [show Me t a b i=true from by simp only [Me,tlS, *,aL]]; exact bh.refl _)
  | (rw [show Me t a b i=lR (Ek t (qs t a i)) (Ek t (qs t b i)) from by simp only [Me,tlS, *,aL]]; exact bh.refl _)
open Go Go.V
def Up (t:ae) (b c:Int):Bool:=(t.ins.get b.toNat).op==2&&((t.ins.get c.toNat).op==2&&((t.ins.get b.toNat).k.kind==3&&((t.ins.get c.toNat).k.kind==3&&(t.ins.get b.toNat).k.n != (t.ins.get c.toNat).k.n)))
def r9 (t:ae) (p q:Nat):Int:=bif (t.ins.get p).a==(t.ins.get q).a then (bif Up t (t.ins.get p).b (t.ins.get q).b then 0 else 1) else bif Me t (t.ins.get p).a (t.ins.get q).a p then 0 else 1
def r7 (t:ae) (p q:Nat):Int:=bif (t.ins.get p).a==(t.ins.get q).a&&(hJ (t.ins.get p).op||(t.ins.get p).b==(t.ins.get q).b) then 2 else r9 t p q
def b6 (t:ae) (p q:Nat):Int:=bif (!kH (t.ins.get p).op||(!kH (t.ins.get q).op || !(hJ (t.ins.get p).op==hJ (t.ins.get q).op)))||(hJ (t.ins.get p).op&&(t.ins.get p).n != (t.ins.get q).n) then 0 else r7 t p q
def s5 (t:ae) (p q:Nat):Int:=bif aE3 (t.ins.get p).op then (bif (t.ins.get p).n != (t.ins.get q).n then 0 else bif (t.ins.get p).a==(t.ins.get q).a then 2 else bif apR t (t.ins.get p).a (t.ins.get q).a p then 0 else 1) else bif (t.ins.get p).a==(t.ins.get q).a then (bif (t.ins.get p).b==(t.ins.get q).b then 2 else bif Up t (t.ins.get p).b (t.ins.get q).b then 0 else 1) else bif apR t (t.ins.get p).a (t.ins.get q).a p then 0 else 1
def aD7:xQ:=[
 (41,λds rs=>(bool (Me (fj ds 0) (aI ds 1) (aI ds 2) (aI ds 3).toNat),[],[])),
 (21,λds rs=>(int (b6 (fj ds 0) (min (aI ds 1).toNat (aI ds 2).toNat) (max (aI ds 1).toNat (aI ds 2).toNat)),[],[]))]
def vh:=ext F11 aD7
structure oq (t:ae):Prop where
 a:∀ k,k<t.ins.n->kH (t.ins.get k).op=true->cM (t.ins.get k).a t.ins.n=true
 b:∀ k,k<t.ins.n->kH (t.ins.get k).op=true->hJ (t.ins.get k).op=false->cM (t.ins.get k).b t.ins.n=true
def Ei:fN:={ F:=vh }
def E5:Nat->Bool:=λi=>Nat.beq i 2||Nat.beq i 7||Nat.beq i 9
theorem aA1:Fn 21:={}
abbrev dU:fp:=(3,((.c (.rt 0 0 0)),[]))
theorem aJ2 (L:LP) (QD:D->Prop) (t:ae) (i j:Nat) (h:L (ai 21 2) ⟨[(1,((int (if (↑j:Int)<(↑i:Int) then (↑j:Int) else (↑i:Int))),[])),(2,((int (if (↑j:Int)>(↑i:Int) then (↑j:Int) else (↑i:Int))),[])),dU],[(cu t)],[]⟩):fx Ei 21 E5 L (bL QD) [a7 t,int i,int j] []:=km h
abbrev nN:fp:=(3,(.c (.rt 0 0 0)),[])
def RE (t:ae) (i j:Nat) (p q:Nat):VS:=⟨[(1,int p,[]),(2,int q,[]),nN],[(cu t)],[]⟩
abbrev Ri (aw:Nat) (aG:ae) (bk:Nat):VS:=⟨[(jK aw),dU,(7,((.c (.rt 1 0 0)),[])),(8,((.c (.rt 2 0 0)),[])),(28,((bool false),[]))],[(cu aG),(oe aG aw),(oe aG bk),.dead,.dead,.dead,.dead],[]⟩
theorem X9 (L:LP) (QD:D->Prop) (t:ae) (i j:Nat) (p q:Nat) (h:nd (cM (↑p:Int) t.2.1) (nd (cM (↑q:Int) t.2.1) (nd (cM (↑p:Int) t.2.1) (nd (cM (↑q:Int) t.2.1) ((LC 39 (kX t p) [] (bool (kH (t.ins.2 p).1)) []/\br (!kH (t.ins.2 p).1) (QD (int 0)) ((LC 39 (kX t q) [] (bool (kH (t.ins.2 q).1)) []/\br (!kH (t.ins.2 q).1) (QD (int 0)) ((LC 40 (kX t p) [] (bool (hJ (t.ins.2 p).1)) []/\(LC 40 (kX t q) [] (bool (hJ (t.ins.2 q).1)) []/\br (!hJ (t.ins.2 p).1==hJ (t.ins.2 q).1) (QD (int 0)) ((LC 40 (kX t p) [] (bool (hJ (t.ins.2 p).1)) []/\br (hJ (t.ins.2 p).1) (br ((t.ins.2 p).5 != (t.ins.2 q).5) (QD (int 0)) (L (ai 21 7) (Ri p t q))) (L (ai 21 7) (Ri p t q))))))))))))))):cB Ei 21 E5 L (bL QD) 2 (RE t i j p q):=km h
abbrev QG (aw:Nat) (aG:ae) (bk:Nat):VS:=⟨[(oS aw),nN,(7,(.c (.rt 1 0 0)),[]),(8,(.c (.rt 2 0 0)),[])],[(cu aG),(oe aG aw),(oe aG bk)],[]⟩
def xp (t:ae) (i j:Nat) (p q:Nat):VS:=(QG p t q)
abbrev NV (aw:Nat) (aG:ae) (bk:Nat):VS:=⟨[(jK aw),dU,(7,((.c (.rt 1 0 0)),[])),(8,((.c (.rt 2 0 0)),[])),(60,((bool false),[]))],[(cu aG),(oe aG aw),(oe aG bk)],[]⟩
theorem XG (L:LP) (QD:D->Prop) (t:ae) (i j:Nat) (p q:Nat) (h:br ((t.ins.2 p).2==(t.ins.2 q).2) ((LC 40 (kX t p) [] (bool (hJ (t.ins.2 p).1)) []/\br (hJ (t.ins.2 p).1) (QD (int 2)) (br ((t.ins.2 p).3==(t.ins.2 q).3) (QD (int 2)) (L (ai 21 9) (NV p t q))))) (L (ai 21 9) (NV p t q))):cB Ei 21 E5 L (bL QD) 7 (xp t i j p q):=km h
def Cm (t:ae) (i j:Nat) (p q:Nat):VS:=(QG p t q)
theorem Xq (L:LP) (QD:D->Prop) (t:ae) (i j:Nat) (p q:Nat) (h:br ((t.ins.2 p).2==(t.ins.2 q).2) (nd (cM (t.ins.2 p).3 t.2.1) (nd (cM (t.ins.2 q).3 t.2.1) (nd (cM (t.ins.2 p).3 t.2.1) (nd (cM (t.ins.2 q).3 t.2.1) (br ((t.ins.2 (t.ins.2 p).3.toNat).1==2) (br ((t.ins.2 (t.ins.2 q).3.toNat).1==2) (br ((t.ins.2 (t.ins.2 p).3.toNat).7.1==3) (br ((t.ins.2 (t.ins.2 q).3.toNat).7.1==3) (br ((t.ins.2 (t.ins.2 p).3.toNat).7.2 != (t.ins.2 (t.ins.2 q).3.toNat).7.2) (QD (int 0)) (QD (int 1))) (QD (int 1))) (QD (int 1))) (QD (int 1))) (QD (int 1))))))) ((LC 41 [(fX t),(int ((t.ins.2 p).2)),(int ((t.ins.2 q).2)),(int (↑p:Int))] [] (bool (Me t (t.ins.2 p).2 (t.ins.2 q).2 p)) []/\br (Me t (t.ins.2 p).2 (t.ins.2 q).2 p) (QD (int 0)) (QD (int 1))))):cB Ei 21 E5 L (bL QD) 9 (Cm t i j p q):=km h
theorem NR (t:ae) (i j p q:Nat) (hp:p<t.ins.n) (hq:q<t.ins.n) (hS:bj t) (ha:cM (t.ins.get p).a t.ins.n=true) (hb:cM (t.ins.get q).a t.ins.n=true) (hc:((t.ins.get p).a==(t.ins.get q).a)=true->cM (t.ins.get p).b t.ins.n=true/\cM (t.ins.get q).b t.ins.n=true):af 21 0 (bF (int (r9 t p q))) (ai 21 9) (Cm t i j p q):=by
 refine aR (X:=Ei) (stop:=E5) (Xq _ _ t i j p q ?_)
 refine aq (λh=>?_) (λh=>⟨XV t _ _ p ha hb (by omega) hS,?_⟩)
 .obtain ⟨h1,h2⟩:=hc h
  refine aC h1 (aC h2 (aC h1 (aC h2 ?_)))
  have h:((t.ins.get p).a==(t.ins.get q).a)=true:=h
  clear hc ha hb h1 h2 hS
  repeat' (first|refine aq (λh=>?_) (λh=>?_)|done)
  all_goals first
   | (have e:r9 t p q=0:=by (simp only [r9,Up, *,aL]; done)
      rw [e]; exact bh.refl _)
   | (have e:r9 t p q=1:=by (simp only [r9,Up, *,aL]; done)
      rw [e]; exact bh.refl _)
 .have h:((t.ins.get p).a==(t.ins.get q).a)=false:=h
  refine aq (λh2=>?_) (λh2=>?_)
  .rw [show r9 t p q=0 from by simp only [r9,h,show Me t (t.ins.get p).a (t.ins.get q).a p=true from h2,aL]]; exact bh.refl _
  .rw [show r9 t p q=1 from by simp only [r9,h,show Me t (t.ins.get p).a (t.ins.get q).a p=false from h2,aL]]; exact bh.refl _
theorem Xf (t:ae) (i j p q:Nat) (hp:p<t.ins.n) (hq:q<t.ins.n) (hS:bj t) (hm:oq t) (h1:kH (t.ins.get p).op=true) (h2:kH (t.ins.get q).op=true) (h3:hJ (t.ins.get p).op=hJ (t.ins.get q).op):af 21 0 (bF (int (r7 t p q))) (ai 21 7) (xp t i j p q):=by
 have ha:=hm.a p hp h1
 have hb:=hm.a q hq h2
 refine aR (X:=Ei) (stop:=E5) (XG _ _ t i j p q ?_)
 refine aq (λh=>⟨BF _,aq (λh4=>?_) (λh4=>aq (λh5=>?_) (λh5=>?_))⟩) (λh=>?_)
 .rw [show r7 t p q=2 from by simp only [r7,show ((t.ins.get p).a==(t.ins.get q).a)=true from h,show hJ (t.ins.get p).op=true from h4,aL]]; exact bh.refl _
 .rw [show r7 t p q=2 from by simp only [r7,show ((t.ins.get p).a==(t.ins.get q).a)=true from h,show ((t.ins.get p).b==(t.ins.get q).b)=true from h5,aL]]; exact bh.refl _
 .have h4:hJ (t.ins.get p).op=false:=h4
  rw [show r7 t p q=r9 t p q from by simp only [r7,show ((t.ins.get p).a==(t.ins.get q).a)=true from h,h4,show ((t.ins.get p).b==(t.ins.get q).b)=false from h5,aL]]
  exact af.rename [0,1,2] rfl (af.lr (Cm t i j p q) (NR t i j p q hp hq hS ha hb (λ_=>⟨hm.b p hp h1 h4,hm.b q hq h2 (h3▸h4)⟩)))
 .rw [show r7 t p q=r9 t p q from by simp only [r7,show ((t.ins.get p).a==(t.ins.get q).a)=false from h,aL]]
  exact af.rename [0,1,2] rfl (af.lr (Cm t i j p q) (NR t i j p q hp hq hS ha hb (λe=>by rw [show ((t.ins.get p).a==(t.ins.get q).a)=false from h] at e; cases e)))
theorem Xj (t:ae) (i j p q:Nat) (hp:p<t.ins.n) (hq:q<t.ins.n) (hS:bj t) (hm:oq t):af 21 0 (bF (int (b6 t p q))) (ai 21 2) (RE t i j p q):=by
 refine aR (X:=Ei) (stop:=E5) (X9 _ _ t i j p q ?_)
 have np:=a8 hp
 have nq:=a8 hq
 refine aC np (aC nq (aC np (aC nq ⟨M7 _,?_⟩)))
 refine aq (λh1=>?_) (λh1=>⟨M7 _,aq (λh2=>?_) (λh2=>⟨BF _,BF _,aq (λh3=>?_) (λh3=>⟨BF _,?_⟩)⟩)⟩)
 .rw [show b6 t p q=0 from by simp only [b6,show (!kH (t.ins.get p).op)=true from h1,aL]]; exact bh.refl _
 .rw [show b6 t p q=0 from by simp only [b6,show (!kH (t.ins.get q).op)=true from h2,aL]]; exact bh.refl _
 .rw [show b6 t p q=0 from by simp only [b6,show (!(hJ (t.ins.get p).op==hJ (t.ins.get q).op))=true from h3,aL]]; exact bh.refl _
 .have ku:(!kH (t.ins.get p).op)=false:=h1
  have gk:(!kH (t.ins.get q).op)=false:=h2
  have kL:(!(hJ (t.ins.get p).op==hJ (t.ins.get q).op))=false:=h3
  have e1:kH (t.ins.get p).op=true:=by simpa using ku
  have e2:kH (t.ins.get q).op=true:=by simpa using gk
  have e3:hJ (t.ins.get p).op=hJ (t.ins.get q).op:=by simpa using kL
  have fin:b6 t p q=r7 t p q->∀ s,s=xp t i j p q->af 21 0 (bF (int (b6 t p q))) (ai 21 7) s:=λe s q'=>by rw [e,q']; exact Xf t i j p q hp hq hS hm e1 e2 e3
  refine aq (λh4=>aq (λh5=>?_) (λh5=>?_)) (λh4=>?_)
  .rw [show b6 t p q=0 from by simp only [b6,show hJ (t.ins.get p).op=true from h4,show ((t.ins.get p).n != (t.ins.get q).n)=true from h5,aL]]; exact bh.refl _
  .exact af.rename [0,1,2] rfl (af.lr (xp t i j p q) (fin (by simp only [b6,ku,gk,kL,show ((t.ins.get p).n != (t.ins.get q).n)=false from h5,aL]) _ rfl))
  .exact af.rename [0,1,2] rfl (af.lr (xp t i j p q) (fin (by simp only [b6,ku,gk,show hJ (t.ins.get p).op=false from h4,show hJ (t.ins.get q).op=false from e3▸h4,beq_self_eq_true,aL]) _ rfl))
theorem NN (t:ae) (i j:Nat) (hi:i<t.ins.n) (hj:j<t.ins.n) (hS:bj t) (hm:oq t):LC 21 [a7 t,int i,int j] [] (int (b6 t (min i j) (max i j))) []:=by
 refine pv (X:=Ei) (stop:=E5) aA1 (aJ2 _ _ t i j ?_)
 rw [show (if (j:Int)<(i:Int) then (j:Int) else (i:Int))=((min i j:Nat):Int) from by split<;>omega,show (if (j:Int)>(i:Int) then (j:Int) else (i:Int))=((max i j:Nat):Int) from by split<;>omega]
 exact Xj t i j _ _ (by omega) (by omega) hS hm
def ak2:fN:={ F:=vh }
def aj2:Nat->Bool:=cE
theorem az9:Fn 7:={}
theorem az0 (L:LP) (QD:D->Prop) (t:ae) (i j:Int) (h:(LC 10 [(fX t)] [] (int (bH t)) []/\br (bH t != 0) (QD (int 0)) (br (decide ((if j<i then j else i)<0)) (QD (int 0)) (br (decide ((if j>i then j else i)≥(↑t.2.1:Int))) (QD (int 0)) ((LC 21 [(fX t),(int i),(int j)] [] (int (b6 t (min i.toNat j.toNat) (max i.toNat j.toNat))) []/\QD (int (b6 t (min i.toNat j.toNat) (max i.toNat j.toNat))))))))):fx ak2 7 aj2 L (bL QD) [a7 t,int i,int j] []:=km h
def wQ (t:ae) (i j:Int):Int:=bif bH t != 0 then 0 else bif decide (min i j<0)||decide (max i j≥(t.ins.n:Int)) then 0 else b6 t (min i.toNat j.toNat) (max i.toNat j.toNat)
theorem ad1 (t:ae) (i j:Int) (hS:bj t) (hm:bH t=0->oq t):LC 7 [a7 t,int i,int j] [] (int (wQ t i j)) []:=by
 refine pv (X:=ak2) (stop:=aj2) az9 (az0 _ _ t i j ⟨Gl t hS,?_⟩)
 have e1:(if j<i then j else i)=min i j:=by split<;>omega
 have e2:(if j>i then j else i)=max i j:=by split<;>omega
 rw [e1,e2]
 refine aq (λh=>?_) (λh=>aq (λh2=>?_) (λh2=>aq (λh3=>?_) (λh3=>?_)))
 .rw [show wQ t i j=0 from by simp only [wQ,show (bH t != 0)=true from h,aL]]; exact bh.refl _
 .rw [show wQ t i j=0 from by simp only [wQ,show (bH t != 0)=false from h,show decide (min i j<0)=true from h2,aL]]; exact bh.refl _
 .rw [show wQ t i j=0 from by simp only [wQ,show (bH t != 0)=false from h,show decide (max i j≥(t.ins.n:Int))=true from h3,aL]]; exact bh.refl _
 .rw [show wQ t i j=b6 t (min i.toNat j.toNat) (max i.toNat j.toNat) from by simp only [wQ,show (bH t != 0)=false from h,show decide (min i j<0)=false from h2,show decide (max i j≥(t.ins.n:Int))=false from h3,aL]]
  have g1:=of_decide_eq_false h2
  have g2:=of_decide_eq_false h3
  have hr:bH t=0:=by simpa using h
  obtain ⟨a,rfl⟩:=Int.eq_ofNat_of_zero_le (show 0<=i by omega)
  obtain ⟨b,rfl⟩:=Int.eq_ofNat_of_zero_le (show 0<=j by omega)
  exact ⟨NN t a b (by omega) (by omega) hS (hm hr),bh.refl _⟩
open Go Go.V
theorem pR {n:Int}:∀ {l:List Int},dX n l=true↔n∈l
 | []=>by simp [dX]
 | x::l=>by
   unfold dX
   split
   .rename_i h; simp at h; simp [h]
   .rename_i h
    simp only [beq_eq_false_iff_ne] at h
    rw [pR]
    simp [h]
theorem Au {n m:Int} {l:List Int}:dX n (sV m l)=(dX n l||(n==m)):=by
 rw [eB,pR,Bool.or_eq_true,pR,beq_iff_eq]
 unfold sV
 split
 .rename_i h
  rw [pR] at h
  exact ⟨.inl,λq=>q.elim id λq=>q▸h⟩
 .simp
theorem zz {x:Sq cG} {v:Int}:∀ {j:Nat},dX v (lk x j)=true↔∃ i,i<j/\(x.get i).value=v
 | 0=>by simp [lk,dX]
 | j+1=>by
   rw [show lk x (j+1)=sV (x.get j).value (lk x j) from rfl,Au,Bool.or_eq_true,zz,beq_iff_eq]
   constructor
   .rintro (⟨i,h1,h2⟩|h)
    .exact ⟨i,by omega,h2⟩
    .exact ⟨j,by omega,h.symm⟩
   .rintro ⟨i,h1,h2⟩
    by_cases e:i=j
    .subst e; exact .inr h2.symm
    .exact .inl ⟨i,by omega,h2⟩
theorem M2 {x:Sq cG} {v:Int}:decide (LB x v<0) = !dX v (lk x x.n):=by
 rw [eB,decide_eq_true_iff,Bool.not_eq_true',<- Bool.not_eq_true,zz]
 unfold LB
 rcases pU (λi=>(x.get i).value==v) x.n with ⟨h1,h2⟩|⟨i,h1,h2,h3,h4⟩
 .rw [h1]
  refine ⟨λ_=>?_,λ_=>by omega⟩
  rintro ⟨i,h3,h4⟩
  have:=h2 i h3
  simp [h4] at this
 .rw [h1]
  refine ⟨λh=>by omega,λh=>?_⟩
  exact absurd ⟨i,h2,by simpa using h3⟩ h
theorem Hi {x:Sq cG} {j:Nat} (hj:j<x.n):(LB x (x.get j).value != (j:Int))=dX (x.get j).value (lk x j):=by
 rw [eB,zz,bne_iff_ne]
 unfold LB
 rcases pU (λi=>(x.get i).value==(x.get j).value) x.n with ⟨h1,h2⟩|⟨i,h1,h2,h3,h4⟩
 .have:=h2 j hj
  simp at this
 .rw [h1]
  constructor
  .intro h
   have:¬ j<i:=λq=>by have:=h4 j q; simp at this
   exact ⟨i,by omega,by simpa using h3⟩
  .rintro ⟨m,h5,h6⟩ e
   have e:i=j:=by omega
   subst e
   have:=h4 m h5
   simp [h6] at this
theorem Ej {a b:Sq ByteArray}:bU jR a b=bU jR b a:=by
 unfold bU
 by_cases h:a.n=b.n
 .rw [h]
  rw [show (λi=>jR (a.get i) (b.get i))=λi=>jR (b.get i) (a.get i) from funext λi=>FB _ _]
 .have h1:(a.n==b.n)=false:=by simpa using h
  have h2:(b.n==a.n)=false:=by simpa using λe=>h e.symm
  rw [h1,h2]; rfl
theorem G9 {p q:Nat->Bool} {n:Nat} (h:∀ i,i<n->p i=q i):dh p n=dh q n:=vc λi _ hi=>h i (by omega)
theorem QU {p:Int->Bool} (x y:Sq Int):dh (λi=>p ((ek x y).get i)) (ek x y).n=(dh (λi=>p (x.get i)) x.n&&dh (λi=>p (y.get i)) y.n):=by
 have g:∀ i,(ek x y).get i=if i<x.n then x.get i else y.get (i-x.n):=λi=>by
  show (Bool.rec (y.get (i-x.n)) (x.get i) (Nat.blt i x.n):Int)=_
  cases hb:Nat.blt i x.n with
  | true=>rw [if_pos (by simpa [kD] using hb)]
  | false=>rw [if_neg (λq=>by rw [dP q] at hb; cases hb)]
 rw [eB,dJ,jN,jN,jN]
 constructor
 .intro h
  refine ⟨λi hi=>?_,λi hi=>?_⟩
  .have:=h i (by show i<x.n+y.n; omega)
   simpa [g,hi] using this
  .have:=h (x.n+i) (by show x.n+i<x.n+y.n; omega)
   rw [g,if_neg (by omega),Nat.add_sub_cancel_left] at this
   exact this
 .rintro ⟨h1,h2⟩ i hi
  have hi:i<x.n+y.n:=hi
  rw [g]
  split
  .rename_i h; exact h1 i h
  .exact h2 _ (by omega)
theorem xl {p:Int->Bool} {g:Nat->Sq Int}:∀ {m k:Nat} {l:Sq Int},dh (λi=>p ((Fz g m k l).get i)) (Fz g m k l).n=(dh (λi=>p (l.get i)) l.n&&cn (λj=>dh (λi=>p ((g j).get i)) (g j).n) m k)
 | 0,k,l=>by simp [Fz,cn]
 | m+1,k,l=>by
   rw [show Fz g (m+1) k l=Fz g m (k+1) (ek l (g k)) from rfl,xl,QU]
   show _=(dh (λi=>p (l.get i)) l.n&&(bif dh (λi=>p ((g k).get i)) (g k).n then cn (λj=>dh (λi=>p ((g j).get i)) (g j).n) m (k+1) else false))
   cases dh (λi=>p ((g k).get i)) (g k).n<;>simp
theorem YH (t:ae) (e:ah) (k:Int):Ot t e k=lK t e k:=by
 have e1:dh (obR t e k) e.ax.n=dh (L5 t e k) e.ax.n:=G9 λj hj=>by
  unfold obR L5
  rw [Hi hj,Ej (a:=(e.ax.get j).names),bne_comm (a:=(e.ax.get j).cls)]
  generalize (!e6 t (e.ax.get j).value k)=a
  generalize ((t.ins.get (e.ax.get j).value.toNat).op != 17)=b
  generalize dX (e.ax.get j).value (lk e.ax j)=c
  generalize ((t.ins.get (e.ax.get j).value.toNat).n != (e.ax.get j).cls)=d
  generalize (!bU jR (t.ins.get (e.ax.get j).value.toNat).names (e.ax.get j).names)=f
  generalize (((e.ax.get j).items.n:Int)!=((e.ax.get j).names.n:Int))=g
  revert a b c d f g
  decide
 have e2:usR t e k=jZ t k (lk e.ax e.ax.n):=funext λv=>by
  unfold usR jZ
  rw [M2]
  cases e6 t v k<;>simp
 unfold Ot lK x12 x21 allM
 rw [xl (p:=usR t e k),xl (p:=usR t e k),e1,e2]
 show _=(_&&(_&&(_&&(dh (λj=>dh (λi=>jZ t k (lk e.ax e.ax.n) ((e.frames.get j).vars.get i)) (e.frames.get j).vars.n) e.frames.n&&dh (λj=>dh (λi=>jZ t k (lk e.ax e.ax.n) ((e.ax.get j).items.get i)) (e.ax.get j).items.n) e.ax.n))))
 have e3:dh (λi=>jZ t k (lk e.ax e.ax.n) ((bc 0:Sq Int).get i)) (bc 0:Sq Int).n=true:=rfl
 rw [e3,Bool.true_and]
 unfold dh
 generalize (!(decide ((e.frames.n:Int)<1)||(decide ((e.frames.n:Int)>6)||decide (e.back<0))))=a
 ac_rfl
open Go Go.V
theorem ch {α:Type} {e:α->α->Bool} {x:Sq α} {g:Nat->α}:bU e x ⟨0,g⟩=(x.n==0):=by
 unfold bU
 cases h:x.n==0 with
 | true=>
   have:x.n=0:=by simpa using h
   rw [this]; rfl
 | false=>rfl
theorem bT (x:Sq Int):bU (λa b=>a==b) x x=true:=by
 unfold bU
 simp [jN]
theorem bW (x:Sq ByteArray):bU jR x x=true:=by
 unfold bU
 simp [jN,jR]
theorem dR (s:ByteArray):(s==s)=true:=by
 show ByteArray.beq s s=true
 simp [ByteArray.beq]
theorem dW (b:Bool):(bif b then true else false)=b:=by cases b<;>rfl
theorem ar0 (a b c n:Int) (args:Sq Int) (kk kn:Int) (ks:ByteArray) (names:Sq ByteArray) (pf pl exit:Int) (once:Bool) (hn:n<=9223372036854775807):bB ⟨0,a,b,c,n,args,⟨kk,kn,ks⟩,names,⟨pf,pl⟩,exit,once⟩=bo ⟨0,a,b,c,n,args,⟨kk,kn,ks⟩,names,⟨pf,pl⟩,exit,once⟩:=by
 simp [bB,j7,yA,vS,bz,gh,bo,qJ,p9,oG,nQ,ft,eT,gu,gI,zeroV,eH,cy,cp,ch,bT,bW,dW,dR]
 try (rw [eB]; grind)
theorem ak3 (a b c n:Int) (args:Sq Int) (kk kn:Int) (ks:ByteArray) (names:Sq ByteArray) (pf pl exit:Int) (once:Bool) (hn:n<=9223372036854775807):bB ⟨1,a,b,c,n,args,⟨kk,kn,ks⟩,names,⟨pf,pl⟩,exit,once⟩=bo ⟨1,a,b,c,n,args,⟨kk,kn,ks⟩,names,⟨pf,pl⟩,exit,once⟩:=by
 cases hk:(kk==3)<;>cases h1:decide (kn≥0)<;>cases h2:decide (kn<=23)<;>simp only [beq_iff_eq,beq_eq_false_iff_ne,decide_eq_true_eq,decide_eq_false_iff_not] at hk h1 h2
 all_goals
  simp [bB,j7,yA,vS,bz,gh,bo,qJ,p9,oG,nQ,ft,eT,gu,gI,zeroV,eH,cy,cp,hk,h1,h2,ch,bT,bW,dW,dR]
 all_goals try (rw [eB]; grind)
theorem av2 (a b c n:Int) (args:Sq Int) (kk kn:Int) (ks:ByteArray) (names:Sq ByteArray) (pf pl exit:Int) (once:Bool) (hn:n<=9223372036854775807):bB ⟨2,a,b,c,n,args,⟨kk,kn,ks⟩,names,⟨pf,pl⟩,exit,once⟩=bo ⟨2,a,b,c,n,args,⟨kk,kn,ks⟩,names,⟨pf,pl⟩,exit,once⟩:=by
 simp [bB,j7,yA,vS,bz,gh,bo,qJ,p9,oG,nQ,ft,eT,gu,gI,zeroV,eH,cy,cp,ch,bT,bW,dW,dR]
 try (rw [eB]; grind)
theorem af2 (a b c n:Int) (args:Sq Int) (kk kn:Int) (ks:ByteArray) (names:Sq ByteArray) (pf pl exit:Int) (once:Bool) (hn:n<=9223372036854775807):bB ⟨3,a,b,c,n,args,⟨kk,kn,ks⟩,names,⟨pf,pl⟩,exit,once⟩=bo ⟨3,a,b,c,n,args,⟨kk,kn,ks⟩,names,⟨pf,pl⟩,exit,once⟩:=by
 cases h1:(n==3)
 all_goals
  simp only [bB,j7,vS,h1,show ((3:Int)==3)=true from rfl,cond_true,cond_false]
  simp only [beq_iff_eq,beq_eq_false_iff_ne] at h1
  simp [bB,j7,yA,vS,bz,gh,bo,qJ,p9,oG,nQ,ft,eT,gu,gI,zeroV,eH,cy,cp,h1,ch,bT,bW,dW,dR]
 all_goals try (rw [eB]; grind)
theorem ao8 (a b c n:Int) (args:Sq Int) (kk kn:Int) (ks:ByteArray) (names:Sq ByteArray) (pf pl exit:Int) (once:Bool) (hn:n<=9223372036854775807):bB ⟨4,a,b,c,n,args,⟨kk,kn,ks⟩,names,⟨pf,pl⟩,exit,once⟩=bo ⟨4,a,b,c,n,args,⟨kk,kn,ks⟩,names,⟨pf,pl⟩,exit,once⟩:=by
 simp [bB,j7,yA,vS,bz,gh,bo,qJ,p9,oG,nQ,ft,eT,gu,gI,zeroV,eH,cy,cp,ch,bT,bW,dW,dR]
 try (rw [eB]; grind)
theorem ar5 (a b c n:Int) (args:Sq Int) (kk kn:Int) (ks:ByteArray) (names:Sq ByteArray) (pf pl exit:Int) (once:Bool) (hn:n<=9223372036854775807):bB ⟨5,a,b,c,n,args,⟨kk,kn,ks⟩,names,⟨pf,pl⟩,exit,once⟩=bo ⟨5,a,b,c,n,args,⟨kk,kn,ks⟩,names,⟨pf,pl⟩,exit,once⟩:=by
 simp [bB,j7,yA,vS,bz,gh,bo,qJ,p9,oG,nQ,ft,eT,gu,gI,zeroV,eH,cy,cp,ch,bT,bW,dW,dR]
 try (rw [eB]; grind)
theorem ac2 (a b c n:Int) (args:Sq Int) (kk kn:Int) (ks:ByteArray) (names:Sq ByteArray) (pf pl exit:Int) (once:Bool) (hn:n<=9223372036854775807):bB ⟨6,a,b,c,n,args,⟨kk,kn,ks⟩,names,⟨pf,pl⟩,exit,once⟩=bo ⟨6,a,b,c,n,args,⟨kk,kn,ks⟩,names,⟨pf,pl⟩,exit,once⟩:=by
 simp [bB,j7,yA,vS,bz,gh,bo,qJ,p9,oG,nQ,ft,eT,gu,gI,zeroV,eH,cy,cp,ch,bT,bW,dW,dR]
 try (rw [eB]; grind)
theorem ao0 (a b c n:Int) (args:Sq Int) (kk kn:Int) (ks:ByteArray) (names:Sq ByteArray) (pf pl exit:Int) (once:Bool) (hn:n<=9223372036854775807):bB ⟨7,a,b,c,n,args,⟨kk,kn,ks⟩,names,⟨pf,pl⟩,exit,once⟩=bo ⟨7,a,b,c,n,args,⟨kk,kn,ks⟩,names,⟨pf,pl⟩,exit,once⟩:=by
 cases h1:decide (n≥0)<;>simp only [decide_eq_true_eq,decide_eq_false_iff_not] at h1
 all_goals
  simp [bB,j7,yA,vS,bz,gh,bo,qJ,p9,oG,nQ,ft,eT,gu,gI,zeroV,eH,cy,cp,h1,ch,bT,bW,dW,dR]
 all_goals try (rw [eB]; grind)
theorem al4 (a b c n:Int) (args:Sq Int) (kk kn:Int) (ks:ByteArray) (names:Sq ByteArray) (pf pl exit:Int) (once:Bool) (hn:n<=9223372036854775807):bB ⟨8,a,b,c,n,args,⟨kk,kn,ks⟩,names,⟨pf,pl⟩,exit,once⟩=bo ⟨8,a,b,c,n,args,⟨kk,kn,ks⟩,names,⟨pf,pl⟩,exit,once⟩:=by
 simp [bB,j7,yA,vS,bz,gh,bo,qJ,p9,oG,nQ,ft,eT,gu,gI,zeroV,eH,cy,cp,ch,bT,bW,dW,dR]
 try (rw [eB]; grind)
theorem ap7 (a b c n:Int) (args:Sq Int) (kk kn:Int) (ks:ByteArray) (names:Sq ByteArray) (pf pl exit:Int) (once:Bool) (hn:n<=9223372036854775807):bB ⟨9,a,b,c,n,args,⟨kk,kn,ks⟩,names,⟨pf,pl⟩,exit,once⟩=bo ⟨9,a,b,c,n,args,⟨kk,kn,ks⟩,names,⟨pf,pl⟩,exit,once⟩:=by
 simp [bB,j7,yA,vS,bz,gh,bo,qJ,p9,oG,nQ,ft,eT,gu,gI,zeroV,eH,cy,cp,ch,bT,bW,dW,dR]
 try (rw [eB]; grind)
theorem XD (a b c n:Int) (args:Sq Int) (kk kn:Int) (ks:ByteArray) (names:Sq ByteArray) (pf pl exit:Int) (once:Bool) (hn:n<=9223372036854775807):bB ⟨10,a,b,c,n,args,⟨kk,kn,ks⟩,names,⟨pf,pl⟩,exit,once⟩=bo ⟨10,a,b,c,n,args,⟨kk,kn,ks⟩,names,⟨pf,pl⟩,exit,once⟩:=by
 simp [bB,j7,yA,vS,bz,gh,bo,qJ,p9,oG,nQ,ft,eT,gu,gI,zeroV,eH,cy,cp,ch,bT,bW,dW,dR]
 try (rw [eB]; grind)
theorem Zt (a b c n:Int) (args:Sq Int) (kk kn:Int) (ks:ByteArray) (names:Sq ByteArray) (pf pl exit:Int) (once:Bool) (hn:n<=9223372036854775807):bB ⟨11,a,b,c,n,args,⟨kk,kn,ks⟩,names,⟨pf,pl⟩,exit,once⟩=bo ⟨11,a,b,c,n,args,⟨kk,kn,ks⟩,names,⟨pf,pl⟩,exit,once⟩:=by
 simp [bB,j7,yA,vS,bz,gh,bo,qJ,p9,oG,nQ,ft,eT,gu,gI,zeroV,eH,cy,cp,ch,bT,bW,dW,dR]
 try (rw [eB]; grind)
theorem X3 (a b c n:Int) (args:Sq Int) (kk kn:Int) (ks:ByteArray) (names:Sq ByteArray) (pf pl exit:Int) (once:Bool) (hn:n<=9223372036854775807):bB ⟨12,a,b,c,n,args,⟨kk,kn,ks⟩,names,⟨pf,pl⟩,exit,once⟩=bo ⟨12,a,b,c,n,args,⟨kk,kn,ks⟩,names,⟨pf,pl⟩,exit,once⟩:=by
 simp [bB,j7,yA,vS,bz,gh,bo,qJ,p9,oG,nQ,ft,eT,gu,gI,zeroV,eH,cy,cp,ch,bT,bW,dW,dR]
 try (rw [eB]; grind)
theorem ZS (a b c n:Int) (args:Sq Int) (kk kn:Int) (ks:ByteArray) (names:Sq ByteArray) (pf pl exit:Int) (once:Bool) (hn:n<=9223372036854775807):bB ⟨13,a,b,c,n,args,⟨kk,kn,ks⟩,names,⟨pf,pl⟩,exit,once⟩=bo ⟨13,a,b,c,n,args,⟨kk,kn,ks⟩,names,⟨pf,pl⟩,exit,once⟩:=by
 simp [bB,j7,yA,vS,bz,gh,bo,qJ,p9,oG,nQ,ft,eT,gu,gI,zeroV,eH,cy,cp,ch,bT,bW,dW,dR]
 try (rw [eB]; grind)
theorem Z3 (a b c n:Int) (args:Sq Int) (kk kn:Int) (ks:ByteArray) (names:Sq ByteArray) (pf pl exit:Int) (once:Bool) (hn:n<=9223372036854775807):bB ⟨14,a,b,c,n,args,⟨kk,kn,ks⟩,names,⟨pf,pl⟩,exit,once⟩=bo ⟨14,a,b,c,n,args,⟨kk,kn,ks⟩,names,⟨pf,pl⟩,exit,once⟩:=by
 simp [bB,j7,yA,vS,bz,gh,bo,qJ,p9,oG,nQ,ft,eT,gu,gI,zeroV,eH,cy,cp,ch,bT,bW,dW,dR]
 try (rw [eB]; grind)
theorem Yt (a b c n:Int) (args:Sq Int) (kk kn:Int) (ks:ByteArray) (names:Sq ByteArray) (pf pl exit:Int) (once:Bool) (hn:n<=9223372036854775807):bB ⟨15,a,b,c,n,args,⟨kk,kn,ks⟩,names,⟨pf,pl⟩,exit,once⟩=bo ⟨15,a,b,c,n,args,⟨kk,kn,ks⟩,names,⟨pf,pl⟩,exit,once⟩:=by
 simp [bB,j7,yA,vS,bz,gh,bo,qJ,p9,oG,nQ,ft,eT,gu,gI,zeroV,eH,cy,cp,ch,bT,bW,dW,dR]
 try (rw [eB]; grind)
theorem Zs (a b c n:Int) (args:Sq Int) (kk kn:Int) (ks:ByteArray) (names:Sq ByteArray) (pf pl exit:Int) (once:Bool) (hn:n<=9223372036854775807):bB ⟨16,a,b,c,n,args,⟨kk,kn,ks⟩,names,⟨pf,pl⟩,exit,once⟩=bo ⟨16,a,b,c,n,args,⟨kk,kn,ks⟩,names,⟨pf,pl⟩,exit,once⟩:=by
 cases h1:decide (n≥0)<;>simp only [decide_eq_true_eq,decide_eq_false_iff_not] at h1
 all_goals
  simp [bB,j7,yA,vS,bz,gh,bo,qJ,p9,oG,nQ,ft,eT,gu,gI,zeroV,eH,cy,cp,h1,ch,bT,bW,dW,dR]
 all_goals try (rw [eB]; grind)
theorem Ye (a b c n:Int) (args:Sq Int) (kk kn:Int) (ks:ByteArray) (names:Sq ByteArray) (pf pl exit:Int) (once:Bool) (hn:n<=9223372036854775807):bB ⟨17,a,b,c,n,args,⟨kk,kn,ks⟩,names,⟨pf,pl⟩,exit,once⟩=bo ⟨17,a,b,c,n,args,⟨kk,kn,ks⟩,names,⟨pf,pl⟩,exit,once⟩:=by
 cases h1:decide (n≥0)<;>simp only [decide_eq_true_eq,decide_eq_false_iff_not] at h1
 all_goals
  simp [bB,j7,yA,vS,bz,gh,bo,qJ,p9,oG,nQ,ft,eT,gu,gI,zeroV,eH,cy,cp,h1,ch,bT,bW,dW,dR]
 all_goals try (rw [eB]; grind)
theorem Xp (a b c n:Int) (args:Sq Int) (kk kn:Int) (ks:ByteArray) (names:Sq ByteArray) (pf pl exit:Int) (once:Bool) (hn:n<=9223372036854775807):bB ⟨18,a,b,c,n,args,⟨kk,kn,ks⟩,names,⟨pf,pl⟩,exit,once⟩=bo ⟨18,a,b,c,n,args,⟨kk,kn,ks⟩,names,⟨pf,pl⟩,exit,once⟩:=by
 simp [bB,j7,yA,vS,bz,gh,bo,qJ,p9,oG,nQ,ft,eT,gu,gI,zeroV,eH,cy,cp,ch,bT,bW,dW,dR]
 try (rw [eB]; grind)
theorem Y3 (a b c n:Int) (args:Sq Int) (kk kn:Int) (ks:ByteArray) (names:Sq ByteArray) (pf pl exit:Int) (once:Bool) (hn:n<=9223372036854775807):bB ⟨19,a,b,c,n,args,⟨kk,kn,ks⟩,names,⟨pf,pl⟩,exit,once⟩=bo ⟨19,a,b,c,n,args,⟨kk,kn,ks⟩,names,⟨pf,pl⟩,exit,once⟩:=by
 cases h1:decide (pf≥0)<;>simp only [decide_eq_true_eq,decide_eq_false_iff_not] at h1
 all_goals
  simp [bB,j7,yA,vS,bz,gh,bo,qJ,p9,oG,nQ,ft,eT,gu,gI,zeroV,eH,cy,cp,h1,ch,bT,bW,dW,dR]
 all_goals try (rw [eB]; grind)
theorem Y2 (a b c n:Int) (args:Sq Int) (kk kn:Int) (ks:ByteArray) (names:Sq ByteArray) (pf pl exit:Int) (once:Bool) (hn:n<=9223372036854775807):bB ⟨20,a,b,c,n,args,⟨kk,kn,ks⟩,names,⟨pf,pl⟩,exit,once⟩=bo ⟨20,a,b,c,n,args,⟨kk,kn,ks⟩,names,⟨pf,pl⟩,exit,once⟩:=by
 simp [bB,j7,yA,vS,bz,gh,bo,qJ,p9,oG,nQ,ft,eT,gu,gI,zeroV,eH,cy,cp,ch,bT,bW,dW,dR]
 try (rw [eB]; grind)
theorem Zb (a b c n:Int) (args:Sq Int) (kk kn:Int) (ks:ByteArray) (names:Sq ByteArray) (pf pl exit:Int) (once:Bool) (hn:n<=9223372036854775807):bB ⟨21,a,b,c,n,args,⟨kk,kn,ks⟩,names,⟨pf,pl⟩,exit,once⟩=bo ⟨21,a,b,c,n,args,⟨kk,kn,ks⟩,names,⟨pf,pl⟩,exit,once⟩:=by
 simp [bB,j7,yA,vS,bz,gh,bo,qJ,p9,oG,nQ,ft,eT,gu,gI,zeroV,eH,cy,cp,ch,bT,bW,dW,dR]
 try (rw [eB]; grind)
open Go Go.V
theorem RW (x:aj) (hn:x.n<=9223372036854775807):bB x=bo x:=by
 obtain ⟨op,a,b,c,n,args,⟨kk,kn,ks⟩,names,⟨pf,pl⟩,exit,once⟩:=x
 by_cases h:0<=op/\op<=21
 .have:op=0∨op=1∨op=2∨op=3∨op=4∨op=5∨op=6∨op=7∨op=8∨op=9∨op=10∨op=11∨op=12∨op=13∨op=14∨op=15∨op=16∨op=17∨op=18∨op=19∨op=20∨op=21:=by omega
  rcases this with rfl|rfl|rfl|rfl|rfl|rfl|rfl|rfl|rfl|rfl|rfl|rfl|rfl|rfl|rfl|rfl|rfl|rfl|rfl|rfl|rfl|rfl
  .exact ar0 a b c n args kk kn ks names pf pl exit once hn
  .exact ak3 a b c n args kk kn ks names pf pl exit once hn
  .exact av2 a b c n args kk kn ks names pf pl exit once hn
  .exact af2 a b c n args kk kn ks names pf pl exit once hn
  .exact ao8 a b c n args kk kn ks names pf pl exit once hn
  .exact ar5 a b c n args kk kn ks names pf pl exit once hn
  .exact ac2 a b c n args kk kn ks names pf pl exit once hn
  .exact ao0 a b c n args kk kn ks names pf pl exit once hn
  .exact al4 a b c n args kk kn ks names pf pl exit once hn
  .exact ap7 a b c n args kk kn ks names pf pl exit once hn
  .exact XD a b c n args kk kn ks names pf pl exit once hn
  .exact Zt a b c n args kk kn ks names pf pl exit once hn
  .exact X3 a b c n args kk kn ks names pf pl exit once hn
  .exact ZS a b c n args kk kn ks names pf pl exit once hn
  .exact Z3 a b c n args kk kn ks names pf pl exit once hn
  .exact Yt a b c n args kk kn ks names pf pl exit once hn
  .exact Zs a b c n args kk kn ks names pf pl exit once hn
  .exact Ye a b c n args kk kn ks names pf pl exit once hn
  .exact Xp a b c n args kk kn ks names pf pl exit once hn
  .exact Y3 a b c n args kk kn ks names pf pl exit once hn
  .exact Y2 a b c n args kk kn ks names pf pl exit once hn
  .exact Zb a b c n args kk kn ks names pf pl exit once hn
 .have h1:gI op 0 21=false:=by
   unfold gI
   cases h2:decide (op≥0) with
   | false=>rfl
   | true=>
     have h2:=of_decide_eq_true h2
     exact decide_eq_false λh3=>h ⟨h2,h3⟩
  have h2:(decide (op<0)||decide (op>21))=true:=by
   rw [Bool.or_eq_true,decide_eq_true_eq,decide_eq_true_eq]
   omega
  have h3:bB ⟨op,a,b,c,n,args,⟨kk,kn,ks⟩,names,⟨pf,pl⟩,exit,once⟩=false:=by
   unfold bB j7
   rw [show gI (aj.mk op a b c n args ⟨kk,kn,ks⟩ names ⟨pf,pl⟩ exit once).op 0 21=false from h1,Bool.false_and,Bool.and_false]
  have h4:bo ⟨op,a,b,c,n,args,⟨kk,kn,ks⟩,names,⟨pf,pl⟩,exit,once⟩=false:=by
   unfold bo qJ
   show (!(decide (op<0)||(decide (op>21)||_))&&_)=false
   rw [<- Bool.or_assoc,h2,Bool.true_or]
   rfl
  rw [h3,h4]
theorem Yg (op:Int):(MD op==0) = !sU op:=by
 by_cases h:0<=op/\op<=21
 .have:op=0∨op=1∨op=2∨op=3∨op=4∨op=5∨op=6∨op=7∨op=8∨op=9∨op=10∨op=11∨op=12∨op=13∨op=14∨op=15∨op=16∨op=17∨op=18∨op=19∨op=20∨op=21:=by omega
  rcases this with rfl|rfl|rfl|rfl|rfl|rfl|rfl|rfl|rfl|rfl|rfl|rfl|rfl|rfl|rfl|rfl|rfl|rfl|rfl|rfl|rfl|rfl<;>rfl
 .have e:∀ c:Int,0<=c->c<=21->(op==c)=false:=λc h1 h2=>by
   simp only [beq_eq_false_iff_ne]; omega
  simp [MD,sU,eD,e]
theorem UM (op:Int):(MD op==2)=eD op [5,6,7,8,9,15,18,21]:=by
 by_cases h:0<=op/\op<=21
 .have:op=0∨op=1∨op=2∨op=3∨op=4∨op=5∨op=6∨op=7∨op=8∨op=9∨op=10∨op=11∨op=12∨op=13∨op=14∨op=15∨op=16∨op=17∨op=18∨op=19∨op=20∨op=21:=by omega
  rcases this with rfl|rfl|rfl|rfl|rfl|rfl|rfl|rfl|rfl|rfl|rfl|rfl|rfl|rfl|rfl|rfl|rfl|rfl|rfl|rfl|rfl|rfl<;>rfl
 .have e:∀ c:Int,0<=c->c<=21->(op==c)=false:=λc h1 h2=>by
   simp only [beq_eq_false_iff_ne]; omega
  simp [MD,eD,e]
theorem XO (op:Int):m80 op=eD op [2,3,4,5,6,7,8,9,10,12,14]:=by
 simp [m80,eD]
theorem ZM (t:ae) (k:Nat) (hn:(t.ins.get k).n<=9223372036854775807):(a6 t k&&(a12 t k&&(MP t k&&a20 t k)))=(b3 t k&&(b7 t k&&(b9 t k&&(Nv t k&&MP t k)))):=by
 unfold a6 a12 a20 b3 b7 b9 Nv
 rw [RW _ hn,Yg,UM,XO]
 generalize (xM (t.ins.get k)!=((k:Int)==(t.ins.n:Int)-1))=q1
 generalize ((t.ins.get k).op==1)=q2
 generalize decide ((k:Int)≥(nG t.ins:Int))=q3
 generalize bo (t.ins.get k)=q4
 generalize (decide ((k:Int)>0)&&decide ((t.ins.get k).k.n<=(t.ins.get (k-1)).k.n))=q5
 generalize (!((t.ins.get k).op==20&&(((t.ins.get k).args.n:Int)!=(nG t.ins:Int))))=q6
 generalize MP t k=q7
 generalize (!((t.ins.get k).once && !eD (t.ins.get k).op [2,3,4,5,6,7,8,9,10,12,14]))=q8
 generalize (!decide ((t.ins.get k).exit < -1)&&(!decide ((t.ins.get k).exit≥(t.aa.n:Int))&&(!(decide ((t.ins.get k).exit≥0) && !sU (t.ins.get k).op) && !(decide ((t.ins.get k).exit<0)&&eD (t.ins.get k).op [5,6,7,8,9,15,18,21]))))=q9
 revert q1 q2 q3 q4 q5 q6 q7 q8 q9
 decide
theorem Yw (t:ae) (l:List Int) (k:Nat) (hn:(t.ins.get k).n<=9223372036854775807) (hl:∀ i:Nat,dX (i:Int) l=nM t k i):(o3 t l k).1=uD t k/\((o3 t l k).1=true->∀ i:Nat,dX (i:Int) (o3 t l k).2=nM t (k+1) i):=by
 have e1:uD t k=((a6 t k&&(a12 t k&&(MP t k&&a20 t k)))&&a22 t k):=by
  unfold uD
  generalize a6 t k=q1
  generalize a12 t k=q2
  generalize MP t k=q3
  generalize a20 t k=q4
  generalize a22 t k=q5
  revert q1 q2 q3 q4 q5
  decide
 have e2:o3 t l k=bif (b3 t k&&(b7 t k&&(b9 t k&&(Nv t k&&MP t k)))) then Qv t l k else (false,l):=by
  unfold o3 o7 o9 MH o13
  cases b3 t k<;>cases b7 t k<;>cases b9 t k<;>cases Nv t k<;>cases MP t k<;>rfl
 rw [e1,e2,ZM t k hn]
 cases hp:(b3 t k&&(b7 t k&&(b9 t k&&(Nv t k&&MP t k)))) with
 | false=>exact ⟨rfl,λh=>by cases h⟩
 | true=>
   simp only [cond_true,Bool.true_and]
   unfold Qv a22
   cases h0:decide ((t.ins.get k).exit<0) with
   | true=>
     have h1:=of_decide_eq_true h0
     have h2:decide ((t.ins.get k).exit≥0)=false:=decide_eq_false (by omega)
     rw [h2]
     refine ⟨rfl,λ_ i=>?_⟩
     simp only [cond_true]
     rw [vB,hl,show ((t.ins.get k).exit==(i:Int))=false from by simp only [beq_eq_false_iff_ne]; omega,Bool.or_false]
   | false=>
     have h1:=of_decide_eq_false h0
     have h2:decide ((t.ins.get k).exit≥0)=true:=decide_eq_true (by omega)
     rw [h2]
     obtain ⟨m,hm⟩:=Int.eq_ofNat_of_zero_le (show 0<=(t.ins.get k).exit by omega)
     simp only [cond_false,Bool.not_true,Bool.false_or]
     rw [hm,hl,Int.toNat_natCast]
     cases ht:nM t k m with
     | true=>exact ⟨rfl,λh=>by cases h⟩
     | false=>
       simp only [cond_false,Bool.not_false,Bool.true_and]
       refine ⟨(YH t _ _).symm,λ_ i=>?_⟩
       rw [Au,hl,vB,hm,int_eq,int_eq]
       congr 1
       rw [eB,beq_iff_eq,beq_iff_eq]
       exact eq_comm
theorem Jv (t:ae) (hn:∀ k,k<t.ins.n->(t.ins.get k).n<=9223372036854775807):∀ (m k:Nat) (l:List Int),k+m<=t.ins.n->(∀ i:Nat,dX (i:Int) l=nM t k i)->wV t m k l=cn (uD t) m k
 | 0,k,l,_,_=>rfl
 | m+1,k,l,hk,hl=>by
   obtain ⟨h1,h2⟩:=Yw t l k (hn k (by omega)) hl
   show (bif (o3 t l k).1 then wV t m (k+1) (o3 t l k).2 else false)=(bif uD t k then cn (uD t) m (k+1) else false)
   rw [<- h1]
   cases h:(o3 t l k).1 with
   | false=>rfl
   | true=>exact Jv t hn m (k+1) _ (by omega) (h2 h)
theorem Od (t:ae) (hn:∀ k,k<t.ins.n->(t.ins.get k).n<=9223372036854775807):bH t=tL t:=by
 unfold bH tL Eu
 rw [Jv t hn t.ins.n 0 [] (by omega) (λi=>by simp [dX,nM,dh,cn])]
 rfl
theorem LS {t:ae} {k:Nat} (h:uD t k=true):∀ j,j<(bz (t.ins.get k)).n->e6 t ((bz (t.ins.get k)).get j) k=true:=by
 intro j hj
 unfold uD MP at h
 simp only [dJ] at h
 have:=jN.1 h.2.2.1 j hj
 unfold u16 at this
 simp only [dJ] at this
 exact this.1
theorem Yx {t:ae} (h:∀ k,k<t.ins.n->uD t k=true):oq t:=by
 have key:∀ k,k<t.ins.n->∀ j,j<(bz (t.ins.get k)).n->cM ((bz (t.ins.get k)).get j) t.ins.n=true:=λk hk j hj=>
  wq (LS (h k hk) j hj) (by omega)
 have ops:∀ op:Int,kH op=true->op=10∨op=12∨op=11∨op=13:=λop ho=>by
  simp [kH,jh,ea] at ho
  omega
 refine ⟨λk hk ho=>?_,λk hk ho hb=>?_⟩
 .have:=key k hk 0
  rcases ops _ ho with e|e|e|e<;>· simp [bz,gh,e] at this; exact this
 .have:=key k hk 1
  rcases ops _ ho with e|e|e|e
  .simp [hJ,e] at hb
  .simp [bz,gh,e] at this; exact this
  .simp [hJ,e] at hb
  .simp [bz,gh,e] at this; exact this
theorem Ay {t:ae} (h:tL t=0):∀ k,k<t.ins.n->uD t k=true:=by
 unfold tL at h
 have hb:Eu t=true:=by
  revert h
  cases decide ((t.ins.n:Int)>200)<;>cases decide ((t.aa.n:Int)>60)<;>cases Eu t<;>simp
 unfold Eu at hb
 rw [dJ] at hb
 exact jN.1 hb.2
theorem MC {t:ae} (h:tL t=0):oq t:=Yx (Ay h)
open Go Go.V
theorem eP.of {n:Nat}:∀ {l:List ag},(∀ x∈l,jd n x)->eP n l
 | [],_=>trivial
 | x::l,h=>⟨h x (eI ..),eP.of λy hy=>h y (eV _ hy)⟩
theorem bP.low {f:FuncId} (hf:Fn f) {ds:List D} {rs aJ:List ag} {d:D} (h:eP rs.length rs->LC f ds rs d aJ):LC f ds rs d aJ:=
 ⟨hf.enters,λN ay w0 sp sl df a w E vs hR hv=>(h (eP.of λx hx=>by
  obtain ⟨q,hq⟩:=List.mem_iff_getElem?.1 hx
  have dB:q<rs.length:=(List.getElem?_eq_some_iff.1 hq).1
  have hE:E.length=rs.length:=hR.len
  have:=aP.low (hR.roots q x _ hq (eK (by omega)))
  rwa [hE] at this)).out.2 N ay w0 sp sl df a w E vs hR hv⟩
open Go Go.V
theorem cV {f:FuncId} (hf:Fn f) {ds:List D} {rs:List ag} {d:D} {aJ:List ag} (hl:ds.length<=(wv f).ntmps) (h:af f rs.length (Go.V.b8 rs d aJ) [.code (oo f)] ⟨dk 0 ds,rs,[]⟩):LC f ds rs d aJ:=by
 obtain ⟨h1,h2⟩:=A4 f _ hf.my
 exact OS qi h1 h2 hf.body hl h
theorem af.BR {f:FuncId} {n0:Nat} {Q:D->List ag->Prop} {todo:List Item} {s:VS} (r j q m el sz n:Nat) (get:Nat->Nat->I) (l:List C) (hr:aV s.rs r=some (.box l)) (hj:aV l j=some (.sa q m)) (hq:aV s.rs q=some (.arr el sz n get)) (g:af f n0 Q todo (Kr r j q m el sz n get l s)):af f n0 Q todo s:=
 λb cs hb=>Goal.BR hr hj hq (g b cs hb)
theorem eY {α:Type} {l:List α} {i:Nat} {x:α} (h:aV l i=some x):i<l.length:=by
 rw [bV] at h
 exact (List.getElem?_eq_some_iff.1 h).1
open Go Go.V
def nx (l:Sq Int) (p:Nat) (n:Int):Int×Nat:=bif decide ((p:Int)≥(l.n:Int)) then (0,p) else bif decide (n<1) then (0,p) else (dY (l.get p) n,p+1)
def aA (l:Sq Int) (p:Nat):ag:=.box [.im (zK 1 bA l),.im (iI p)]
def bf (m i ni j ne:Nat) (fuel param:Int):ag:=.box [.rt m 0 0,.im (iI 0),.im (iI 0),.sa i ni,.sa j ne,.im (iI fuel),.im (iI param)]
def aH (s:Sq aj):ag:=.arr 56 14 s.n (λi=>fT (s.get i))
def bZ (s:Sq ah):ag:=.arr 72 3 s.n (λi=>dw (s.get i))
def W33 (l:Sq Int) (ds:List D):Rd:=match ds with
 | [.c (.rt m _ _),.c (.im (.v (.int .i64 n)))]=>.get m λx=>match x with
   | .box [y,.im (.v (.int .i64 q))]=>.ret (int (nx l q.toNat n).1,m,.box [y,.im (iI (nx l q.toNat n).2)])
   | _=>.no
 | _=>.no
def XNx:fN:={ F:=vh }
def XN (l:Sq Int):fN:={ F:=vh,W:=λf ds=>W33 l ds }
def sR (ins:Sq aj):Nat->Nat->Sq Int->Sq Int
 | 0,_,h=>h
 | m+1,k,h=>bif vT (ins.get k).op then sR ins m (k+1) (ek h ⟨1,λ_=>(k:Int)⟩) else sR ins m (k+1) h
def LV (l:Sq Int) (p:Nat) (h:Sq Int):Int×Nat:=(h.get (h.n-1-(nx l p (min 3 h.n)).1.toNat),(nx l p (min 3 h.n)).2)
def LL (l:Sq Int) (p:Nat) (h:Sq Int):Int×Nat:=(h.get (nx l p h.n).1.toNat,(nx l p h.n).2)
def WX (l:Sq Int) (p:Nat) (h:Sq Int):Int×Nat:=bif (nx l p 2).1==0 then LV l (nx l p 2).2 h else LL l (nx l p 2).2 h
def Ul (l:Sq Int) (p:Nat) (h:Sq Int):Int×Nat:=bif (h.n:Int)==0 then (-1,p) else WX l p h
def vl (l:Sq Int) (p:Nat) (ins:Sq aj):Int×Nat:=Ul l p (sR ins ins.n 0 (bc 0))
theorem DS (h:Sq Int) (k:Int):aO (.arr 3 1 (h.n+1) (gA h.n (λi=>bA (h.get i)) (flat 1 [I.v (Value.int IntKind.i64 k)]))) (.arr 3 1 (ek h ⟨1,λ_=>k⟩).n λi=>bA ((ek h ⟨1,λ_=>k⟩).get i)):=by
 rw [<- JB h ⟨1,λ_=>k⟩ bA]
 refine aO.arr λi hi j hj=>?_
 have hj:j=0:=by omega
 subst hj
 show cH (Bool.rec (flat 1 [I.v (Value.int IntKind.i64 k)] (i-h.n) 0) (bA (h.get i) 0) (Nat.blt i h.n):I) (Bool.rec (bA k 0) (bA (h.get i) 0) (Nat.blt i h.n):I)
 cases hb:Nat.blt i h.n with
 | true=>exact cH.refl _
 | false=>
   have:i-h.n=0:=by
    have:¬ i<h.n:=λq=>by rw [dP q] at hb; cases hb
    omega
   rw [this]
   exact cH.refl _
theorem Kw {l:Sq Int} {p:Nat} {n:Int} (h1:1<=n) (h2:n<=4611686018427387904):0<=(nx l p n).1/\(nx l p n).1<n:=by
 unfold nx
 cases decide ((p:Int)≥(l.n:Int)) with
 | true=>exact ⟨by simp,by simp only [cond_true]; omega⟩
 | false=>
   rw [show decide (n<1)=false from decide_eq_false (by omega)]
   simp only [cond_false]
   unfold dY
   have a1:=Int.tmod_lt_of_pos (l.get p) (show 0<n by omega)
   have a2:=Int.lt_tmod_of_pos (l.get p) (show 0<n by omega)
   cases h3:decide ((l.get p).tmod n<0) with
   | true=>
     have h3:=of_decide_eq_true h3
     simp only [cond_true]
     rw [iV (by omega) (by omega)]
     omega
   | false=>
     have h3:=of_decide_eq_false h3
     simp only [cond_false]
     omega
theorem mi {l:Sq Int} {p:Nat} {n:Int} (h1:1<=n) (h2:n<=4611686018427387904):∃ d:Nat,(nx l p n).1=(d:Int)/\(d:Int)<n:=by
 obtain ⟨a,b⟩:=Kw (l:=l) (p:=p) h1 h2
 obtain ⟨d,hd⟩:=Int.eq_ofNat_of_zero_le a
 exact ⟨d,hd,by omega⟩
def ac0:Nat->Bool:=cE
theorem aB2:Fn 13:={}
theorem aG2 (L:LP) (QE:D->List ag->Prop) (l:Sq Int) (p:Nat) (n:Int) (h:br (decide ((↑p:Int)≥(↑l.1:Int))) (QE (int 0) [(aA l p)]) (br (decide (n<1)) (QE (int 0) [(aA l p)]) (nd (cM (IntKind.i64.wrap (IntKind.i64.wrap ((↑p:Int)+1)-1)) l.1) ((LC 23 [(int (l.2 (IntKind.i64.wrap (IntKind.i64.wrap ((↑p:Int)+1)-1)).toNat)),(int n)] [] (int (dY (l.2 (IntKind.i64.wrap (IntKind.i64.wrap ((↑p:Int)+1)-1)).toNat) n)) []/\QE (int (dY (l.2 (IntKind.i64.wrap (IntKind.i64.wrap ((↑p:Int)+1)-1)).toNat) n)) [(.box [(.im (.sl 1 l.1 (λi=>bA (l.2 i)))),(ci (IntKind.i64.wrap ((↑p:Int)+1)))]),.dead]))))):fx XNx 13 ac0 L QE [.c (.rt 0 0 0),int n] [aA l p]:=km h
theorem ar1 (l:Sq Int) (p:Nat) (n:Int) (hl:l.n<=maxLen):LC 13 [.c (.rt 0 0 0),int n] [aA l p] (int (nx l p n).1) [aA l (nx l p n).2]:=by
 refine gZ aB2 (aQ (by kernel_rfl)) (dc (X:=XNx) (stop:=ac0) (aG2 _ _ l p n ?_))
 refine aq (λh1=>?_) (λh1=>aq (λh2=>?_) (λh2=>?_))
 .rw [show nx l p n=(0,p) from by simp only [nx,show decide ((p:Int)≥(l.n:Int))=true from h1,cond_true]]
  exact ⟨1,aQ rfl,aQ rfl,rfl,rfl,bh.refl _,⟨.inr rfl,bC _ _⟩⟩
 .rw [show nx l p n=(0,p) from by simp only [nx,show decide ((p:Int)≥(l.n:Int))=false from h1,show decide (n<1)=true from h2,cond_true,cond_false]]
  exact ⟨1,aQ rfl,aQ rfl,rfl,rfl,bh.refl _,⟨.inr rfl,bC _ _⟩⟩
 .have g1:=of_decide_eq_false h1
  have g2:=of_decide_eq_false h2
  have hp:p<l.n:=by omega
  rw [dr hp hl,show ((p+1:Nat):Int)-1=(p:Int) by omega,mC (by unfold maxLen at hl; omega)]
  refine aC (a8 hp) ⟨jP _ _ (by omega),?_⟩
  rw [show nx l p n=(dY (l.get p) n,p+1) from by simp only [nx,show decide ((p:Int)≥(l.n:Int))=false from h1,show decide (n<1)=false from h2,cond_false]]
  exact ⟨1,aQ rfl,aQ rfl,rfl,rfl,bh.refl _,⟨.inr rfl,bC _ _⟩⟩
theorem eQ (l:Sq Int) (p:Nat) (n:Int) {m:Nat} {RS:List ag} (hl:l.n<=maxLen) (h:aV RS m=some (aA l p)):WC 13 [.c (.rt m 0 0),int n] RS (int (nx l p n).1) m (aA l (nx l p n).2):=
 xc.jS (i:=0) (rs:=[aA l p]) (y:=aA l (nx l p n).2) (ar1 l p n hl) [m] RS rfl ⟨h,eY h,rfl⟩ rfl ⟨_,rfl,trivial⟩
open Go Go.V
def tM:Nat->Bool:=λi=>Nat.beq i 3||Nat.beq i 7||Nat.beq i 9||Nat.beq i 10||Nat.beq i 11
theorem aA4:Fn 17:={}
abbrev ei:fp:=(0,((.c (.rt 1 0 0)),[]))
abbrev yp:fp:=(4,((int 0),[]))
theorem aL0 (L:LP) (QE:D->List ag->Prop) (l:Sq Int) (p:Nat) (ins:Sq aj) (ne:Nat) (fuel param:Int) (h:L (ai 17 3) ⟨[ei,(3,((.c fi),[])),yp],[(aA l p),(bf 0 2 ins.1 3 ne fuel param),(aH ins),.dead],[]⟩):fx (XN l) 17 tM L QE [.c (.rt 1 0 0)] [aA l p,bf 0 2 ins.n 3 ne fuel param,aH ins,.dead]:=km h
abbrev rq:fp:=(0,(.c (.rt 1 0 0)),[])
abbrev Hr (aw:Sq Int) (aG:Nat) (bk:Sq aj) (bN:Nat) (dp fq:Int) (gH:Sq Int):List ag:=[(aA aw aG),(bf 0 2 bk.1 3 bN dp fq),(aH bk),.dead,.arr 3 1 gH.n (λi=>bA (gH.get i))]
def Dg (l:Sq Int) (p:Nat) (ins:Sq aj) (ne:Nat) (fuel param:Int) (hq:Sq Int) (k:Nat):VS:=⟨[rq,(3,.c (.sa 4 hq.n),[]),(4,int k,[])],(Hr l p ins ne fuel param hq),[]⟩
abbrev PE (aw:Sq Int) (aG:Nat):ag:=.arr 3 1 (aw.1+1) (gA aw.1 (λi=>bA (aw.2 i)) (1,flat 1 [I.v (Value.int IntKind.i64 (↑aG:Int))]).snd)
abbrev xD (aw:Sq Int):fp:=(3,((.c (.sa 4 aw.1)),[]))
abbrev iN (aw:Sq Int):ag:=.arr 3 1 aw.1 (λi=>bA (aw.2 i))
abbrev tz (aw:Sq Int) (aG:Nat) (bk:Sq aj) (bN:Nat) (dp fq:Int) (gH:Sq Int):List ag:=[(aA aw aG),(bf 0 2 bk.1 3 bN dp fq),(aH bk),.dead,(iN gH)]
theorem Oa (L:LP) (QE:D->List ag->Prop) (l:Sq Int) (p:Nat) (ins:Sq aj) (ne:Nat) (fuel param:Int) (hq:Sq Int) (k:Nat) (h:br (decide ((↑k:Int)<(↑ins.1:Int))) (nd (cM (↑k:Int) ins.1) (nd (k.blt ins.1) ((LC 30 [(int ((ins.2 k).1))] [] (bool (vT (ins.2 k).1)) []/\br (vT (ins.2 k).1) (nd (b5 (hq.1+1) 8) (nd (hq.1.beq hq.1) (L (ai 17 3) ⟨[ei,(3,((.c (.sa 6 (.succ hq.1))),[])),(4,((int (IntKind.i64.wrap ((↑k:Int)+1))),[]))],[(aA l p),(bf 0 2 ins.1 3 ne fuel param),(aH ins),.dead,.dead,(.row 3 1 1 [(ci (↑k:Int))]),(PE hq k)],[]⟩))) (L (ai 17 3) ⟨[ei,(xD hq),(4,((int (IntKind.i64.wrap ((↑k:Int)+1))),[]))],(tz l p ins ne fuel param hq),[]⟩))))) (L (ai 17 7) ⟨[ei,(xD hq),(4,((int (↑k:Int)),[])),(12,((bool false),[]))],(tz l p ins ne fuel param hq),[]⟩)):cB (XN l) 17 tM L QE 3 (Dg l p ins ne fuel param hq k):=km h
abbrev Di (aw:Sq Int):aK:=[rq,(3,.c (.sa 4 aw.n),[])]
def Hf (l:Sq Int) (p:Nat) (ins:Sq aj) (ne:Nat) (fuel param:Int) (hq:Sq Int):VS:=⟨(Di hq),(Hr l p ins ne fuel param hq),[]⟩
theorem Zp (L:LP) (QE:D->List ag->Prop) (l:Sq Int) (p:Nat) (ins:Sq aj) (ne:Nat) (fuel param:Int) (hq:Sq Int) (h:br ((↑hq.1:Int)==0) (QE (int (-1)) [(aA l p),(bf 0 2 ins.1 3 ne fuel param),(aH ins),.dead,(.arr 3 1 hq.1 (λi=>bA (hq.2 i)))]) (L (ai 17 9) ⟨[ei,(xD hq),(31,((bool false),[]))],(tz l p ins ne fuel param hq),[]⟩)):cB (XN l) 17 tM L QE 7 (Hf l p ins ne fuel param hq):=km h
def I3 (l:Sq Int) (p:Nat) (ins:Sq aj) (ne:Nat) (fuel param:Int) (hq:Sq Int):VS:=⟨(Di hq),(Hr l p ins ne fuel param hq),[]⟩
abbrev j3:List D:=[(.c (.rt 0 0 0)),(int 2)]
abbrev mh (aw:Sq Int) (aG:Nat):D:=int ((nx aw aG 2).1)
abbrev gg (aw:Sq Int) (aG:Nat):ag:=aA aw ((nx aw aG 2).2)
theorem YK (L:LP) (QE:D->List ag->Prop) (l:Sq Int) (p:Nat) (ins:Sq aj) (ne:Nat) (fuel param:Int) (hq:Sq Int) (h:(WC 13 j3 (tz l p ins ne fuel param hq) (mh l p) 0 (aA l ((nx l p 2).2))/\br ((nx l p 2).1==0) (L (ai 17 10) ⟨[ei,(xD hq),(37,((bool true),[]))],[(gg l p),(bf 0 2 ins.1 3 ne fuel param),(aH ins),.dead,(iN hq)],[]⟩) (L (ai 17 11) ⟨[ei,(xD hq),(37,((bool false),[]))],[(gg l p),(bf 0 2 ins.1 3 ne fuel param),(aH ins),.dead,(iN hq)],[]⟩))):cB (XN l) 17 tM L QE 9 (I3 l p ins ne fuel param hq):=km h
def Bm (l:Sq Int) (p:Nat) (ins:Sq aj) (ne:Nat) (fuel param:Int) (hq:Sq Int):VS:=⟨(Di hq),[aA l p,(bf 0 2 ins.1 3 ne fuel param),(aH ins),.dead,.arr 3 1 hq.n (λi=>bA (hq.get i))],[]⟩
theorem VI (L:LP) (QE:D->List ag->Prop) (l:Sq Int) (p:Nat) (ins:Sq aj) (ne:Nat) (fuel param:Int) (hq:Sq Int) (h:(WC 13 [(.c (.rt 0 0 0)),(int (if (↑hq.1:Int)<3 then (↑hq.1:Int) else 3))] (tz l p ins ne fuel param hq) (int ((nx l p (if (↑hq.1:Int)<3 then (↑hq.1:Int) else 3)).1)) 0 (aA l ((nx l p (if (↑hq.1:Int)<3 then (↑hq.1:Int) else 3)).2))/\nd (cM (IntKind.i64.wrap (IntKind.i64.wrap ((↑hq.1:Int)-1)-(nx l p (if (↑hq.1:Int)<3 then (↑hq.1:Int) else 3)).1)) hq.1) (nd ((IntKind.i64.wrap (IntKind.i64.wrap ((↑hq.1:Int)-1)-(nx l p (if (↑hq.1:Int)<3 then (↑hq.1:Int) else 3)).1)).toNat.blt hq.1) (QE (int (hq.2 (IntKind.i64.wrap (IntKind.i64.wrap ((↑hq.1:Int)-1)-(nx l p (if (↑hq.1:Int)<3 then (↑hq.1:Int) else 3)).1)).toNat)) [(aA l ((nx l p (if (↑hq.1:Int)<3 then (↑hq.1:Int) else 3)).2)),(bf 0 2 ins.1 3 ne fuel param),(aH ins),.dead,(.arr 3 1 hq.1 (λi=>bA (hq.2 i)))])))):cB (XN l) 17 tM L QE 10 (Bm l p ins ne fuel param hq):=km h
def Du (l:Sq Int) (p:Nat) (ins:Sq aj) (ne:Nat) (fuel param:Int) (hq:Sq Int):VS:=⟨(Di hq),[aA l p,(bf 0 2 ins.1 3 ne fuel param),(aH ins),.dead,.arr 3 1 hq.n (λi=>bA (hq.get i))],[]⟩
theorem UI (L:LP) (QE:D->List ag->Prop) (l:Sq Int) (p:Nat) (ins:Sq aj) (ne:Nat) (fuel param:Int) (hq:Sq Int) (h:(WC 13 [(.c (.rt 0 0 0)),(qz hq)] (tz l p ins ne fuel param hq) (int ((nx l p (↑hq.1:Int)).1)) 0 (aA l ((nx l p (↑hq.1:Int)).2))/\nd (cM (nx l p (↑hq.1:Int)).1 hq.1) (nd ((nx l p (↑hq.1:Int)).1.toNat.blt hq.1) (QE (int (hq.2 (nx l p (↑hq.1:Int)).1.toNat)) [(aA l ((nx l p (↑hq.1:Int)).2)),(bf 0 2 ins.1 3 ne fuel param),(aH ins),.dead,(.arr 3 1 hq.1 (λi=>bA (hq.2 i)))])))):cB (XN l) 17 tM L QE 11 (Du l p ins ne fuel param hq):=km h
theorem SQ (l:Sq Int) (p:Nat) (ins:Sq aj) (ne:Nat) (fuel param:Int) (p0:Nat) (hl:l.n<=maxLen) (hq:Sq Int) (h1:1<=hq.n) (h2:hq.n<=1000):af 17 4 (Go.V.Ends [aA l p0,bf 0 2 ins.n 3 ne fuel param,aH ins,.dead] (int (LL l p hq).1) [aA l (LL l p hq).2,bf 0 2 ins.n 3 ne fuel param,aH ins,.dead]) (ai 17 11) (Du l p ins ne fuel param hq):=by
 obtain ⟨d,hd,dB⟩:=mi (l:=l) (p:=p) (n:=(hq.n:Int)) (by omega) (by omega)
 refine aF (X:=XN l) (stop:=tM) (UI _ _ l p ins ne fuel param hq ⟨eQ l _ _ hl rfl,?_⟩)
 have e:LL l p hq=(hq.get d,(nx l p (hq.n:Int)).2):=by unfold LL; rw [hd]; rfl
 rw [e]
 show nd (cM (nx l p (hq.n:Int)).1 hq.n) (nd (Nat.blt (nx l p (hq.n:Int)).1.toNat hq.n) _)
 rw [hd]
 exact aC (a8 (by omega)) (aC (dP (by show d<hq.n; omega)) ⟨4,aQ rfl,aQ rfl,rfl,rfl,bh.refl _,⟨.inr rfl,bC _ _⟩⟩)
theorem Tr (l:Sq Int) (p:Nat) (ins:Sq aj) (ne:Nat) (fuel param:Int) (p0:Nat) (hl:l.n<=maxLen) (hq:Sq Int) (h1:1<=hq.n) (h2:hq.n<=1000):af 17 4 (Go.V.Ends [aA l p0,bf 0 2 ins.n 3 ne fuel param,aH ins,.dead] (int (LV l p hq).1) [aA l (LV l p hq).2,bf 0 2 ins.n 3 ne fuel param,aH ins,.dead]) (ai 17 10) (Bm l p ins ne fuel param hq):=by
 obtain ⟨d,hd,dB⟩:=mi (l:=l) (p:=p) (n:=min 3 (hq.n:Int)) (by omega) (by omega)
 refine aF (X:=XN l) (stop:=tM) (VI _ _ l p ins ne fuel param hq ?_)
 rw [show (if (hq.n:Int)<3 then (hq.n:Int) else 3)=min 3 (hq.n:Int) from by split<;>omega]
 refine ⟨eQ l _ _ hl rfl,?_⟩
 have e:LV l p hq=(hq.get (hq.n-1-d),(nx l p (min 3 (hq.n:Int))).2):=by unfold LV; rw [hd]; rfl
 rw [e,hd,iV (k:=(hq.n:Int)-1) (by omega) (by omega),iV (by omega) (by omega),show (hq.n:Int)-1-(d:Int)=((hq.n-1-d:Nat):Int) by omega]
 exact aC (a8 (by omega)) (aC (dP (by show hq.n-1-d<hq.n; omega)) ⟨4,aQ rfl,aQ rfl,rfl,rfl,bh.refl _,⟨.inr rfl,bC _ _⟩⟩)
theorem Zy (l:Sq Int) (p:Nat) (ins:Sq aj) (ne:Nat) (fuel param:Int) (p0:Nat) (hl:l.n<=maxLen) (hq:Sq Int) (h1:1<=hq.n) (h2:hq.n<=1000):af 17 4 (Go.V.Ends [aA l p0,bf 0 2 ins.n 3 ne fuel param,aH ins,.dead] (int (WX l p hq).1) [aA l (WX l p hq).2,bf 0 2 ins.n 3 ne fuel param,aH ins,.dead]) (ai 17 9) (I3 l p ins ne fuel param hq):=by
 refine aF (X:=XN l) (stop:=tM) (YK _ _ l p ins ne fuel param hq ⟨eQ l _ _ hl rfl,?_⟩)
 refine aq (λh3=>?_) (λh3=>?_)
 .rw [show WX l p hq=LV l (nx l p 2).2 hq from by unfold WX; rw [show ((nx l p 2).1==0)=true from h3]; rfl]
  exact af.lr (Bm l (nx l p 2).2 ins ne fuel param hq) (Tr l (nx l p 2).2 ins ne fuel param p0 hl hq h1 h2)
 .rw [show WX l p hq=LL l (nx l p 2).2 hq from by unfold WX; rw [show ((nx l p 2).1==0)=false from h3]; rfl]
  exact af.lr (Du l (nx l p 2).2 ins ne fuel param hq) (SQ l (nx l p 2).2 ins ne fuel param p0 hl hq h1 h2)
theorem ZH (l:Sq Int) (p:Nat) (ins:Sq aj) (ne:Nat) (fuel param:Int) (p0:Nat) (hl:l.n<=maxLen) (hq:Sq Int) (h2:hq.n<=1000):af 17 4 (Go.V.Ends [aA l p0,bf 0 2 ins.n 3 ne fuel param,aH ins,.dead] (int (Ul l p hq).1) [aA l (Ul l p hq).2,bf 0 2 ins.n 3 ne fuel param,aH ins,.dead]) (ai 17 7) (Hf l p ins ne fuel param hq):=by
 refine aF (X:=XN l) (stop:=tM) (Zp _ _ l p ins ne fuel param hq ?_)
 refine aq (λh3=>?_) (λh3=>?_)
 .rw [show Ul l p hq=(-1,p) from by unfold Ul; rw [show ((hq.n:Int)==0)=true from h3]; rfl]
  exact ⟨4,aQ rfl,aQ rfl,rfl,rfl,bh.refl _,⟨.inr rfl,bC _ _⟩⟩
 .have h3:((hq.n:Int)==0)=false:=h3
  rw [show Ul l p hq=WX l p hq from by unfold Ul; rw [h3]; rfl]
  simp only [beq_eq_false_iff_ne] at h3
  exact af.lr (I3 l p ins ne fuel param hq) (Zy l p ins ne fuel param p0 hl hq (by omega) h2)
theorem YD (l:Sq Int) (p:Nat) (ins:Sq aj) (ne:Nat) (fuel param:Int) (p0:Nat) (hl:l.n<=maxLen) (hI:ins.n<=1000) (o:Int×Nat):∀ k,k<=ins.n->∀ hq:Sq Int,hq.n<=k->Ul l p (sR ins (ins.n-k) k hq)=o->af 17 4 (Go.V.Ends [aA l p0,bf 0 2 ins.n 3 ne fuel param,aH ins,.dead] (int (o).1) [aA l (o).2,bf 0 2 ins.n 3 ne fuel param,aH ins,.dead]) (ai 17 3) (Dg l p ins ne fuel param hq k):=by
 refine aU (λk hk ih hq hh ho=>?_) (λhq hh ho=>?_)
 .have q:ins.n-k=(ins.n-(k+1))+1:=by omega
  rw [q] at ho
  refine aF (X:=XN l) (stop:=tM) (Oa _ _ l p ins ne fuel param hq k ?_)
  rw [dr hk (cW hI (by decide))]
  refine aq (λh3=>?_) (λh3=>(dec_lt h3 hk).elim)
  refine aC (a8 hk) (aC (dP hk) ⟨au4 _,aq (λh4=>?_) (λh4=>?_)⟩)
  .have h4:vT (ins.get k).op=true:=h4
   rw [show sR ins (ins.n-(k+1)+1) k hq=sR ins (ins.n-(k+1)) (k+1) (ek hq ⟨1,λ_=>(k:Int)⟩) from by rw [show sR ins (ins.n-(k+1)+1) k hq=(bif vT (ins.get k).op then sR ins (ins.n-(k+1)) (k+1) (ek hq ⟨1,λ_=>(k:Int)⟩) else sR ins (ins.n-(k+1)) (k+1) hq) from rfl,h4]; rfl] at ho
   refine aC (cZ (by omega) (by omega)) (aC (dq _) ?_)
   exact af.rename [0,1,2,3,6] rfl (af.lf (Dg l p ins ne fuel param (ek hq ⟨1,λ_=>(k:Int)⟩) (k+1)) (rc (rc (rc (rc (.cons (DS hq k) .nil))))) (ih _ (by show hq.n+1<=_; omega) ho))
  .have h4:vT (ins.get k).op=false:=h4
   rw [show sR ins (ins.n-(k+1)+1) k hq=sR ins (ins.n-(k+1)) (k+1) hq from by rw [show sR ins (ins.n-(k+1)+1) k hq=(bif vT (ins.get k).op then sR ins (ins.n-(k+1)) (k+1) (ek hq ⟨1,λ_=>(k:Int)⟩) else sR ins (ins.n-(k+1)) (k+1) hq) from rfl,h4]; rfl] at ho
   exact ih hq (by omega) ho
 .rw [Nat.sub_self] at ho
  refine aF (X:=XN l) (stop:=tM) (Oa _ _ l p ins ne fuel param hq _ ?_)
  refine aq (λh3=>bS h3) (λh3=>?_)
  have ho:Ul l p hq=o:=ho
  subst ho
  exact af.lr (Hf l p ins ne fuel param hq) (ZH l p ins ne fuel param p0 hl hq (by omega))
theorem ai9 (l:Sq Int) (p:Nat) (ins:Sq aj) (ne:Nat) (fuel param:Int) (hl:l.n<=maxLen) (hI:ins.n<=1000):LC 17 [.c (.rt 1 0 0)] [aA l p,bf 0 2 ins.n 3 ne fuel param,aH ins,.dead] (int (vl l p ins).1) [aA l (vl l p ins).2,bf 0 2 ins.n 3 ne fuel param,aH ins,.dead]:=by
 refine gZ aA4 (aQ (by kernel_rfl)) (dc (X:=XN l) (stop:=tM) (aL0 _ _ l p ins ne fuel param ?_))
 exact af.KB 3 3 1 rfl (af.lf (Dg l p ins ne fuel param (bc 0) 0) (rc (rc (rc (rc (.cons (ug 3 1 _ _) .nil))))) (YD l p ins ne fuel param p hl hI _ 0 (bu _) (bc 0) (bu _) rfl))
theorem fY (l:Sq Int) (p:Nat) (ins:Sq aj) {ne:Nat} {fuel param:Int} {m q i j:Nat} {RS:List ag} (hl:l.n<=maxLen) (hI:ins.n<=1000:=by omega) (hd:ij [m,q,i,j]=true:=by rfl) (h0:aV RS m=some (aA l p):=by rfl) (h1:aV RS q=some (bf m i ins.n j ne fuel param):=by rfl) (h2:aV RS i=some (aH ins):=by rfl) (h3:j<RS.length:=by exact aQ rfl) :
  WC 17 [.c (.rt q 0 0)] RS (int (vl l p ins).1) m (aA l (vl l p ins).2):=
 xc.jS (i:=0) (rs:=[aA l p,bf 0 2 ins.n 3 ne fuel param,aH ins,.dead]) (y:=aA l (vl l p ins).2) (ai9 l p ins ne fuel param hl hI) [m,q,i,j] RS hd ⟨h0,eY h0,h1,eY h1,h2,eY h2,rfl,h3,rfl⟩ rfl ⟨_,rfl,trivial⟩
open Go Go.V
def cj (s:Sq aj) (x:aj):Sq aj:=ek s ⟨1,λ_=>x⟩
def cq (s:Sq ah) (x:ah):Sq ah:=ek s ⟨1,λ_=>x⟩
theorem ju:(∀ (s:Sq aj) (x:aj),(cj s x).n=s.n+1)/\(∀ (s:Sq ah) (x:ah),(cq s x).n=s.n+1):=⟨λ_ _=>rfl,λ_ _=>rfl⟩
def tF:Out:=(.t [],[],[])
def F34 (sn:Sq aj->aj->Sq aj) (ds:List D) (rs:List ag):Out:=match ds with
 | [.c (.rt q _ _),x]=>match aV rs q with
   | some (.box [m,a,b,.sa i n,e,fu,pa])=>match aV rs i with
     | some (.arr _ _ k get)=>(int (n:Int),[(q,.box [m,a,b,.sa rs.length (sn ⟨k,λj=>j6 (get j)⟩ (j6 (gD x))).n,e,fu,pa]),(i,.dead)],[aH (sn ⟨k,λj=>j6 (get j)⟩ (j6 (gD x)))])
     | _=>tF
   | _=>tF
 | _=>tF
def W37 (l:Sq Int) (ds:List D):Rd:=match ds with
 | [.c (.rt q _ _)]=>.get q λx=>match x with
   | .box [.rt m _ _,_,_,.sa i _,_,_,_]=>.get m λy=>match y with
     | .box [y,.im (.v (.int .i64 p))]=>.get i λz=>match z with
       | .arr _ _ k get=>.ret (int (vl l p.toNat ⟨k,λj=>j6 (get j)⟩).1,m,.box [y,.im (iI (vl l p.toNat ⟨k,λj=>j6 (get j)⟩).2)])
       | _=>.no
     | _=>.no
   | _=>.no
 | _=>.no
def X34:fN:={ F:=vh }
def QF (l:Sq Int):fN:={ F:=vh,W:=λf ds=>match f with
 | 13=>W33 l ds
 | _=>W37 l ds }
theorem cH.sl {sz n:Nat} {get get':Nat->Nat->I} (h:∀ i,i<n->∀ j,j<sz->cH (get i j) (get' i j)):cH (.sl sz n get) (.sl sz n get'):=by
 rintro av w v ⟨a,cap,rfl,h1,h2,h3⟩
 refine ⟨a,cap,rfl,h1,h2,λh0=>?_⟩
 obtain ⟨ad,q1,q2,q3,q4,q5⟩:=h3 h0
 refine ⟨ad,q1,q2,q3,q4,λi hi j hj=>?_⟩
 obtain ⟨x,p1,p2⟩:=q5 i hi j hj
 exact ⟨x,p1,h i hi j hj av w x p2⟩
theorem rY:∀ {l:List I} {j:Nat},j<l.length->iv l j=ixI l j
 | [],j,h=>absurd h (Nat.not_lt_zero _)
 | x::l,0,_=>rfl
 | x::l,j+1,h=>rY (l:=l) (j:=j) (by simpa using h)
theorem wi {α:Type} (el sz:Nat) (s:Sq α) (x:α) (e:α->Nat->I) (is:List I) (h:∀ j,j<sz->cH (iv is j) (e x j)):aO (.arr el sz (s.n+1) (gA s.n (λi=>e (s.get i)) (flat sz is))) (.arr el sz (ek s ⟨1,λ_=>x⟩).n λi=>e ((ek s ⟨1,λ_=>x⟩).get i)):=by
 rw [<- JB s ⟨1,λ_=>x⟩ e]
 refine aO.arr λi hi j hj=>?_
 show cH (Bool.rec (flat sz is (i-s.n) j) (e (s.get i) j) (Nat.blt i s.n):I) (Bool.rec (e x j) (e (s.get i) j) (Nat.blt i s.n):I)
 cases hb:Nat.blt i s.n with
 | true=>exact cH.refl _
 | false=>
   have:i-s.n=0:=by
    have:¬ i<s.n:=λq=>by rw [dP q] at hb; cases hb
    omega
   rw [this]
   show cH (iv is (0*sz+j)) (e x j)
   rw [Nat.zero_mul,Nat.zero_add]
   exact h j hj
theorem Zd (s:Sq aj) (x:aj):aO (.arr 56 14 (s.n+1) (gA s.n (λi=>fT (s.get i)) (flat 14 (aN x)))) (aH (cj s x)):=
 wi 56 14 s x fT (aN x) λj hj=>by rw [rY (l:=aN x) hj]; exact cH.refl _
theorem Yo (s:Sq ah) (x:ah):aO (.arr 72 3 (s.n+1) (gA s.n (λi=>dw (s.get i)) (flat 3 (bn x)))) (bZ (cq s x)):=
 wi 72 3 s x dw (bn x) λj hj=>by rw [rY (l:=bn x) hj]; exact cH.refl _
theorem Ac {n:Nat} (h:n<=1000):IntKind.i64.wrap (((n+1:Nat):Int)-1)=(n:Int):=by
 rw [show ((n+1:Nat):Int)-1=(n:Int) by omega,mC (by omega)]
def W7 (l:Sq Int) (ins:Sq aj):Nat->Nat->Sq Int->Sq Int×Nat
 | 0,p,h=>(h,p)
 | m+1,p,h=>W7 l ins m (vl l p ins).2 (ek h ⟨1,λ_=>(vl l p ins).1⟩)
def fr2 (v:Int):cK:=⟨1,2,⟨2,λi=>bif Nat.beq i 0 then -1 else v⟩⟩
def zV:cG:=⟨0,0,bc ⟨⟨[]⟩⟩,bc 0⟩
def Vu (l:Sq Int) (ins:Sq aj) (fr:cK) (back:Int) (p:Nat):ah×Nat:=
 bif (nx l p 5).1==0 then (⟨ek ⟨1,λ_=>fr⟩ ⟨1,λ_=>fr2 (vl l (nx l p 5).2 ins).1⟩,bc zV,back⟩,(vl l (nx l p 5).2 ins).2) else (⟨⟨1,λ_=>fr⟩,bc zV,back⟩,(nx l p 5).2)
def Z5 (l:Sq Int) (ins:Sq aj) (fuel:Int) (v:Sq Int×Nat):ah×Nat:=Vu l ins ⟨0,0,v.1⟩ (nx l v.2 (fuel+1)).1 (nx l v.2 (fuel+1)).2
def lv (l:Sq Int) (p:Nat) (ins:Sq aj) (fuel:Int) (param:Nat):ah×Nat:=Z5 l ins fuel (W7 l ins param p (bc 0))
def am0:Nat->Bool:=cE
theorem aF1:Fn 14:={}
theorem aI6 (L:LP) (QE:D->List ag->Prop) (ins:Sq aj) (ne:Nat) (fuel param:Int) (x:aj) (h:nd (b5 (ins.1+1) 152) (nd (ins.1.beq ins.1) (nd (b5 (ins.1+1) 152) (nd (ins.1.beq ins.1) (QE (int (IntKind.i64.wrap ((↑(ins.1+1):Int)-1))) [.dead,(bf 0 6 (.succ ins.1) 3 ne fuel param),.dead,.dead,(.box (lift (aN (x)))),(.row 56 14 1 (lift (aN (x)))),(.arr 56 14 (ins.1+1) (gA ins.1 (λi=>fT (ins.2 i)) (1,flat 14 [iI x.1,iI x.2,iI x.3,iI x.4,iI x.5,zK 1 bA x.6,iI x.7.1,iI x.7.2,iS x.7.3,zK 1 cw x.8,iI x.9.1,iI x.9.2,iI x.10,iB x.11]).snd))]))))):fx X34 14 am0 L QE [.c (.rt 1 0 0),gL x] [.dead,bf 0 2 ins.n 3 ne fuel param,aH ins,.dead]:=km h
theorem aq3 (ins:Sq aj) (ne:Nat) (fuel param:Int) (x:aj) (hI:ins.n<=1000):LC 14 [.c (.rt 1 0 0),gL x] [.dead,bf 0 2 ins.n 3 ne fuel param,aH ins,.dead] (int ins.n) [.dead,bf 0 4 (cj ins x).n 3 ne fuel param,.dead,.dead,aH (cj ins x)]:=by
 refine cV aF1 (aQ (by kernel_rfl)) (dc (X:=X34) (stop:=am0) (aI6 _ _ ins ne fuel param x ?_))
 refine aC (cZ (by omega) (by omega)) (aC (dq _) (aC (cZ (by omega) (by omega)) (aC (dq _) ?_)))
 rw [Ac hI]
 exact ⟨[0,1,2,3,6],int ins.n,_,_,rfl,(rc (rc (rc (rc (.cons (Zd ins x) .nil))))),⟨5,aQ rfl,aQ rfl,rfl,rfl,bh.refl _,⟨.inl (.inl rfl),⟨.inr rfl,⟨.inr rfl,⟨.inl (.inl rfl),⟨rfl,trivial⟩⟩⟩⟩⟩⟩⟩
theorem fg (ins:Sq aj) (x:aj) {xd:D} {ne:Nat} {fuel param:Int} {m q i j:Nat} {RS:List ag} (hI:ins.n<=1000:=by first|omega|(simp only [ju]; omega)) (hx:bh xd (gL x):=by first|exact bh.refl _|exact Un (by repeat' (first|exact aB.nil|refine aB.cons ?_ ?_|exact jg.refl _|exact jg.nil _ _))) (hd:ij [m,q,i,j]=true:=by rfl) (h0:m<RS.length:=by exact aQ rfl) (h1:aV RS q=some (bf m i ins.n j ne fuel param):=by rfl) (h2:aV RS i=some (aH ins):=by rfl) (h3:j<RS.length:=by exact aQ rfl) :
  LC 14 [.c (.rt q 0 0),xd] RS (int ins.n) (setAt (setAt RS q (bf m RS.length (cj ins x).n j ne fuel param)) i .dead++[aH (cj ins x)]):=
 bP.pre (bP.jS (aq3 ins ne fuel param x hI) [m,q,i,j] RS hd ⟨rfl,h0,h1,eY h1,h2,eY h2,rfl,h3,rfl⟩) (.cons (bh.refl _) (.cons hx .nil))
def yh:Nat->Bool:=λi=>Nat.beq i 3||Nat.beq i 6||Nat.beq i 7||Nat.beq i 9
theorem aB4:Fn 15:={}
abbrev ya:fp:=(3,((.c (.rt 4 0 0)),[]))
abbrev cO (aw:Sq aj) (aG:Sq ah) (bk:Int) (bN:Nat):ag:=bf 0 2 aw.1 3 aG.1 bk (↑bN:Int)
theorem aA3 (L:LP) (QE:D->List ag->Prop) (l:Sq Int) (p:Nat) (ins:Sq aj) (aa:Sq ah) (fuel:Int) (param:Nat) (h:L (ai 15 3) ⟨[ei,ya,yp],[(aA l p),(cO ins aa fuel param),(aH ins),(bZ aa),(.box [(ci 0),(ci 0),fi])],[]⟩):fx (QF l) 15 yh L QE [.c (.rt 1 0 0)] [aA l p,bf 0 2 ins.n 3 aa.n fuel param,aH ins,bZ aa]:=km h
def Bv (l:Sq Int) (p:Nat) (ins:Sq aj) (aa:Sq ah) (fuel:Int) (param:Nat) (hq:Sq Int) (k:Nat):VS:=⟨[rq,(3,(.c (.rt 4 0 0)),[]),(4,int k,[])],[(aA l p),(cO ins aa fuel param),(aH ins),(bZ aa),.box [.im (iI 0),.im (iI 0),.sa 5 hq.n],.arr 3 1 hq.n (λi=>bA (hq.get i))],[]⟩
abbrev dz:List D:=[(.c (.rt 1 0 0))]
theorem Pk (L:LP) (QE:D->List ag->Prop) (l:Sq Int) (p:Nat) (ins:Sq aj) (aa:Sq ah) (fuel:Int) (param:Nat) (hq:Sq Int) (k:Nat) (h:br (decide ((↑k:Int)<(↑param:Int))) ((WC 17 dz [(aA l p),(cO ins aa fuel param),(aH ins),(bZ aa),(.box [(ci 0),(ci 0),(.sa 5 hq.1)]),(iN hq),.dead,.dead,.dead] (int ((vl l p ins).1)) 0 (aA l ((vl l p ins).2))/\nd (b5 (hq.1+1) 8) (nd (hq.1.beq hq.1) ((WC 17 dz [(aA l p),(cO ins aa fuel param),(aH ins),(bZ aa),(.box [(ci 0),(ci 0),(.sa 5 hq.1)]),(iN hq),.dead,.dead,.dead] (int ((vl l p ins).1)) 0 (aA l ((vl l p ins).2))/\nd (b5 (hq.1+1) 8) (nd (hq.1.beq hq.1) (L (ai 15 3) ⟨[ei,ya,(4,((int (IntKind.i64.wrap ((↑k:Int)+1))),[]))],[(aA l ((vl l p ins).2)),(cO ins aa fuel param),(aH ins),(bZ aa),(.box [(ci 0),(ci 0),(.sa 8 (.succ hq.1))]),.dead,.dead,(.row 3 1 1 [(ci ((vl l p ins).1))]),(.arr 3 1 (hq.1+1) (gA hq.1 (λi=>bA (hq.2 i)) (1,flat 1 [I.v (Value.int IntKind.i64 (vl l p ins).1)]).snd))],[]⟩))))))) (L (ai 15 6) ⟨[ei,ya,(4,((int (↑k:Int)),[])),(12,((bool false),[]))],[(aA l p),(cO ins aa fuel param),(aH ins),(bZ aa),(.box [(ci 0),(ci 0),(.sa 5 hq.1)]),(iN hq)],[]⟩)):cB (QF l) 15 yh L QE 3 (Bv l p ins aa fuel param hq k):=km h
def G7 (l:Sq Int) (p:Nat) (ins:Sq aj) (aa:Sq ah) (fuel:Int) (param:Nat) (hq:Sq Int):VS:=⟨[rq,(3,(.c (.rt 4 0 0)),[])],[(aA l p),(cO ins aa fuel param),(aH ins),(bZ aa),.box (lift (ka ⟨0,0,hq⟩))],[]⟩
abbrev xH (aw:Sq Int):List C:=lift (ka ({ fn:=Int.ofNat 0,line:=Int.ofNat 0,vars:=aw }))
theorem YQ (L:LP) (QE:D->List ag->Prop) (l:Sq Int) (p:Nat) (ins:Sq aj) (aa:Sq ah) (fuel:Int) (param:Nat) (hq:Sq Int) (h:(WC 13 [(.c (.rt 0 0 0)),(int (IntKind.i64.wrap (fuel+1)))] [(aA l p),(cO ins aa fuel param),(aH ins),(bZ aa),(.box (xH hq)),(.row 74 3 1 (xH hq)),.dead,.dead] (int ((nx l p (IntKind.i64.wrap (fuel+1))).1)) 0 (aA l ((nx l p (IntKind.i64.wrap (fuel+1))).2))/\(WC 13 [(.c (.rt 0 0 0)),(int (IntKind.i64.wrap (fuel+1)))] [(aA l p),(cO ins aa fuel param),(aH ins),(bZ aa),(.box (xH hq)),.dead,.dead,.dead] (int ((nx l p (IntKind.i64.wrap (fuel+1))).1)) 0 (aA l ((nx l p (IntKind.i64.wrap (fuel+1))).2))/\L (ai 15 7) ⟨[ei,(5,((.c (.rt 7 0 0)),[]))],[(aA l ((nx l p (IntKind.i64.wrap (fuel+1))).2)),(cO ins aa fuel param),(aH ins),(bZ aa),(.box (xH hq)),(.row 74 3 1 (xH hq)),.dead,(.box [(.sa 5 1),fi,(ci ((nx l p (IntKind.i64.wrap (fuel+1))).1))])],[]⟩))):cB (QF l) 15 yh L QE 6 (G7 l p ins aa fuel param hq):=km h
abbrev lJ:fp:=(5,.c (.rt 4 0 0),[])
def IB (l:Sq Int) (p:Nat) (ins:Sq aj) (aa:Sq ah) (fuel:Int) (param:Nat) (fr:cK) (back:Int):VS:=⟨[rq,lJ],[aA l p,(cO ins aa fuel param),(aH ins),(bZ aa),.box [.sa 5 1,.im (.v (.slice .none 0 0)),.im (iI back)],.arr 74 3 1 (λ_=>dg fr)],[]⟩
abbrev Dn (aw:Int):ag:=.box [(.sa 5 1),fi,(ci aw)]
abbrev DE (aw:cK):ag:=.arr 74 3 1 (λx=>dg aw)
abbrev cA:fp:=(5,((.c (.rt 4 0 0)),[]))
theorem Z6 (L:LP) (QE:D->List ag->Prop) (l:Sq Int) (p:Nat) (ins:Sq aj) (aa:Sq ah) (fuel:Int) (param:Nat) (fr:cK) (back:Int) (h:(WC 13 [(.c (.rt 0 0 0)),(int 5)] [(aA l p),(cO ins aa fuel param),(aH ins),(bZ aa),(Dn back),(DE fr)] (int ((nx l p 5).1)) 0 (aA l ((nx l p 5).2))/\br ((nx l p 5).1==0) ((WC 17 dz [(aA l ((nx l p 5).2)),(cO ins aa fuel param),(aH ins),(bZ aa),(Dn back),(DE fr),.dead,.dead,.dead,.dead] (int ((vl l (nx l p 5).2 ins).1)) 0 (aA l ((vl l (nx l p 5).2 ins).2))/\(WC 17 dz [(aA l ((nx l p 5).2)),(cO ins aa fuel param),(aH ins),(bZ aa),(Dn back),(DE fr),.dead,.dead,.dead,.dead] (int ((vl l (nx l p 5).2 ins).1)) 0 (aA l ((vl l (nx l p 5).2 ins).2))/\L (ai 15 9) ⟨[ei,cA],[(aA l ((vl l (nx l p 5).2 ins).2)),(cO ins aa fuel param),(aH ins),(bZ aa),(.box [(.sa 9 2),fi,(ci back)]),.dead,.dead,.dead,(.row 74 3 1 [(ci 1),(ci 2),(.im (.sl 1 2 (flat 1 [I.v (Value.int IntKind.i64 (-1)),I.v (Value.int IntKind.i64 (vl l (nx l p 5).2 ins).1)])))]),(.arr 74 3 2 (gA 1 (λx=>dg fr) (1,flat 3 [I.v (Value.int IntKind.i64 1),I.v (Value.int IntKind.i64 2),I.sl 1 2 (flat 1 [I.v (Value.int IntKind.i64 (-1)),I.v (Value.int IntKind.i64 (vl l (nx l p 5).2 ins).1)])]).snd))],[]⟩))) (L (ai 15 9) ⟨[ei,cA,(40,((bool false),[]))],[(aA l ((nx l p 5).2)),(cO ins aa fuel param),(aH ins),(bZ aa),(Dn back),(DE fr)],[]⟩))):cB (QF l) 15 yh L QE 7 (IB l p ins aa fuel param fr back):=km h
def CH (l:Sq Int) (p:Nat) (ins:Sq aj) (aa:Sq ah) (fuel:Int) (param:Nat) (ex:ah):VS:=⟨[rq,lJ],[aA l p,(cO ins aa fuel param),(aH ins),(bZ aa),.box (lift (bn ex))],[]⟩
theorem Yh (L:LP) (QE:D->List ag->Prop) (l:Sq Int) (p:Nat) (ins:Sq aj) (aa:Sq ah) (fuel:Int) (param:Nat) (ex:ah) (h:nd (b5 (aa.1+1) 56) (nd (aa.1.beq aa.1) (nd (b5 (aa.1+1) 56) (nd (aa.1.beq aa.1) (QE (int (IntKind.i64.wrap ((↑(aa.1+1):Int)-1))) [(aA l p),(bf 0 2 ins.1 6 (.succ aa.1) fuel (↑param:Int)),(aH ins),.dead,(.box (lift (bn (ex)))),(.row 72 3 1 (lift (bn (ex)))),(.arr 72 3 (aa.1+1) (gA aa.1 (λi=>dw (aa.2 i)) (1,flat 3 [zK 3 dg ex.1,zK 4 eX ex.2,iI ex.3]).snd))]))))):cB (QF l) 15 yh L QE 9 (CH l p ins aa fuel param ex):=km h
theorem RR (l:Sq Int) (p:Nat) (ins:Sq aj) (aa:Sq ah) (fuel:Int) (param:Nat) (p0:Nat) (hl:l.n<=maxLen) (hI:ins.n<=1000) (hE:aa.n<=1000) (hF:0<=fuel/\fuel<=1000) (ex:ah):af 15 4 (b8 [aA l p0,bf 0 2 ins.n 3 aa.n fuel param,aH ins,bZ aa] (int aa.n) [aA l ((ex,p)).2,bf 0 2 ins.n 4 (cq aa ((ex,p)).1).n fuel param,aH ins,.dead,bZ (cq aa ((ex,p)).1)]) (ai 15 9) (CH l p ins aa fuel param ex):=by
 refine aF (X:=QF l) (stop:=yh) (Yh _ _ l p ins aa fuel param ex ?_)
 refine aC (cZ (by omega) (by omega)) (aC (dq _) (aC (cZ (by omega) (by omega)) (aC (dq _) ?_)))
 rw [Ac hE]
 exact ⟨[0,1,2,3,6],int aa.n,_,_,rfl,(rc (rc (rc (rc (.cons (Yo aa ex) .nil))))),⟨5,aQ rfl,aQ rfl,rfl,rfl,bh.refl _,⟨.inr rfl,⟨.inr rfl,⟨.inl (.inl rfl),⟨.inr rfl,⟨rfl,trivial⟩⟩⟩⟩⟩⟩⟩
theorem ZA (v:Int):∀ i,i<1->∀ j,j<3->cH (flat 3 [I.v (Value.int IntKind.i64 1),I.v (Value.int IntKind.i64 2),I.sl 1 2 (flat 1 [I.v (Value.int IntKind.i64 (-1)),I.v (Value.int IntKind.i64 v)])] i j) (dg (fr2 v) j):=by
 intro i hi j hj
 have hi:i=0:=by omega
 subst hi
 match j,hj with
 | 0,_=>exact cH.refl _
 | 1,_=>exact cH.refl _
 | 2,_=>
   refine cH.sl λa ha b hb=>?_
   have hb:b=0:=by omega
   subst hb
   match a,ha with
   | 0,_=>exact cH.refl _
   | 1,_=>exact cH.refl _
theorem Yp (l:Sq Int) (p:Nat) (ins:Sq aj) (aa:Sq ah) (fuel:Int) (param:Nat) (p0:Nat) (hl:l.n<=maxLen) (hI:ins.n<=1000) (hE:aa.n<=1000) (hF:0<=fuel/\fuel<=1000) (fr:cK) (back:Int):af 15 4 (b8 [aA l p0,bf 0 2 ins.n 3 aa.n fuel param,aH ins,bZ aa] (int aa.n) [aA l (Vu l ins fr back p).2,bf 0 2 ins.n 4 (cq aa (Vu l ins fr back p).1).n fuel param,aH ins,.dead,bZ (cq aa (Vu l ins fr back p).1)]) (ai 15 7) (IB l p ins aa fuel param fr back):=by
 refine aF (X:=QF l) (stop:=yh) (Z6 _ _ l p ins aa fuel param fr back ⟨eQ l _ _ hl rfl,?_⟩)
 refine aq (λh=>?_) (λh=>?_)
 .refine ⟨fY l _ ins hl hI rfl rfl rfl rfl (aQ rfl),fY l _ ins hl hI rfl rfl rfl rfl (aQ rfl),?_⟩
  rw [show Vu l ins fr back p=(⟨ek ⟨1,λ_=>fr⟩ ⟨1,λ_=>fr2 (vl l (nx l p 5).2 ins).1⟩,bc zV,back⟩,(vl l (nx l p 5).2 ins).2) from by unfold Vu; rw [show ((nx l p 5).1==0)=true from h]; rfl]
  refine af.freeze 9 rfl (af.rename [0,1,2,3,4] rfl (af.lf (CH l (vl l (nx l p 5).2 ins).2 ins aa fuel param ⟨ek ⟨1,λ_=>fr⟩ ⟨1,λ_=>fr2 (vl l (nx l p 5).2 ins).1⟩,bc zV,back⟩) (rc (rc (rc (rc (.cons (aO.box (.cons (jg.im (cH.sl λi hi j hj=>?_)) (.cons (jg.nil _ _) (.cons (jg.refl _) .nil)))) .nil))))) (RR l (vl l (nx l p 5).2 ins).2 ins aa fuel param p0 hl hI hE hF _)))
  show cH (Bool.rec (flat 3 [I.v (Value.int IntKind.i64 1),I.v (Value.int IntKind.i64 2),I.sl 1 2 (flat 1 [I.v (Value.int IntKind.i64 (-1)),I.v (Value.int IntKind.i64 (vl l (nx l p 5).2 ins).1)])] (i-1) j) (dg fr j) (Nat.blt i 1):I) (dg (Bool.rec (fr2 (vl l (nx l p 5).2 ins).1) fr (Nat.blt i 1)) j)
  cases Nat.blt i 1 with
  | true=>exact cH.refl _
  | false=>exact ZA _ _ (by omega) j hj
 .rw [show Vu l ins fr back p=(⟨⟨1,λ_=>fr⟩,bc zV,back⟩,(nx l p 5).2) from by unfold Vu; rw [show ((nx l p 5).1==0)=false from h]; rfl]
  exact af.freeze 5 rfl (af.rename [0,1,2,3,4] rfl (af.lf (CH l (nx l p 5).2 ins aa fuel param ⟨⟨1,λ_=>fr⟩,bc zV,back⟩) (rc (rc (rc (rc (.cons (aO.box (.cons (jg.refl _) (.cons (jg.nil _ _) (.cons (jg.refl _) .nil)))) .nil))))) (RR l (nx l p 5).2 ins aa fuel param p0 hl hI hE hF _)))
theorem Ts (x:cK):∀ i,i<1->∀ j,j<3->(lift (ka x))[i*3+j]?=some (.im (dg x j)):=by
 intro i hi j hj
 have hi:i=0:=by omega
 subst hi
 match j,hj with
 | 0,_=>rfl
 | 1,_=>rfl
 | 2,_=>rfl
theorem Xy (l:Sq Int) (p:Nat) (ins:Sq aj) (aa:Sq ah) (fuel:Int) (param:Nat) (p0:Nat) (hl:l.n<=maxLen) (hI:ins.n<=1000) (hE:aa.n<=1000) (hF:0<=fuel/\fuel<=1000) (hq:Sq Int):af 15 4 (b8 [aA l p0,bf 0 2 ins.n 3 aa.n fuel param,aH ins,bZ aa] (int aa.n) [aA l (Z5 l ins fuel (hq,p)).2,bf 0 2 ins.n 4 (cq aa (Z5 l ins fuel (hq,p)).1).n fuel param,aH ins,.dead,bZ (cq aa (Z5 l ins fuel (hq,p)).1)]) (ai 15 6) (G7 l p ins aa fuel param hq):=by
 refine aF (X:=QF l) (stop:=yh) (YQ _ _ l p ins aa fuel param hq ?_)
 rw [iV (k:=fuel+1) (by omega) (by omega)]
 refine ⟨eQ l _ _ hl rfl,eQ l _ _ hl rfl,?_⟩
 exact af.rename [0,1,2,3,7,5] rfl (af.lf (IB l (nx l p (fuel+1)).2 ins aa fuel param ⟨0,0,hq⟩ (nx l p (fuel+1)).1) (rc (rc (rc (rc (rc (.cons (aO.row (Ts ⟨0,0,hq⟩)) .nil)))))) (Yp l (nx l p (fuel+1)).2 ins aa fuel param p0 hl hI hE hF ⟨0,0,hq⟩ (nx l p (fuel+1)).1))
theorem Zh (l:Sq Int) (ins:Sq aj) (aa:Sq ah) (fuel:Int) (param:Nat) (p0:Nat) (hl:l.n<=maxLen) (hI:ins.n<=1000) (hE:aa.n<=1000) (hF:0<=fuel/\fuel<=1000) (hP:param<=1000) (o:ah×Nat):∀ k,k<=param->∀ (p:Nat) (hq:Sq Int),hq.n<=k->Z5 l ins fuel (W7 l ins (param-k) p hq)=o->af 15 4 (b8 [aA l p0,bf 0 2 ins.n 3 aa.n fuel param,aH ins,bZ aa] (int aa.n) [aA l (o).2,bf 0 2 ins.n 4 (cq aa (o).1).n fuel param,aH ins,.dead,bZ (cq aa (o).1)]) (ai 15 3) (Bv l p ins aa fuel param hq k):=by
 refine aU (λk hk ih p hq hh ho=>?_) (λp hq hh ho=>?_)
 .have q:param-k=(param-(k+1))+1:=by omega
  rw [q] at ho
  refine aF (X:=QF l) (stop:=yh) (Pk _ _ l p ins aa fuel param hq k ?_)
  rw [dr hk (cW hP (by decide))]
  refine aq (λh3=>?_) (λh3=>(dec_lt h3 hk).elim)
  refine ⟨fY l _ ins hl hI rfl rfl rfl rfl (aQ rfl),aC (cZ (by omega) (by omega)) (aC (dq _) ⟨fY l _ ins hl hI rfl rfl rfl rfl (aQ rfl),aC (cZ (by omega) (by omega)) (aC (dq _) ?_)⟩)⟩
  exact af.rename [0,1,2,3,4,8] rfl (af.lf (Bv l (vl l p ins).2 ins aa fuel param (ek hq ⟨1,λ_=>(vl l p ins).1⟩) (k+1)) (rc (rc (rc (rc (rc (.cons (DS hq _) .nil)))))) (ih _ _ (by show hq.n+1<=_; omega) ho))
 .rw [Nat.sub_self] at ho
  refine aF (X:=QF l) (stop:=yh) (Pk _ _ l p ins aa fuel param hq _ ?_)
  refine aq (λh3=>bS h3) (λh3=>?_)
  have ho:Z5 l ins fuel (hq,p)=o:=ho
  subst ho
  exact af.freeze 5 rfl (af.rename [0,1,2,3,4] rfl (af.lr (G7 l p ins aa fuel param hq) (Xy l p ins aa fuel param p0 hl hI hE hF hq)))
theorem ai8 (l:Sq Int) (p:Nat) (ins:Sq aj) (aa:Sq ah) (fuel:Int) (param:Nat) (hl:l.n<=maxLen) (hI:ins.n<=1000) (hE:aa.n<=1000) (hF:0<=fuel/\fuel<=1000) (hP:param<=1000):LC 15 [.c (.rt 1 0 0)] [aA l p,bf 0 2 ins.n 3 aa.n fuel param,aH ins,bZ aa] (int aa.n) [aA l (lv l p ins fuel param).2,bf 0 2 ins.n 4 (cq aa (lv l p ins fuel param).1).n fuel param,aH ins,.dead,bZ (cq aa (lv l p ins fuel param).1)]:=by
 refine cV aB4 (aQ (by kernel_rfl)) (dc (X:=QF l) (stop:=yh) (aA3 _ _ l p ins aa fuel param ?_))
 exact af.hX 4 2 3 1 _ rfl rfl (af.lf (Bv l p ins aa fuel param (bc 0) 0) (rc (rc (rc (rc (rc (.cons (ug 3 1 _ _) .nil)))))) (Zh l ins aa fuel param p hl hI hE hF hP _ 0 (bu _) p (bc 0) (bu _) rfl))
theorem ot (l:Sq Int) (p:Nat) (ins:Sq aj) (aa:Sq ah) {fuel:Int} {param:Nat} {m q i j:Nat} {RS:List ag} (hl:l.n<=maxLen) (hI:ins.n<=1000:=by first|omega|(simp only [ju]; omega)) (hE:aa.n<=1000:=by first|omega|(simp only [ju]; omega)) (hF:0<=fuel/\fuel<=1000:=by assumption) (hP:param<=1000:=by first|assumption|omega) (hd:ij [m,q,i,j]=true:=by rfl) (h0:aV RS m=some (aA l p):=by rfl) (h1:aV RS q=some (bf m i ins.n j aa.n fuel param):=by rfl) (h2:aV RS i=some (aH ins):=by rfl) (h3:aV RS j=some (bZ aa):=by rfl) :
  LC 15 [.c (.rt q 0 0)] RS (int aa.n) (setAt (setAt (setAt (setAt RS m (aA l (lv l p ins fuel param).2)) q (bf m i ins.n RS.length (cq aa (lv l p ins fuel param).1).n fuel param)) i (aH ins)) j .dead++[bZ (cq aa (lv l p ins fuel param).1)]):=
 bP.jS (ai8 l p ins aa fuel param hl hI hE hF hP) [m,q,i,j] RS hd ⟨h0,eY h0,h1,eY h1,h2,eY h2,h3,eY h3,rfl⟩
open Go Go.V
def F35 (l:Sq Int) (sx:Sq ah->ah->Sq ah) (ds:List D) (rs:List ag):Out:=match ds with
 | [.c (.rt q _ _)]=>match aV rs q with
   | some (.box [.rt m a b,c,d,.sa i n,.sa j ne,.im (.v (.int .i64 fu)),.im (.v (.int .i64 pa))])=>match aV rs m,aV rs i,aV rs j with
     | some (.box [y,.im (.v (.int .i64 p))]),some (.arr _ _ k get),some (.arr _ _ ke ge)=>
       (int (ne:Int),[(m,.box [y,.im (iI (lv l p.toNat ⟨k,λt=>j6 (get t)⟩ fu pa.toNat).2)]),(q,.box [.rt m a b,c,d,.sa i n,.sa rs.length (sx ⟨ke,λt=>oT (ge t)⟩ (lv l p.toNat ⟨k,λt=>j6 (get t)⟩ fu pa.toNat).1).n,.im (iI fu),.im (iI pa)]),(j,.dead)],
        [bZ (sx ⟨ke,λt=>oT (ge t)⟩ (lv l p.toNat ⟨k,λt=>j6 (get t)⟩ fu pa.toNat).1)])
     | _,_,_=>tF
   | _=>tF
 | _=>tF
def zN:Sq ByteArray:=⟨2,λi=>bif Nat.beq i 0 then ⟨⟨[120]⟩⟩ else ⟨⟨[121]⟩⟩⟩
def zn:List Nat:=[0,1,2,3,4,5,6,7,8,9,10,11,12,13,14,15,16,17,18,19,20,21,22,23,24,25,26,27,28,29,30]
def X48:fN:={ F:=vh }
def W67 (l:Sq Int) (f:FuncId) (ds:List D):Rd:=match f with
 | 13=>W33 l ds
 | _=>W37 l ds
def F67 (l:Sq Int) (sn:Sq aj->aj->Sq aj) (sx:Sq ah->ah->Sq ah) (f:FuncId) (ds:List D) (rs:List ag):Out:=match f with
 | 14=>F34 sn ds rs
 | 15=>F35 l sx ds rs
 | 24=>(iM 1 cw zN,[],[])
 | f=>vh f ds rs
def X67 (l:Sq Int) (sn:Sq aj->aj->Sq aj) (sx:Sq ah->ah->Sq ah):fN:={ F:=F67 l sn sx,W:=W67 l,S:=zn }
def zI:aj:=⟨0,0,0,0,0,bc 0,⟨0,0,⟨⟨[]⟩⟩⟩,bc ⟨⟨[]⟩⟩,⟨0,0⟩,0,false⟩
def iG (l:Sq Int) (p:Nat) (ins:Sq aj) (param:Nat):Int×Nat:=bif (nx l (vl l p ins).2 2).1==0 then nx l (nx l (vl l p ins).2 2).2 (param:Int) else ((vl l p ins).1,(nx l (vl l p ins).2 2).2)
def yV (A e:Int):aj:={ zI with op:=7,a:=A,names:=zN,exit:=e }
def fD (l:Sq Int) (p:Nat) (ins:Sq aj) (fuel:Int) (param:Nat):ah×Nat:=lv l (iG l p ins param).2 ins fuel param
def jl (l:Sq Int) (p:Nat) (ins:Sq aj) (param:Nat) (ne:Nat):aj:=yV (iG l p ins param).1 (ne:Int)
theorem Un {l l':List C} (h:aB jg l l'):bh (.a l) (.a l'):=by
 rintro E av w v ⟨cs,rfl,hv⟩
 exact ⟨cs,rfl,aB.cle h hv⟩
def ag6:Nat->Bool:=cE
theorem ay6:Fn 24:={}
theorem aA6 (L:LP) (QD:D->Prop)  (h:QD (.c (.im (.sl 1 2 (flat 1 [I.v (Value.string { data := #[120] }),I.v (Value.string { data := #[121] })]))))):fx X48 24 ag6 L (bL QD) [] []:=km h
theorem Ko:LC 24 [] [] (iM 1 cw zN) []:=by
 refine pv (X:=X48) (stop:=ag6) ay6 (aA6 _ _ ?_)
 exact λE av w v h=>cH.sl (λi hi j hj=>by
  have hj:j=0:=by omega
  subst hj
  match i,hi with
  | 0,_=>exact cH.refl _
  | 1,_=>exact cH.refl _) av w v h
def VH:Nat->Bool:=λi=>Nat.beq i 4
theorem aG6:Fn 29:={}
abbrev nX (aw:Sq Int) (aG:Nat) (bk:Sq aj) (bN:Sq ah) (dp:Int) (fq:Nat):List ag:=[(aA aw aG),(cO bk bN dp fq),(aH bk),(bZ bN)]
abbrev sv:C:=.im (.sl 1 2 (λi=>cw (zN.get i)))
abbrev J9 (aw:Sq Int) (aG:Nat) (bk:Sq aj):ag:=.box [(ci 7),(ci ((vl aw aG bk).1)),(ci 0),(ci 0),(ci 0),fi,(ci 0),(ci 0),ff,sv,(ci 0),(ci 0),(ci 0),dS]
abbrev wR (aw:Sq Int) (aG:Nat) (bk:Sq aj):ag:=aA aw ((nx aw (vl aw aG bk).2 2).2)
theorem aE5 (L:LP) (QE:D->List ag->Prop) (sn:Sq aj->aj->Sq aj) (sx:Sq ah->ah->Sq ah) (l:Sq Int) (p:Nat) (ins:Sq aj) (aa:Sq ah) (fuel:Int) (param:Nat) (h:(WC 17 dz (nX l p ins aa fuel param) (int ((vl l p ins).1)) 0 (aA l ((vl l p ins).2))/\(LC 24 [] [] (.c sv) []/\(WC 13 j3 [(aA l ((vl l p ins).2)),(cO ins aa fuel param),(aH ins),(bZ aa),(J9 l p ins)] (int ((nx l (vl l p ins).2 2).1)) 0 (aA l ((nx l (vl l p ins).2 2).2))/\br ((nx l (vl l p ins).2 2).1==0) ((WC 13 [(.c (.rt 0 0 0)),(kh param)] [(wR l p ins),(cO ins aa fuel param),(aH ins),(bZ aa),(J9 l p ins),.dead] (int ((nx l (nx l (vl l p ins).2 2).2 (↑param:Int)).1)) 0 (aA l ((nx l (nx l (vl l p ins).2 2).2 (↑param:Int)).2))/\(WC 13 [(.c (.rt 0 0 0)),(kh param)] [(wR l p ins),(cO ins aa fuel param),(aH ins),(bZ aa),(J9 l p ins),.dead] (int ((nx l (nx l (vl l p ins).2 2).2 (↑param:Int)).1)) 0 (aA l ((nx l (nx l (vl l p ins).2 2).2 (↑param:Int)).2))/\L (ai 29 4) ⟨[ei,ya],[(aA l ((nx l (nx l (vl l p ins).2 2).2 (↑param:Int)).2)),(cO ins aa fuel param),(aH ins),(bZ aa),(.box [(ci 7),(ci ((nx l (nx l (vl l p ins).2 2).2 (↑param:Int)).1)),(ci 0),(ci 0),(ci 0),fi,(ci 0),(ci 0),ff,sv,(ci 0),(ci 0),(ci 0),dS]),.dead],[]⟩))) (L (ai 29 4) ⟨[ei,ya,(13,((bool false),[]))],[(wR l p ins),(cO ins aa fuel param),(aH ins),(bZ aa),(J9 l p ins)],[]⟩))))):fx (X67 l sn sx) 29 VH L QE [.c (.rt 1 0 0)] [aA l p,bf 0 2 ins.n 3 aa.n fuel param,aH ins,bZ aa]:=km h
def Dt (sn:Sq aj->aj->Sq aj) (sx:Sq ah->ah->Sq ah) (l:Sq Int) (p:Nat) (ins:Sq aj) (aa:Sq ah) (fuel:Int) (param:Nat) (x:aj):VS:=⟨[rq,(3,.c (.rt 4 0 0),[])],[aA l p,(cO ins aa fuel param),(aH ins),(bZ aa),.box (lift (aN x))],[]⟩
abbrev je (aw:Sq ah):D:=int (↑aw.1:Int)
abbrev HX (aw:aj) (aG:Sq ah):List C:=lift (aN ({ op:=aw.1,a:=aw.2,b:=aw.3,c:=aw.4,n:=aw.5,args:=aw.6,k:=aw.7,names:=aw.8,place:=aw.9,exit:=Int.ofNat aG.1,once:=aw.11 }))
theorem aa1 (L:LP) (QE:D->List ag->Prop) (sn:Sq aj->aj->Sq aj) (sx:Sq ah->ah->Sq ah) (l:Sq Int) (p:Nat) (ins:Sq aj) (aa:Sq ah) (fuel:Int) (param:Nat) (x:aj) (h:(LC 15 dz [(aA l p),(cO ins aa fuel param),(aH ins),(bZ aa),(ez x)] (je aa) [(aA l ((lv l p ins fuel param).2)),(bf 0 2 ins.1 5 ((sx aa (lv l p ins fuel param).1).1) fuel (↑param:Int)),(aH ins),.dead,(ez x),(bZ (sx aa (lv l p ins fuel param).1))]/\(LC 14 [(.c (.rt 1 0 0)),(.a (HX x aa))] [(aA l ((lv l p ins fuel param).2)),(bf 0 2 ins.1 5 ((sx aa (lv l p ins fuel param).1).1) fuel (↑param:Int)),(aH ins),.dead,(.box (HX x aa)),(bZ (sx aa (lv l p ins fuel param).1))] (eh ins) [(aA l ((lv l p ins fuel param).2)),(bf 0 6 ((sn ins { op:=x.1,a:=x.2,b:=x.3,c:=x.4,n:=x.5,args:=x.6,k:=x.7,names:=x.8,place:=x.9,exit:=Int.ofNat aa.1,once:=x.11 }).1) 5 ((sx aa (lv l p ins fuel param).1).1) fuel (↑param:Int)),.dead,.dead,(.box (HX x aa)),(bZ (sx aa (lv l p ins fuel param).1)),(aH (sn ins { op:=x.1,a:=x.2,b:=x.3,c:=x.4,n:=x.5,args:=x.6,k:=x.7,names:=x.8,place:=x.9,exit:=Int.ofNat aa.1,once:=x.11 }))]/\QE (int x.2) [(aA l ((lv l p ins fuel param).2)),(bf 0 6 ((sn ins { op:=x.1,a:=x.2,b:=x.3,c:=x.4,n:=x.5,args:=x.6,k:=x.7,names:=x.8,place:=x.9,exit:=Int.ofNat aa.1,once:=x.11 }).1) 5 ((sx aa (lv l p ins fuel param).1).1) fuel (↑param:Int)),.dead,.dead,(.box (lift (aN ({ op:=x.1,a:=x.2,b:=x.3,c:=x.4,n:=x.5,args:=x.6,k:=x.7,names:=x.8,place:=x.9,exit:=Int.ofNat aa.1,once:=x.11 })))),(bZ (sx aa (lv l p ins fuel param).1)),(aH (sn ins { op:=x.1,a:=x.2,b:=x.3,c:=x.4,n:=x.5,args:=x.6,k:=x.7,names:=x.8,place:=x.9,exit:=Int.ofNat aa.1,once:=x.11 }))]))):cB (X67 l sn sx) 29 VH L QE 4 (Dt sn sx l p ins aa fuel param x):=km h
theorem Oh (l:Sq Int) (p:Nat) (ins:Sq aj) (aa:Sq ah) (fuel:Int) (param:Nat) (p0:Nat) (hl:l.n<=maxLen) (hI:ins.n<=900) (hE:aa.n<=900) (hF:0<=fuel/\fuel<=1000) (hP:param<=1000) (x:aj) (A:Int) (q:Nat) (hx:(A,q)=iG l p0 ins param) (hx1:x=yV A 0) (hq:p=q):af 29 4 (b8 [aA l p0,bf 0 2 ins.n 3 aa.n fuel param,aH ins,bZ aa] (int (jl l p0 ins param aa.n).a) [aA l (fD l p0 ins fuel param).2,bf 0 5 (cj ins (jl l p0 ins param aa.n)).n 4 (cq aa (fD l p0 ins fuel param).1).n fuel param,.dead,.dead,bZ (cq aa (fD l p0 ins fuel param).1),aH (cj ins (jl l p0 ins param aa.n))]) (ai 29 4) (Dt cj cq l p ins aa fuel param x):=by
 subst hq
 subst hx1
 refine aF (X:=X67 l cj cq) (stop:=VH) (aa1 _ _ cj cq l p ins aa fuel param (yV A 0) ⟨ot (m:=0) (q:=1) (i:=2) (j:=3) l _ ins aa hl (by omega) (by omega) hF hP rfl rfl rfl rfl rfl,fg (m:=0) (q:=1) (i:=2) (j:=5) ins (yV A aa.n) (by omega) (bh.refl _) rfl (aQ rfl) rfl rfl (aQ rfl),?_⟩)
 rw [show fD l p0 ins fuel param=lv l p ins fuel param from by unfold fD; rw [<- hx],show jl l p0 ins param aa.n=yV A aa.n from by unfold jl; rw [<- hx]]
 exact ⟨[0,1,2,3,5,6],int A,_,_,rfl,(rc (rc (rc (rc (rc (rc .nil)))))),⟨6,aQ rfl,aQ rfl,rfl,rfl,bh.refl _,⟨.inr rfl,⟨.inr rfl,⟨.inr rfl,⟨.inr rfl,⟨rfl,⟨rfl,trivial⟩⟩⟩⟩⟩⟩⟩⟩
theorem am5 (l:Sq Int) (p:Nat) (ins:Sq aj) (aa:Sq ah) (fuel:Int) (param:Nat) (hl:l.n<=maxLen) (hI:ins.n<=900) (hE:aa.n<=900) (hF:0<=fuel/\fuel<=1000) (hP:param<=1000):LC 29 [.c (.rt 1 0 0)] [aA l p,bf 0 2 ins.n 3 aa.n fuel param,aH ins,bZ aa] (int (iG l p ins param).1) [aA l (fD l p ins fuel param).2,bf 0 5 (cj ins (jl l p ins param aa.n)).n 4 (cq aa (fD l p ins fuel param).1).n fuel param,.dead,.dead,bZ (cq aa (fD l p ins fuel param).1),aH (cj ins (jl l p ins param aa.n))]:=by
 refine cV aG6 (aQ (by kernel_rfl)) (dc (X:=X67 l cj cq) (stop:=VH) (aE5 _ _ cj cq l p ins aa fuel param ⟨fY l _ ins hl (by omega) rfl rfl rfl rfl (aQ rfl),Ko,eQ l _ _ hl rfl,?_⟩))
 refine aq (λh=>?_) (λh=>?_)
 .have e:iG l p ins param=nx l (nx l (vl l p ins).2 2).2 (param:Int):=by unfold iG; rw [show ((nx l (vl l p ins).2 2).1==0)=true from h]; rfl
  refine ⟨eQ l _ _ hl rfl,eQ l _ _ hl rfl,?_⟩
  exact af.rename [0,1,2,3,4] rfl (af.lf (Dt cj cq l (nx l (nx l (vl l p ins).2 2).2 (param:Int)).2 ins aa fuel param (yV (nx l (nx l (vl l p ins).2 2).2 (param:Int)).1 0)) (rc (rc (rc (rc (.cons (aO.box (by repeat' (first|exact aB.nil|refine aB.cons ?_ ?_|exact jg.refl _|exact jg.nil _ _))) .nil))))) (Oh l _ ins aa fuel param p hl hI hE hF hP _ _ _ e.symm rfl rfl))
 .have e:iG l p ins param=((vl l p ins).1,(nx l (vl l p ins).2 2).2):=by unfold iG; rw [show ((nx l (vl l p ins).2 2).1==0)=false from h]; rfl
  exact af.lf (Dt cj cq l (nx l (vl l p ins).2 2).2 ins aa fuel param (yV (vl l p ins).1 0)) (rc (rc (rc (rc (.cons (aO.box (by repeat' (first|exact aB.nil|refine aB.cons ?_ ?_|exact jg.refl _|exact jg.nil _ _))) .nil))))) (Oh l _ ins aa fuel param p hl hI hE hF hP _ _ _ e.symm rfl rfl)
theorem WA (l:Sq Int) (p:Nat) (ins:Sq aj) (aa:Sq ah) (fuel:Int) (param:Nat) {m q i j:Nat} {RS:List ag} (hl:l.n<=maxLen) (hI:ins.n<=900) (hE:aa.n<=900) (hF:0<=fuel/\fuel<=1000) (hP:param<=1000) (hd:ij [m,q,i,j]=true) (h0:aV RS m=some (aA l p)) (h1:aV RS q=some (bf m i ins.n j aa.n fuel param)) (h2:aV RS i=some (aH ins)) (h3:aV RS j=some (bZ aa)) :
  LC 29 [.c (.rt q 0 0)] RS (int (iG l p ins param).1) (setAt (setAt (setAt (setAt RS m (aA l (fD l p ins fuel param).2)) q (bf m (RS.length+1) (cj ins (jl l p ins param aa.n)).n RS.length (cq aa (fD l p ins fuel param).1).n fuel param)) i .dead) j .dead++[bZ (cq aa (fD l p ins fuel param).1),aH (cj ins (jl l p ins param aa.n))]):=
 bP.jS (am5 l p ins aa fuel param hl hI hE hF hP) [m,q,i,j] RS hd ⟨h0,eY h0,h1,eY h1,h2,eY h2,h3,eY h3,rfl⟩
end
end Go.Proofs.Ytgbbdaegmfjahaa
