/- Loops: what is to be shown. -/
import Derived.Test.YtghfgcfabbbbbaaDoorP5
set_option linter.unusedVariables false
set_option linter.unusedSimpArgs false
set_option maxRecDepth 1000000
namespace Go.Proofs.YtghfgcfabbbbbaaDoor
open Go Go.V
noncomputable section
def F7L:CA:=[
 (83,fun ds rs=>(bool (kh (gj ds 0) (Ei ds 1) (aI ds 2)),[],[]))]
def F7:=ext F6 F7L
def uL (b:Bool):Nat→I:=fun _=>iB b
theorem JN (x:aj) (h:x.args.n≤1000):(aC x).n≤1000:=by
 unfold aC
 cases x.op==20
 ·show (fM x.op).toNat≤1000
  rcases tc x.op with h|h|h|h<;>rw [h]<;>decide
 ·exact h
def rJ:hX:={ F:=F7 }
def sG:Nat→Bool:=fun i=>Nat.beq i 6||Nat.beq i 12||Nat.beq i 16||Nat.beq i 20||Nat.beq i 22
theorem ak6:Fn 57:=⟨by kernel_rfl,by kernel_rfl⟩
abbrev km (ax:ae):D:=int ((↑(js ax.2):Int))
abbrev oU (ax:ae):gF:=(3,((km ax),[]))
abbrev oG (ax:ae):gF:=(4,((.c (.sa 1 ax.3.1)),[]))
theorem ar2 (L:LP) (QD:D→Prop) (t:ae) (h:(LC 78 [(dw t)] [] (km t) []∧br (decide (t.1.1<0)) (QD (bool false)) (br (decide (t.1.2<0)) (QD (bool false)) (br ((↑t.2.1:Int)==0) (QD (bool false)) (nd (t.3.1.ble maxLen&&(t.3.1*1).ble 281474976710656) (nd (t.3.1.beq t.3.1) (L (ag 57 6) ⟨[b5,(oU t),(oG t),nv],[(bC t),(.arr 4 1 t.3.1 (fun x=>bH [I.v (Value.bool false)]))],[]⟩))))))):fS rJ 57 sG L (aZ QD) [bc t] []:=Eq.mp (by kernel_rfl) h
def tY (t:ae) (w:Nat→Bool) (k:Nat):VS:=⟨[lV,(3,(km t),[]),(4,.c (.sa 1 t.aa.n),[]),(5,int k,[])],[(bC t),.arr 4 1 t.aa.n (fun i=>uL (w i))],[]⟩
abbrev rv (ax:ae) (aF:Nat):List C:=lift (aT (ax.ins.2 aF))
abbrev jB (ax:ae) (aF:Nat):List D:=[(.a (rv ax aF))]
abbrev oA (ax:Nat):D:=int (↑ax:Int)
abbrev kv (ax:Nat):gF:=(5,((oA ax),[]))
abbrev xw:gF:=(6,((.c (.rt 2 0 0)),[]))
abbrev wQ (ax:ae) (aF:Nat→Bool) (aR:Nat):List ah:=[(bC ax),(.arr 4 1 ax.3.1 (fun i=>uL (aF i))),(.box (rv ax aR))]
abbrev J5 (ax:ae) (aF:Nat) (aR:Nat→Bool):VS:=⟨[b5,(oU ax),(oG ax),(kv aF),xw,(74,((bool false),[]))],(wQ ax aR aF),[]⟩
theorem Mw (L:LP) (QD:D→Prop) (t:ae) (w:Nat→Bool) (k:Nat) (h:br (decide ((↑k:Int)<(↑t.2.1:Int))) (nd (cd (↑k:Int) t.2.1) (br ((t.ins.2 k).1==20) (br (!true==((↑k:Int)==IntKind.i64.wrap ((↑t.2.1:Int)-1))) (QD (bool false)) (br ((t.ins.2 k).1==1) (br (decide ((↑k:Int)≥(↑(js t.2):Int))) (QD (bool false)) ((LC 79 (jB t k) [] (bool (a8 (t.ins.2 k))) []∧br (!a8 (t.ins.2 k)) (QD (bool false)) (L (ag 57 12) (J5 t k w))))) ((LC 79 (jB t k) [] (bool (a8 (t.ins.2 k))) []∧br (!a8 (t.ins.2 k)) (QD (bool false)) (L (ag 57 12) (J5 t k w)))))) (br (!((t.ins.2 k).1==21)==((↑k:Int)==IntKind.i64.wrap ((↑t.2.1:Int)-1))) (QD (bool false)) (br ((t.ins.2 k).1==1) (br (decide ((↑k:Int)≥(↑(js t.2):Int))) (QD (bool false)) ((LC 79 (jB t k) [] (bool (a8 (t.ins.2 k))) []∧br (!a8 (t.ins.2 k)) (QD (bool false)) (L (ag 57 12) (J5 t k w))))) ((LC 79 (jB t k) [] (bool (a8 (t.ins.2 k))) []∧br (!a8 (t.ins.2 k)) (QD (bool false)) (L (ag 57 12) (J5 t k w)))))))) (QD (bool true))):dq rJ 57 sG L (aZ QD) 6 (tY t w k):=Eq.mp (by kernel_rfl) h
abbrev FE (ax:ae) (aF:Nat) (aR:Nat→Bool):VS:=⟨[lV,(3,(km ax),[]),(4,(.c (.sa 1 ax.3.1)),[]),(5,(oA aF),[]),(6,(.c (.rt 2 0 0)),[])],(wQ ax aR aF),[]⟩
def sK (t:ae) (w:Nat→Bool) (k:Nat):VS:=(FE t k w)
abbrev Ai (ax:ae) (aF:Nat):D:=.c (.im (.sl 1 ((aC (ax.ins.2 aF)).1) (fun i=>b8 ((aC (si [D.a (lift [iI (ax.ins.get aF).op,iI (ax.ins.get aF).a,iI (ax.ins.get aF).b,iI (ax.ins.get aF).c,iI (ax.ins.get aF).n,sJ 1 b8 (ax.ins.get aF).args,iI (ax.ins.get aF).k.kind,iI (ax.ins.get aF).k.n,iS (ax.ins.get aF).k.s,sJ 1 eD (ax.ins.get aF).names,iI (ax.ins.get aF).place.fn,iI (ax.ins.get aF).place.line,iI (ax.ins.get aF).exit,iB (ax.ins.get aF).once])] 0)).2 i))))
abbrev zz (ax:ae) (aF:Nat) (aR:Nat→Bool):VS:=⟨[b5,(oU ax),(oG ax),(kv aF),xw,(8,((Ai ax aF),[])),(9,((int 0),[]))],(wQ ax aR aF),[]⟩
theorem SZ (L:LP) (QD:D→Prop) (t:ae) (w:Nat→Bool) (k:Nat) (h:br ((t.ins.2 k).1==1) (br (decide ((↑k:Int)>0)) (nd (cd (IntKind.i64.wrap ((↑k:Int)-1)) t.2.1) (br (decide ((t.ins.2 k).7.2≤(t.ins.2 (IntKind.i64.wrap ((↑k:Int)-1)).toNat).7.2)) (QD (bool false)) (br ((t.ins.2 k).1==20) (br ((↑(t.ins.2 k).6.1:Int)!=(↑(js t.2):Int)) (QD (bool false)) ((LC 40 (jB t k) [] (Ai t k) []∧L (ag 57 16) (zz t k w)))) ((LC 40 (jB t k) [] (Ai t k) []∧L (ag 57 16) (zz t k w)))))) (br ((t.ins.2 k).1==20) (br ((↑(t.ins.2 k).6.1:Int)!=(↑(js t.2):Int)) (QD (bool false)) ((LC 40 (jB t k) [] (Ai t k) []∧L (ag 57 16) (zz t k w)))) ((LC 40 (jB t k) [] (Ai t k) []∧L (ag 57 16) (zz t k w))))) (br ((t.ins.2 k).1==20) (br ((↑(t.ins.2 k).6.1:Int)!=(↑(js t.2):Int)) (QD (bool false)) ((LC 40 (jB t k) [] (Ai t k) []∧L (ag 57 16) (zz t k w)))) ((LC 40 (jB t k) [] (Ai t k) []∧L (ag 57 16) (zz t k w))))):dq rJ 57 sG L (aZ QD) 12 (sK t w k):=Eq.mp (by kernel_rfl) h
def mY (t:ae) (w:Nat→Bool) (k:Nat) (j:Nat):VS:=⟨[lV,(3,(km t),[]),(4,(.c (.sa 1 t.3.1)),[]),(5,(int (↑k:Int)),[]),(6,(.c (.rt 2 0 0)),[]),(8,eT 1 b8 (aC (t.ins.get k)),[]),(9,int j,[])],(wQ t w k),[]⟩
abbrev Gi (ax:ae) (aF:Nat):D:=.c (.im (.sl 1 ((aC (ax.ins.2 aF)).1) (fun i=>b8 ((aC (ax.ins.get aF)).2 i))))
theorem Jj (L:LP) (QD:D→Prop) (t:ae) (w:Nat→Bool) (k:Nat) (j:Nat) (h:br (decide ((↑j:Int)<(↑(aC (t.ins.2 k)).1:Int))) (nd (cd (↑j:Int) (aC (t.ins.2 k)).1) ((LC 80 [(dw t),(int ((aC (t.ins.get k)).2 j)),(int (↑k:Int))] [] (bool (dC t ((aC (t.ins.get k)).2 j) (Int.ofNat k))) []∧br (!dC t ((aC (t.ins.get k)).2 j) (Int.ofNat k)) (QD (bool false)) (nd (cd (↑j:Int) (aC (t.ins.2 k)).1) (nd (cd ((aC (t.ins.get k)).2 j) t.2.1) (br ((t.ins.2 ((aC (t.ins.get k)).2 j).toNat).1==17) (QD (bool false)) (L (ag 57 16) ⟨[b5,(oU t),(oG t),(kv k),xw,(8,((Gi t k),[])),(9,((int (IntKind.i64.wrap ((↑j:Int)+1))),[]))],[(bC t),(.arr 4 1 t.3.1 (fun i=>uL (w i))),(.box (rv t k)),.dead],[]⟩))))))) (L (ag 57 20) ⟨[b5,(oU t),(oG t),(kv k),xw,(8,((Gi t k),[])),(9,((int (↑j:Int)),[])),(113,((bool false),[]))],(wQ t w k),[]⟩)):dq rJ 57 sG L (aZ QD) 16 (mY t w k j):=Eq.mp (by kernel_rfl) h
def Cj (t:ae) (w:Nat→Bool) (k:Nat):VS:=(FE t k w)
abbrev j4 (ax:ae) (aF:Nat):List D:=[(int ((ax.ins.2 aF).1))]
abbrev sX (ax:ae) (aF:Nat):D:=int (jN (ax.ins.2 aF).1)
abbrev ZB (ax:ae) (aF:Nat):aN:=[b5,(oU ax),(oG ax),(kv aF),xw,(178,((bool false),[]))]
abbrev oK (ax:ae) (aF:Nat) (aR:Nat→Bool):VS:=⟨(ZB ax aF),(wQ ax aR aF),[]⟩
theorem R0 (L:LP) (QD:D→Prop) (t:ae) (w:Nat→Bool) (k:Nat) (h:br ((t.ins.2 k).11) ((LC 81 (j4 t k) [] (bool (CV (t.ins.2 k).1)) []∧br (!CV (t.ins.2 k).1) (QD (bool false)) (br (decide ((t.ins.2 k).10 < -1)) (QD (bool false)) (br (decide ((t.ins.2 k).10≥(↑t.3.1:Int))) (QD (bool false)) (br (decide ((t.ins.2 k).10≥0)) ((LC 82 (j4 t k) [] (sX t k) []∧br (jN (t.ins.2 k).1==0) (QD (bool false)) (br (decide ((t.ins.2 k).10<0)) ((LC 82 (j4 t k) [] (sX t k) []∧br (jN (t.ins.2 k).1==2) (QD (bool false)) (L (ag 57 22) (oK t k w)))) (L (ag 57 22) (oK t k w))))) (br (decide ((t.ins.2 k).10<0)) ((LC 82 (j4 t k) [] (sX t k) []∧br (jN (t.ins.2 k).1==2) (QD (bool false)) (L (ag 57 22) (oK t k w)))) (L (ag 57 22) (oK t k w)))))))) (br (decide ((t.ins.2 k).10 < -1)) (QD (bool false)) (br (decide ((t.ins.2 k).10≥(↑t.3.1:Int))) (QD (bool false)) (br (decide ((t.ins.2 k).10≥0)) ((LC 82 (j4 t k) [] (sX t k) []∧br (jN (t.ins.2 k).1==0) (QD (bool false)) (br (decide ((t.ins.2 k).10<0)) ((LC 82 (j4 t k) [] (sX t k) []∧br (jN (t.ins.2 k).1==2) (QD (bool false)) (L (ag 57 22) (oK t k w)))) (L (ag 57 22) (oK t k w))))) (br (decide ((t.ins.2 k).10<0)) ((LC 82 (j4 t k) [] (sX t k) []∧br (jN (t.ins.2 k).1==2) (QD (bool false)) (L (ag 57 22) (oK t k w)))) (L (ag 57 22) (oK t k w))))))):dq rJ 57 sG L (aZ QD) 20 (Cj t w k):=Eq.mp (by kernel_rfl) h
def vn (t:ae) (w:Nat→Bool) (k:Nat):VS:=(FE t k w)
theorem TR (L:LP) (QD:D→Prop) (t:ae) (w:Nat→Bool) (k:Nat) (h:br (decide ((t.ins.2 k).10≥0)) (nd (cd (t.ins.2 k).10 t.3.1) (nd ((t.ins.2 k).10.toNat.blt t.3.1) (br (w (t.ins.2 k).10.toNat) (QD (bool false)) (nd (cd (t.ins.2 k).10 t.3.1) ((LC 83 [(dw t),(.a (lift (bn (t.aa.2 (t.ins.2 k).10.toNat)))),(int (↑k:Int))] [] (bool (kh t (t.aa.2 (t.ins.2 k).10.toNat) (Int.ofNat k))) []∧br (!kh t (t.aa.2 (t.ins.2 k).10.toNat) (Int.ofNat k)) (QD (bool false)) (nd (cd (t.ins.2 k).10 t.3.1) (nd ((t.ins.2 k).10.toNat.blt t.3.1) (L (ag 57 6) ⟨[b5,(oU t),(oG t),(5,((int (IntKind.i64.wrap ((↑k:Int)+1))),[]))],[(bC t),(.arr 4 1 t.3.1 (jS (fun i=>uL (w i)) (t.ins.2 k).10.toNat 0 [I.v (Value.bool true)])),(.box (rv t k)),.dead],[]⟩))))))))) (L (ag 57 6) ⟨[b5,(oU t),(oG t),(5,((int (IntKind.i64.wrap ((↑k:Int)+1))),[]))],(wQ t w k),[]⟩)):dq rJ 57 sG L (aZ QD) 22 (vn t w k):=Eq.mp (by kernel_rfl) h
def pC (x:aj):Bool:=x.op==20||x.op==21
def a6 (t:ae) (k:Nat):Bool := !(pC (t.ins.get k)!=((k:Int)==(t.ins.n:Int)-1))&&(!((t.ins.get k).op==1&&decide ((k:Int)≥(js t.ins:Int)))&&a8 (t.ins.get k))
def a12 (t:ae) (k:Nat):Bool := !((t.ins.get k).op==1&&(decide ((k:Int)>0)&&decide ((t.ins.get k).k.n≤(t.ins.get (k-1)).k.n))) && !((t.ins.get k).op==20&&(((t.ins.get k).args.n:Int)!=(js t.ins:Int)))
def u16 (t:ae) (k:Nat) (v:Int):Bool:=dC t v k && !((t.ins.get v.toNat).op==17)
def Lj (t:ae) (k:Nat):Bool:=dn (fun j=>u16 t k ((aC (t.ins.get k)).get j)) (aC (t.ins.get k)).n
def a20 (t:ae) (k:Nat):Bool := !((t.ins.get k).once && !CV (t.ins.get k).op)&&(!decide ((t.ins.get k).exit < -1)&&(!decide ((t.ins.get k).exit≥(t.aa.n:Int))&&(!(decide ((t.ins.get k).exit≥0)&&jN (t.ins.get k).op==0) && !(decide ((t.ins.get k).exit<0)&&jN (t.ins.get k).op==2))))
def cm (t:ae) (k:Nat) (i:Nat):Bool := !dn (fun j => !((t.ins.get j).exit==(i:Int))) k
def Dp (t:ae) (k:Nat):Bool := !decide ((t.ins.get k).exit≥0)||(!cm t k (t.ins.get k).exit.toNat&&kh t (t.aa.get (t.ins.get k).exit.toNat) k)
def jV (t:ae) (k:Nat):Bool:=a6 t k&&(a12 t k&&(Lj t k&&(a20 t k&&Dp t k)))
def gA (t:ae):Bool := !(decide (t.place.fn<0)||(decide (t.place.line<0)||((t.ins.n:Int)==0)))&&dn (jV t) t.ins.n
theorem uf {p q:Nat→Bool}:∀ {m k:Nat},(∀ i,k≤i→i<k+m→p i=q i)→bS p m k=bS q m k
 | 0,k,_=>rfl
 | m+1,k,h=>by
   unfold bS
   rw [h k (bk _) (by omega),uf fun i h1 h2=>h i (by omega) (by omega)]
theorem zw {p:Nat→Bool}:∀ {m k:Nat},bS p (m+1) k=(bS p m k&&p (k+m))
 | 0,k=>by simp [bS]
 | m+1,k=>by
   rw [show bS p (m+1+1) k=(bif p k then bS p (m+1) (k+1) else false) from rfl,zw (m:=m) (k:=k+1),show bS p (m+1) k=(bif p k then bS p m (k+1) else false) from rfl,show k+1+m=k+(m+1) by omega]
   cases p k<;>simp
theorem lQ (t:ae) (k i:Nat):cm t (k+1) i=(cm t k i||((t.ins.get k).exit==(i:Int))):=by
 unfold cm dn
 rw [zw,Nat.zero_add]
 cases bS (fun j => !((t.ins.get j).exit==(i:Int))) k 0<;>simp
theorem LB (t:ae) (k n:Nat) (h0:0≤(t.ins.get k).exit):aJ (.arr 4 1 n (jS (fun i=>uL (cm t k i)) (t.ins.get k).exit.toNat 0 [I.v (Value.bool true)])) (.arr 4 1 n fun i=>uL (cm t (k+1) i)):=by
 refine aJ.arr fun i hi j hj=>?_
 have hj:j=0:=by omega
 subst hj
 show dr (Bool.rec (iB (cm t k i)) (bH [I.v (Value.bool true)] 0) (Nat.beq i (t.ins.get k).exit.toNat&&true):I) (iB (cm t (k+1) i))
 rw [lQ,Bool.and_true]
 obtain ⟨m,hm⟩:=Int.eq_ofNat_of_zero_le h0
 rw [hm,Int.toNat_natCast,int_eq]
 cases hb:Nat.beq i m with
 | true=>
   have:=Nat.eq_of_beq_eq_true hb
   subst this
   simp only [beq_self_eq_true,Bool.or_true]
   exact dr.refl _
 | false=>
   have:(m==i)=false:=by
    have:=Nat.ne_of_beq_eq_false hb
    simp only [beq_eq_false_iff_ne]
    omega
   rw [this,Bool.or_false]
   exact dr.refl _
theorem GX (t:ae) (k n:Nat) (h0:(t.ins.get k).exit<0):aJ (.arr 4 1 n (fun i=>uL (cm t k i))) (.arr 4 1 n fun i=>uL (cm t (k+1) i)):=by
 refine aJ.arr fun i hi j hj=>?_
 show dr (iB (cm t k i)) (iB (cm t (k+1) i))
 rw [lQ,show ((t.ins.get k).exit==(i:Int))=false from by simp only [beq_eq_false_iff_ne]; omega,Bool.or_false]
 exact dr.refl _
theorem zG {n:Nat} (h:0<n) (hn:n≤1000):IntKind.i64.wrap ((n:Int)-1)=(n:Int)-1:=ir (by omega) (by omega)
def Zk (t:ae) (a:Bool) (k:Nat):Prop:=af 57 0 (aW (bool a)) (ag 57 6) (tY t (cm t (k+1)) (k+1))
theorem Ts (t:ae) (k:Nat) (a:Bool) (hS:ed t) (hk:k<t.ins.n) (hE:(t.ins.get k).exit<t.aa.n) (no:Dp t k=false→a=false) (go:Dp t k=true→Zk t a k):af 57 0 (aW (bool a)) (ag 57 22) (vn t (cm t k) k):=by
 have no:Dp t k=false→aX (bool false) (bool a):=fun q=>by rw [no q]; exact aX.refl _
 refine aH (X:=rJ) (stop:=sG) (TR _ _ t (cm t k) k ?_)
 rw [bR hk (cM hS.ins (by decide))]
 refine ak (fun h=>?_) (fun h=>?_)
 ·have h0:0≤(t.ins.get k).exit:=of_decide_eq_true h
  have h:decide ((t.ins.get k).exit≥0)=true:=h
  have hb:=lR h0 hE
  have hb2:Nat.blt (t.ins.get k).exit.toNat t.aa.n=true:=ly (by omega)
  refine aw hb (aw hb2 (ak (fun h1=>no (by simp only [Dp,h,show cm t k (t.ins.get k).exit.toNat=true from h1,aO])) (fun h1=>aw hb ⟨Xk _ _ _ (by omega) (hS.ex _ (by omega)),?_⟩)))
  have h1:cm t k (t.ins.get k).exit.toNat=false:=h1
  refine ak (fun h2=>no (by simp only [Dp,h,h1,show kh t (t.aa.get (t.ins.get k).exit.toNat) k=false from by simpa using h2,aO])) (fun h2=>aw hb (aw hb2 ?_))
  have h2:kh t (t.aa.get (t.ins.get k).exit.toNat) k=true:=by simpa using h2
  exact af.rename [0,1] rfl (af.le (tY t (cm t (k+1)) (k+1)) (by repeat' (first|exact trivial|refine bV rfl ?_)) (rc (.cons (LB t k _ h0) .nil)) rfl (go (by simp only [Dp,h,h1,h2,aO])))
 ·have h0:(t.ins.get k).exit<0:=by have:=of_decide_eq_false h; omega
  exact af.rename [0,1] rfl (af.le (tY t (cm t (k+1)) (k+1)) (by repeat' (first|exact trivial|refine bV rfl ?_)) (rc (.cons (GX t k _ h0) .nil)) rfl (go (by simp only [Dp,show decide ((t.ins.get k).exit≥0)=false from h,aO])))
theorem QV (t:ae) (k:Nat) (a:Bool) (hS:ed t) (hk:k<t.ins.n) (no:(a20 t k&&Dp t k)=false→a=false) (go:(a20 t k&&Dp t k)=true→Zk t a k):af 57 0 (aW (bool a)) (ag 57 20) (Cj t (cm t k) k):=by
 have no1:a20 t k=false→aX (bool false) (bool a):=fun q=>by rw [no (by rw [q]; rfl)]; exact aX.refl _
 have KS:a20 t k=true→af 57 0 (aW (bool a)) (ag 57 22) (vn t (cm t k) k):=fun q=>by
  rw [q,Bool.true_and] at no go
  have hE:(t.ins.get k).exit<t.aa.n:=by
   simp only [a20,dz,Bool.not_eq_true',decide_eq_false_iff_not] at q
   omega
  exact Ts t k a hS hk hE no go
 refine aH (X:=rJ) (stop:=sG) (R0 _ _ t (cm t k) k ?_)
 repeat' (first|refine ak (fun h=>?_) (fun h=>?_)|refine ⟨aa0 _,?_⟩|refine ⟨Xl _,?_⟩|done)
 all_goals (try simp only [Bool.not_eq_true',Bool.not_eq_false'] at *)
 all_goals first
  | exact no1 (by simp only [a20, *,aO])
  | exact af.le (vn t (cm t k) k) (by repeat' (first|exact trivial|refine bV rfl ?_)) (rc (rc (rc .nil))) rfl (KS (by simp only [a20, *,aO]))
  | (exfalso; simp only [decide_eq_true_eq,decide_eq_false_iff_not] at *; omega)
theorem Q4 (t:ae) (k:Nat) (a:Bool) (hS:ed t) (hk:k<t.ins.n):∀ j,j≤(aC (t.ins.get k)).n→((bS (fun j=>u16 t k ((aC (t.ins.get k)).get j)) ((aC (t.ins.get k)).n-j) j&&(a20 t k&&Dp t k))=false→a=false)→((bS (fun j=>u16 t k ((aC (t.ins.get k)).get j)) ((aC (t.ins.get k)).n-j) j&&(a20 t k&&Dp t k))=true→Zk t a k)→af 57 0 (aW (bool a)) (ag 57 16) (mY t (cm t k) k j):=by
 have hN:(aC (t.ins.get k)).n≤1000:=JN _ (hS.args k hk)
 refine aL (fun j hj ih no go=>?_) (fun no go=>?_)
 ·have q:(aC (t.ins.get k)).n-j=((aC (t.ins.get k)).n-(j+1))+1:=by omega
  rw [q] at no go
  have no1:u16 t k ((aC (t.ins.get k)).get j)=false→aX (bool false) (bool a):=fun q=>by rw [no (by rw [cO (p:=fun j=>u16 t k ((aC (t.ins.get k)).get j)) q]; rfl)]; exact aX.refl _
  have KS:u16 t k ((aC (t.ins.get k)).get j)=true→af 57 0 (aW (bool a)) (ag 57 16) (mY t (cm t k) k (j+1)):=fun q=>by rw [dI (p:=fun j=>u16 t k ((aC (t.ins.get k)).get j)) q] at no go; exact ih no go
  refine aH (X:=rJ) (stop:=sG) (Jj _ _ t (cm t k) k j ?_)
  rw [bR hj (cM hN (by decide))]
  refine ak (fun h=>?_) (fun h=>(dec_lt h hj).elim)
  refine aw (aA hj) ⟨Gr _ _ _ (by show (k:Int)≤_; omega),?_⟩
  refine ak (fun h1=>no1 (by simp only [u16,show dC t ((aC (t.ins.get k)).get j) k=false from by simpa using h1,aO])) (fun h1=>?_)
  have h1:dC t ((aC (t.ins.get k)).get j) k=true:=by simpa using h1
  refine aw (aA hj) (aw (nB h1 (by omega)) (ak (fun h2=>no1 (by simp only [u16,h1,show ((t.ins.get ((aC (t.ins.get k)).get j).toNat).op==17)=true from h2,aO])) (fun h2=>?_)))
  exact af.rename [0,1,2] rfl (KS (by simp only [u16,h1,show ((t.ins.get ((aC (t.ins.get k)).get j).toNat).op==17)=false from h2,aO]))
 ·rw [Nat.sub_self] at no go
  refine aH (X:=rJ) (stop:=sG) (Jj _ _ t (cm t k) k _ ?_)
  refine ak (fun h=>bJ h) (fun h=>?_)
  exact af.le (Cj t (cm t k) k) (by repeat' (first|exact trivial|refine bV rfl ?_)) (rc (rc (rc .nil))) rfl (QV t k a hS hk (by simpa [bS] using no) (by simpa [bS] using go))
theorem Tr (t:ae) (k:Nat) (a:Bool) (hS:ed t) (hk:k<t.ins.n) (no:(a12 t k&&(Lj t k&&(a20 t k&&Dp t k)))=false→a=false) (go:(a12 t k&&(Lj t k&&(a20 t k&&Dp t k)))=true→Zk t a k):af 57 0 (aW (bool a)) (ag 57 12) (sK t (cm t k) k):=by
 have no1:a12 t k=false→aX (bool false) (bool a):=fun q=>by rw [no (by rw [q]; rfl)]; exact aX.refl _
 have KS:a12 t k=true→af 57 0 (aW (bool a)) (ag 57 16) (mY t (cm t k) k 0):=fun q=>by
  rw [q,Bool.true_and] at no go
  exact Q4 t k a hS hk 0 (bu _) no go
 refine aH (X:=rJ) (stop:=sG) (SZ _ _ t (cm t k) k ?_)
 have w1:decide ((k:Int)>0)=true→IntKind.i64.wrap ((k:Int)-1)=((k-1:Nat):Int):=fun h=>by
  have h:=of_decide_eq_true h
  rw [ir (by omega) (by have:=hS.ins; omega)]
  omega
 refine ak (fun h=>?_) (fun h=>?_)
 ·have h:((t.ins.get k).op==1)=true:=h
  refine ak (fun h1=>?_) (fun h1=>?_)
  ·rw [w1 h1]
   have kH:decide ((k:Int)>0)=true:=h1
   have h1'':=of_decide_eq_true h1
   clear h1
   refine aw (aA (by omega)) (ak (fun h2=>no1 ?_) (fun h2=>?_))
   ·have h2:decide ((t.ins.get k).k.n≤(t.ins.get (k-1)).k.n)=true:=h2
    simp only [a12,h,kH,h2,aO]
   ·have h2:decide ((t.ins.get k).k.n≤(t.ins.get (k-1)).k.n)=false:=h2
    clear h1''
    repeat' (first|refine ak (fun h=>?_) (fun h=>?_)|refine ⟨zP _,?_⟩|done)
    all_goals first
     | exact no1 (by simp only [a12, *,aO])
     | exact af.le (mY t (cm t k) k 0) (by repeat' (first|exact trivial|refine bV rfl ?_)) (rc (rc (rc .nil))) rfl (KS (by simp only [a12, *,aO]))
  ·have h1:decide ((k:Int)>0)=false:=h1
   repeat' (first|refine ak (fun h=>?_) (fun h=>?_)|refine ⟨zP _,?_⟩|done)
   all_goals first
    | exact no1 (by simp only [a12, *,aO])
    | exact af.le (mY t (cm t k) k 0) (by repeat' (first|exact trivial|refine bV rfl ?_)) (rc (rc (rc .nil))) rfl (KS (by simp only [a12, *,aO]))
 ·have h:((t.ins.get k).op==1)=false:=h
  repeat' (first|refine ak (fun h=>?_) (fun h=>?_)|refine ⟨zP _,?_⟩|done)
  all_goals first
   | exact no1 (by simp only [a12, *,aO])
   | exact af.le (mY t (cm t k) k 0) (by repeat' (first|exact trivial|refine bV rfl ?_)) (rc (rc (rc .nil))) rfl (KS (by simp only [a12, *,aO]))
theorem WU (t:ae) (a:Bool) (hS:ed t) (hn:0<t.ins.n):∀ k,k≤t.ins.n→bS (jV t) (t.ins.n-k) k=a→af 57 0 (aW (bool a)) (ag 57 6) (tY t (cm t k) k):=by
 have hN:=hS.ins
 refine aL (fun k hk ih ha=>?_) (fun ha=>?_)
 ·have q:t.ins.n-k=(t.ins.n-(k+1))+1:=by omega
  rw [q] at ha
  have no:jV t k=false→a=false:=fun q=>by rw [cO q] at ha; exact ha.symm
  have go:jV t k=true→Zk t a k:=fun q=>by rw [dI q] at ha; exact ih ha
  have no1:a6 t k=false→aX (bool false) (bool a):=fun q=>by rw [no (by unfold jV; rw [q]; rfl)]; exact aX.refl _
  have KS:a6 t k=true→af 57 0 (aW (bool a)) (ag 57 12) (sK t (cm t k) k):=fun q=>by
   unfold jV at no go
   rw [q,Bool.true_and] at no go
   exact Tr t k a hS hk no go
  clear no go
  refine aH (X:=rJ) (stop:=sG) (Mw _ _ t (cm t k) k ?_)
  rw [zG hn hN]
  refine ak (fun h=>?_) (fun h=>(dec_lt h hk).elim)
  refine aw (aA hk) ?_
  have hs:(t.ins.get k).k.s.size≤maxLen:=cM (hS.str k hk) (by decide)
  refine ak (fun h=>?_) (fun h=>?_)
  ·have h0:pC (t.ins.get k)=true:=by simp only [pC,show ((t.ins.get k).op==20)=true from h,aO]
   clear h
   refine ak (fun h1=>?_) (fun h1=>?_)
   ·have h1:(true != ((k:Int)==(t.ins.n:Int)-1))=true:=h1
    exact no1 (by simp only [a6,h0,h1,aO])
   have h1:(true != ((k:Int)==(t.ins.n:Int)-1))=false:=h1
   repeat' (first|refine ak (fun h=>?_) (fun h=>?_)|refine ⟨PL _ hs,?_⟩|done)
   all_goals (try simp only [Bool.not_eq_true',Bool.not_eq_false'] at *)
   all_goals first
    | exact no1 (by simp only [a6, *,aO])
    | exact af.le (sK t (cm t k) k) (by repeat' (first|exact trivial|refine bV rfl ?_)) (rc (rc (rc .nil))) rfl (KS (by simp only [a6, *,aO]))
  ·have h0:pC (t.ins.get k)=((t.ins.get k).op==21):=by simp only [pC,show ((t.ins.get k).op==20)=false from h,aO]
   clear h
   refine ak (fun h1=>?_) (fun h1=>?_)
   ·have h1:(((t.ins.get k).op==21)!=((k:Int)==(t.ins.n:Int)-1))=true:=h1
    exact no1 (by simp only [a6,h0,h1,aO])
   have h1:(((t.ins.get k).op==21)!=((k:Int)==(t.ins.n:Int)-1))=false:=h1
   repeat' (first|refine ak (fun h=>?_) (fun h=>?_)|refine ⟨PL _ hs,?_⟩|done)
   all_goals (try simp only [Bool.not_eq_true',Bool.not_eq_false'] at *)
   all_goals first
    | exact no1 (by simp only [a6, *,aO])
    | exact af.le (sK t (cm t k) k) (by repeat' (first|exact trivial|refine bV rfl ?_)) (rc (rc (rc .nil))) rfl (KS (by simp only [a6, *,aO]))
 ·rw [Nat.sub_self] at ha
  refine aH (X:=rJ) (stop:=sG) (Mw _ _ t _ _ ?_)
  refine ak (fun h=>bJ h) (fun h=>?_)
  subst ha; exact aX.refl _
theorem Yb (t:ae) (hS:ed t):LC 57 [bc t] [] (bool (gA t)) []:=by
 refine aU (X:=rJ) (stop:=sG) ak6 (bg (by kernel_rfl)) (ar2 _ _ t ⟨Vn _,?_⟩)
 have hE:=hS.aa
 refine ak (fun h1=>?_) (fun h1=>ak (fun h2=>?_) (fun h2=>ak (fun h3=>?_) (fun h3=>aw ?_ (aw (cf _) ?_))))
 ·rw [show gA t=false from by simp only [gA,show decide (t.place.fn<0)=true from h1,aO]]; exact aX.refl _
 ·rw [show gA t=false from by simp only [gA,show decide (t.place.line<0)=true from h2,aO]]; exact aX.refl _
 ·rw [show gA t=false from by simp only [gA,show ((t.ins.n:Int)==0)=true from h3,aO]]; exact aX.refl _
 ·simp only [dz,Nat.ble_eq]
  exact ⟨cM hE (by decide),cM (Nat.mul_le_mul hE (bk 1)) (by decide)⟩
 ·have hn:0<t.ins.n:=by
   have h3:((t.ins.n:Int)==0)=false:=h3
   simp only [beq_eq_false_iff_ne] at h3
   omega
  refine af.le (tY t (cm t 0) 0) (by repeat' (first|exact trivial|refine bV rfl ?_)) (rc (.cons (aJ.arr fun i hi j hj=>by
   have:j=0:=by omega
   subst this
   exact dr.refl _) .nil)) rfl ?_
  exact WU t _ hS hn 0 (bu _) (by simp only [gA,dn,Nat.sub_zero,show decide (t.place.fn<0)=false from h1,show decide (t.place.line<0)=false from h2,show ((t.ins.n:Int)==0)=false from h3,aO])
open Go Go.V
def F8L:CA:=[
 (57,fun ds rs=>(bool (gA (gj ds 0)),[],[])),
 (64,fun ds rs=>(bool (dC (gj ds 0) (aI ds 1) (aI ds 2)),[],[])),
 (71,fun ds rs=>(.c (.mc 89 [rs.length]),[],[.box (lift (bn (Ei ds 0)))]))]
def F8:=ext F7 F8L
def dL (t:ae) (q:Nat):List C:=[.im (iI t.place.fn),.im (iI t.place.line),.im (sJ 14 cy t.ins),.im (sJ 3 dS t.aa),.mp q]
def yI (t:ae) (q:Nat):D:=.a (dL t q)
theorem XB (op:Int):cC op [1,2,3,4,10,12,14,16,17]=uU op:=by
 simp [cC,uU]
def X8:hX:={ F:=F8 }
def Z7:hX:={ F:=F8 }
def YA:Nat→Bool:=cw
theorem ai7:Fn 38:=⟨by kernel_rfl,by kernel_rfl⟩
theorem al2 (L:LP) (QD:D→Prop) (t:ae) (h:br (decide ((↑t.2.1:Int)>200)) (QD (int 2)) (br (decide ((↑t.3.1:Int)>60)) (QD (int 2)) ((LC 57 [(dw t)] [] (bool (gA t)) []∧br (!gA t) (QD (int 31)) (QD (int 0)))))):fS Z7 38 YA L (aZ QD) [bc t] []:=Eq.mp (by kernel_rfl) h
def eu (t:ae):Int:=bif decide ((t.ins.n:Int)>200) then 2 else bif decide ((t.aa.n:Int)>60) then 2 else bif gA t then 0 else 31
theorem ae7 (t:ae) (hS:ed t):LC 38 [bc t] [] (int (eu t)) []:=by
 refine aU (X:=Z7) (stop:=YA) ai7 (bg (by kernel_rfl)) (al2 _ _ t ?_)
 refine ak (fun h1=>?_) (fun h1=>ak (fun h2=>?_) (fun h2=>⟨Yb _ hS,ak (fun h3=>?_) (fun h3=>?_)⟩))
 ·rw [show eu t=2 from by simp only [eu,show decide ((t.ins.n:Int)>200)=true from h1,aO]]; exact aX.refl _
 ·rw [show eu t=2 from by simp only [eu,show decide ((t.ins.n:Int)>200)=false from h1,show decide ((t.aa.n:Int)>60)=true from h2,aO]]; exact aX.refl _
 ·rw [show eu t=31 from by simp only [eu,show decide ((t.ins.n:Int)>200)=false from h1,show decide ((t.aa.n:Int)>60)=false from h2,show gA t=false from by simpa using h3,aO]]; exact aX.refl _
 ·rw [show eu t=0 from by simp only [eu,show decide ((t.ins.n:Int)>200)=false from h1,show decide ((t.aa.n:Int)>60)=false from h2,show gA t=true from by simpa using h3,aO]]; exact aX.refl _
def ab4:hX:={ F:=F8 }
def Yw:Nat→Bool:=cw
theorem aj2:Fn 71:=⟨by kernel_rfl,by kernel_rfl⟩
theorem an5 (L:LP) (QE:D→List ah→Prop) (e:ai) (r0 r1 r2 r3 r4 r5 r6 r7 r8 r9 ez ey:ah) (h:QE (.c (.mc 89 [12])) [r0,r1,r2,r3,r4,r5,r6,r7,r8,r9,ez,ey,(.box (lift (bn (e))))]):fS ab4 71 Yw L QE [pD e] [r0,r1,r2,r3,r4,r5,r6,r7,r8,r9,ez,ey]:=Eq.mp (by kernel_rfl) h
theorem ae9 (e:ai) (r0 r1 r2 r3 r4 r5 r6 r7 r8 r9 ez ey:ah):LC 71 [pD e] [r0,r1,r2,r3,r4,r5,r6,r7,r8,r9,ez,ey] (.c (.mc 89 [12])) [r0,r1,r2,r3,r4,r5,r6,r7,r8,r9,ez,ey,.box (lift (bn e))]:=
 je aj2 (bg (by kernel_rfl)) (ig (X:=ab4) (stop:=Yw) (an5 _ _ e r0 r1 r2 r3 r4 r5 r6 r7 r8 r9 ez ey ⟨13,bg rfl,bg rfl,rfl,rfl,aX.refl _,by repeat' (first|exact trivial|refine ⟨.inl (.inl rfl),?_⟩|refine ⟨rfl,?_⟩|done)⟩))
def Kq:Nat→Bool:=cw
theorem Wy:Fn 64:=⟨by kernel_rfl,by kernel_rfl⟩
abbrev Hi (ax:ae) (aF:Int):D:=bool (cC (ax.ins.2 aF.toNat).1 [1,2,3,4,10,12,14,16,17])
theorem Vo (L:LP) (QE:D→List ah→Prop) (t:ae) (n before:Int) (r0 r1 r2 r3 r4:ah) (h:br (decide (n≥0)) (br (decide (n<before)) (nd (cd n t.2.1) ((LC 51 [(int ((t.ins.2 n.toNat).1))] [] (Hi t n) []∧QE (bool (cC (t.ins.2 n.toNat).1 [1,2,3,4,10,12,14,16,17])) [r0,r1,r2,r3,r4,(.box (dL (t) 1))]))) (QE (bool false) [r0,r1,r2,r3,r4,(.box (dL (t) 1))])) (QE (bool false) [r0,r1,r2,r3,r4,(.box (dL (t) 1))])):fS X8 64 Kq L QE [yI t 1,int n,int before] [r0,r1,r2,r3,r4]:=Eq.mp (by kernel_rfl) h
theorem RN (t:ae) (n before:Int) (r0 r1 r2 r3 r4:ah) (hb:before≤t.ins.n):LC 64 [yI t 1,int n,int before] [r0,r1,r2,r3,r4] (bool (dC t n before)) [r0,r1,r2,r3,r4]:=by
 refine je Wy (bg (by kernel_rfl)) (ig (X:=X8) (stop:=Kq) (Vo _ _ t n before r0 r1 r2 r3 r4 ?_))
 refine ak (fun h=>ak (fun h2=>aw (lR (of_decide_eq_true h) (by have:=of_decide_eq_true h2; omega)) ⟨Gu _,?_⟩) (fun h2=>?_)) (fun h=>?_)
 ·rw [show dC t n before=cC (t.ins.get n.toNat).op [1,2,3,4,10,12,14,16,17] from by simp only [dC,show decide (n≥0)=true from h,show decide (n<before)=true from h2,Bool.true_and,XB]]; exact ⟨5,bg rfl,bg rfl,rfl,rfl,aX.refl _,bz _ _⟩
 ·rw [show dC t n before=false from by simp only [dC,show decide (n<before)=false from h2,Bool.false_and,Bool.and_false]]; exact ⟨5,bg rfl,bg rfl,rfl,rfl,aX.refl _,bz _ _⟩
 ·rw [show dC t n before=false from by simp only [dC,show decide (n≥0)=false from h,Bool.false_and]]; exact ⟨5,bg rfl,bg rfl,rfl,rfl,aX.refl _,bz _ _⟩
theorem Q2 (L:LP) (QE:D→List ah→Prop) (t:ae) (n before:Int) (r0 r1 r2 r3 r4 r5 r6 r7 r8 r9 ez ey Dl:ah) (h:br (decide (n≥0)) (br (decide (n<before)) (nd (cd n t.2.1) ((LC 51 [(int ((t.ins.2 n.toNat).1))] [] (Hi t n) []∧QE (bool (cC (t.ins.2 n.toNat).1 [1,2,3,4,10,12,14,16,17])) [r0,r1,r2,r3,r4,r5,r6,r7,r8,r9,ez,ey,Dl,(.box (dL (t) 1))]))) (QE (bool false) [r0,r1,r2,r3,r4,r5,r6,r7,r8,r9,ez,ey,Dl,(.box (dL (t) 1))])) (QE (bool false) [r0,r1,r2,r3,r4,r5,r6,r7,r8,r9,ez,ey,Dl,(.box (dL (t) 1))])):fS X8 64 Kq L QE [yI t 1,int n,int before] [r0,r1,r2,r3,r4,r5,r6,r7,r8,r9,ez,ey,Dl]:=Eq.mp (by kernel_rfl) h
theorem Pf (t:ae) (n before:Int) (r0 r1 r2 r3 r4 r5 r6 r7 r8 r9 ez ey Dl:ah) (hb:before≤t.ins.n):LC 64 [yI t 1,int n,int before] [r0,r1,r2,r3,r4,r5,r6,r7,r8,r9,ez,ey,Dl] (bool (dC t n before)) [r0,r1,r2,r3,r4,r5,r6,r7,r8,r9,ez,ey,Dl]:=by
 refine je Wy (bg (by kernel_rfl)) (ig (X:=X8) (stop:=Kq) (Q2 _ _ t n before r0 r1 r2 r3 r4 r5 r6 r7 r8 r9 ez ey Dl ?_))
 refine ak (fun h=>ak (fun h2=>aw (lR (of_decide_eq_true h) (by have:=of_decide_eq_true h2; omega)) ⟨Gu _,?_⟩) (fun h2=>?_)) (fun h=>?_)
 ·rw [show dC t n before=cC (t.ins.get n.toNat).op [1,2,3,4,10,12,14,16,17] from by simp only [dC,show decide (n≥0)=true from h,show decide (n<before)=true from h2,Bool.true_and,XB]]; exact ⟨13,bg rfl,bg rfl,rfl,rfl,aX.refl _,bz _ _⟩
 ·rw [show dC t n before=false from by simp only [dC,show decide (n<before)=false from h2,Bool.false_and,Bool.and_false]]; exact ⟨13,bg rfl,bg rfl,rfl,rfl,aX.refl _,bz _ _⟩
 ·rw [show dC t n before=false from by simp only [dC,show decide (n≥0)=false from h,Bool.false_and]]; exact ⟨13,bg rfl,bg rfl,rfl,rfl,aX.refl _,bz _ _⟩
theorem RT (L:LP) (QE:D→List ah→Prop) (t:ae) (n before:Int) (r0 r1 r2 r3 r4 r5 r6 r7 r8 r9 ez ey Dl fq T9 UD:ah) (h:br (decide (n≥0)) (br (decide (n<before)) (nd (cd n t.2.1) ((LC 51 [(int ((t.ins.2 n.toNat).1))] [] (Hi t n) []∧QE (bool (cC (t.ins.2 n.toNat).1 [1,2,3,4,10,12,14,16,17])) [r0,r1,r2,r3,r4,r5,r6,r7,r8,r9,ez,ey,Dl,fq,T9,UD,(.box (dL (t) 1))]))) (QE (bool false) [r0,r1,r2,r3,r4,r5,r6,r7,r8,r9,ez,ey,Dl,fq,T9,UD,(.box (dL (t) 1))])) (QE (bool false) [r0,r1,r2,r3,r4,r5,r6,r7,r8,r9,ez,ey,Dl,fq,T9,UD,(.box (dL (t) 1))])):fS X8 64 Kq L QE [yI t 1,int n,int before] [r0,r1,r2,r3,r4,r5,r6,r7,r8,r9,ez,ey,Dl,fq,T9,UD]:=Eq.mp (by kernel_rfl) h
theorem PQ (t:ae) (n before:Int) (r0 r1 r2 r3 r4 r5 r6 r7 r8 r9 ez ey Dl fq T9 UD:ah) (hb:before≤t.ins.n):LC 64 [yI t 1,int n,int before] [r0,r1,r2,r3,r4,r5,r6,r7,r8,r9,ez,ey,Dl,fq,T9,UD] (bool (dC t n before)) [r0,r1,r2,r3,r4,r5,r6,r7,r8,r9,ez,ey,Dl,fq,T9,UD]:=by
 refine je Wy (bg (by kernel_rfl)) (ig (X:=X8) (stop:=Kq) (RT _ _ t n before r0 r1 r2 r3 r4 r5 r6 r7 r8 r9 ez ey Dl fq T9 UD ?_))
 refine ak (fun h=>ak (fun h2=>aw (lR (of_decide_eq_true h) (by have:=of_decide_eq_true h2; omega)) ⟨Gu _,?_⟩) (fun h2=>?_)) (fun h=>?_)
 ·rw [show dC t n before=cC (t.ins.get n.toNat).op [1,2,3,4,10,12,14,16,17] from by simp only [dC,show decide (n≥0)=true from h,show decide (n<before)=true from h2,Bool.true_and,XB]]; exact ⟨16,bg rfl,bg rfl,rfl,rfl,aX.refl _,bz _ _⟩
 ·rw [show dC t n before=false from by simp only [dC,show decide (n<before)=false from h2,Bool.false_and,Bool.and_false]]; exact ⟨16,bg rfl,bg rfl,rfl,rfl,aX.refl _,bz _ _⟩
 ·rw [show dC t n before=false from by simp only [dC,show decide (n≥0)=false from h,Bool.false_and]]; exact ⟨16,bg rfl,bg rfl,rfl,rfl,aX.refl _,bz _ _⟩
open Go Go.V
def UW:Code→Option (List Tmp×Code×Code)
 | .rangeFunc _ ps a b=>some (ps.toList,a,b)
 | .seq a b=>match UW a with
   | some x=>some x
   | none=>UW b
 | .cond _ a b=>match UW a with
   | some x=>some x
   | none=>UW b
 | .block _ a=>UW a
 | .loop a=>UW a
 | _=>none
def Ii (f:FuncId):Code:=match UW (sN f) with
 | some x=>x.2.1
 | none=>.skip
def JM (f:FuncId):Code:=match UW (sN f) with
 | some x=>x.2.2
 | none=>.skip
def vcY (X:hX) (f:FuncId) (r:Nat) (Q:D→List ah→Prop) (sl:aN) (rs:List ah):Prop:=
 uT pN Tryd.prog X hints (CK f).ntmps f (some r) cw (fun _ _=>False) (Un r Q) 10000 false [.code (Ii f),.beginRound,.code (JM f)] ⟨sl,rs,[]⟩
theorem YB {X:hX} {f:FuncId} {r:Nat} {QX Jt:aN} {ps:List Tmp} {ds:List D} {rs:List ah} {d:D} {aG:List ah} (hr:rs[r]?=some (.loop f (CK f).ntmps QX ps (Ii f) (JM f) .ready none)) (NQ:Mc (CK f).ntmps ps ds QX=some Jt) (h:vcY X f r (Go.V.Ends rs d aG) Jt rs):ti pN Tryd.prog r ds rs d aG:=
 K7 wh hr NQ fun b cs hb=>B5 (L:=fun _ _=>False) wh mixed hb (fun _ _ q=>q.elim) (fun _ _ q=>q) 10000 h
def T5 (b:Bool) (x:Option ah):ah:=match x with
 | some (.loop f N sl ps c d _ _)=>.loop f N sl ps c d (bif b then .ready else .done) (bif b then none else some .ret)
 | _=>.dead
def I8 (n:Nat) (sl:aN):Bool:=List.rec true (fun x _ ih=>Bool.rec false ih (j3 n x.2.1)) sl
theorem tt {n:Nat}:∀ {sl:aN},I8 n sl=true→∀ x∈sl,j3 n x.2.1=true
 | [],_,x,hx=>by cases hx
 | y::l,h,x,hx=>by
   obtain ⟨h1,h2⟩:=Bool.gH (show (Bool.rec false (I8 n l) (j3 n y.2.1):Bool)=true from h)
   rcases List.mem_cons.1 hx with rfl|hx
   ·exact h1
   ·exact tt h2 x hx
def fx (n:Nat):List ah→Prop
 | []=>True
 | x::l=>jf n x∧fx n l
theorem fx.mem {n:Nat}:∀ {l:List ah},fx n l→∀ x∈l,jf n x
 | [],_,x,hx=>by cases hx
 | y::l,h,x,hx=>by
   rcases List.mem_cons.1 hx with rfl|hx
   ·exact h.1
   ·exact fx.mem h.2 x hx
theorem fx.mono {n m:Nat} (hnm:n≤m):∀ {l:List ah},fx n l→fx m l
 | [],_=>trivial
 | _::_,h=>⟨h.1.mono hnm,fx.mono hnm h.2⟩
theorem O8 {n:Nat} {f N:Nat} {sl:aN} {ps:List Tmp} {a b:Code} {st:LoopState} {pd:Option Code} (h:I8 n sl=true):jf n (.loop f N sl ps a b st pd):=
 .inr ⟨f,N,sl,ps,a,b,st,pd,rfl,fun t d c q=>tt h _ (iN q)⟩
theorem af.cut {f:FuncId} {n0:Nat} {Q:D→List ah→Prop} {todo:List Item} {s:VS} (n:Nat) (h0:n0≤n) (hn:n≤s.rs.length) (Fx:I8 n s.sl=true) (LN:s.df=[]) (E8:fx n (s.rs.take n)) (g:af f n0 Q todo ⟨s.sl,s.rs.take n,s.df⟩):af f n0 Q todo s:=
 fun b cs hb=>Goal.ghost (g b cs hb) fun ay w0 sp a w E ec uu hR qy=>by
  refine ⟨E.take n,by rw [List.take_take,Nat.min_eq_left h0],?_,qy⟩
  exact hR.cut hn (fun x hx=>pS h0 (ec x hx)) (fun t d q=>tt Fx _ (iN q)) (fun t d c q=>qy _ (iN q)) (by rw [LN]; intro r hr; cases hr) (fun q x e=>E8.mem x (List.mem_of_getElem? e))
open Go Go.V
def Jh (p:Int→Bool):hX:={ F:=F8,S:=[14],FY:=fun r ds rs=>(bool (p (aI ds 0)),[(r,T5 (p (aI ds 0)) (aV rs r))],[]) }
def allM (p:Int→Bool) (e:ai):Bool:=dn (fun j=>dn (fun i=>p ((e.frames.get j).vars.get i)) (e.frames.get j).vars.n) e.frames.n&&dn (fun j=>dn (fun i=>p ((e.az.get j).items.get i)) (e.az.get j).items.n) e.az.n
def rL:Nat→Bool:=fun i=>Nat.beq i 1||Nat.beq i 4||Nat.beq i 10||Nat.beq i 13
theorem aj9:Fn 89:=⟨by kernel_rfl,by kernel_rfl⟩
abbrev pA:gF:=(0,((.c (.yl 14)),[]))
abbrev Bs:gF:=(1,((.c (.rt 12 0 0)),[]))
abbrev qE (ax:ai):D:=.c (.im (.sl 3 ax.1.1 (fun i=>ja (ax.frames.2 i))))
abbrev lY (ax:ai):D:=int (↑ax.1.1:Int)
abbrev mi (ax aF:Nat) (aR:aN) (bZ:List Tmp) (ct dX:Code):ah:=.loop ax aF aR bZ ct dX .ready none
theorem ap0 (L:LP) (QE:D→List ah→Prop) (p:Int→Bool) (e:ai) (r0 r1 r2 r3 r4 r5 r6 r7 r8 r9 ez ey fq:ah) (f N:Nat) (sl:aN) (ps:List Tmp) (ca cb:Code) (h:L (ag 89 1) ⟨[pA,Bs,(12,((qE e),[])),(13,((lY e),[])),(14,((int 0),[]))],[r0,r1,r2,r3,r4,r5,r6,r7,r8,r9,ez,ey,(dc e),fq,(mi f N sl ps ca cb)],[]⟩):fS (Jh p) 89 rL L QE [.c (.yl 14),.c (.rt 12 0 0)] [r0,r1,r2,r3,r4,r5,r6,r7,r8,r9,ez,ey,.box (lift (bn e)),fq,.loop f N sl ps ca cb .ready none]:=Eq.mp (by kernel_rfl) h
abbrev BH:gF:=(0,(.c (.yl 14)),[])
def H0 (p:Int→Bool) (e:ai) (r0 r1 r2 r3 r4 r5 r6 r7 r8 r9 ez ey fq:ah) (f N:Nat) (sl:aN) (ps:List Tmp) (ca cb:Code) (j:Nat):VS:=⟨[BH,(1,(.c (.rt 12 0 0)),[]),(12,(qE e),[]),(13,(lY e),[]),(14,int j,[])],[r0,r1,r2,r3,r4,r5,r6,r7,r8,r9,ez,ey,(dc e),fq,(mi f N sl ps ca cb)],[]⟩
abbrev sW (ax:ai):D:=.c (.im (.sl 4 ax.2.1 (fun i=>uJ (ax.az.2 i))))
abbrev nl (ax:ai):D:=int (↑ax.2.1:Int)
theorem Mj (L:LP) (QE:D→List ah→Prop) (p:Int→Bool) (e:ai) (r0 r1 r2 r3 r4 r5 r6 r7 r8 r9 ez ey fq:ah) (f N:Nat) (sl:aN) (ps:List Tmp) (ca cb:Code) (j:Nat) (h:br (decide ((↑j:Int)<(↑e.1.1:Int))) (nd (cd (↑j:Int) e.1.1) (L (ag 89 4) ⟨[pA,Bs,(12,((qE e),[])),(13,((lY e),[])),(14,((int (↑j:Int)),[])),(19,((.c (.im (.sl 1 ((e.frames.2 j).3.1) (fun i=>b8 ((e.frames.get (↑j:Int).toNat).vars.2 i))))),[])),(20,((int ((↑(e.frames.2 j).3.1:Int))),[])),(21,((int 0),[]))],[r0,r1,r2,r3,r4,r5,r6,r7,r8,r9,ez,ey,(dc e),fq,(mi f N sl ps ca cb),(sZ e j)],[]⟩)) (L (ag 89 10) ⟨[pA,(32,((sW e),[])),(33,((nl e),[])),(34,((int 0),[]))],[r0,r1,r2,r3,r4,r5,r6,r7,r8,r9,ez,ey,(dc e),fq,(mi f N sl ps ca cb)],[]⟩)):dq (Jh p) 89 rL L QE 1 (H0 p e r0 r1 r2 r3 r4 r5 r6 r7 r8 r9 ez ey fq f N sl ps ca cb j):=Eq.mp (by kernel_rfl) h
def Mv (p:Int→Bool) (e:ai) (r0 r1 r2 r3 r4 r5 r6 r7 r8 r9 ez ey fq:ah) (f N:Nat) (sl:aN) (ps:List Tmp) (ca cb:Code) (j i:Nat):VS:=⟨[BH,(1,(.c (.rt 12 0 0)),[]),(12,(.c (.im (.sl 3 e.1.1 (fun i=>ja (e.frames.2 i))))),[]),(13,(lY e),[]),(14,int j,[]),(19,(.c (.im (.sl 1 ((e.frames.2 j).3.1) (fun i=>b8 ((e.frames.get (↑j:Int).toNat).vars.2 i))))),[]),(20,(int ((↑(e.frames.2 j).3.1:Int))),[]),(21,int i,[])],[r0,r1,r2,r3,r4,r5,r6,r7,r8,r9,ez,ey,(dc e),fq,(mi f N sl ps ca cb),(sZ e j)],[]⟩
theorem PI (L:LP) (QE:D→List ah→Prop) (p:Int→Bool) (e:ai) (r0 r1 r2 r3 r4 r5 r6 r7 r8 r9 ez ey fq:ah) (f N:Nat) (sl:aN) (ps:List Tmp) (ca cb:Code) (j i:Nat) (h:br (decide ((↑i:Int)<(↑(e.frames.2 j).3.1:Int))) (nd (cd (↑i:Int) (e.frames.2 j).3.1) ((ti pN Tryd.prog 14 [(int ((e.frames.get (↑j:Int).toNat).vars.2 i))] [r0,r1,r2,r3,r4,r5,r6,r7,r8,r9,ez,ey,(.box (lift (bn (e)))),fq,(.loop f N sl ps ca cb .ready none),(.box (lift (kU (e.frames.2 j))))] (bool (p ((e.frames.get (↑j:Int).toNat).vars.2 i))) [r0,r1,r2,r3,r4,r5,r6,r7,r8,r9,ez,ey,(.box (lift (bn (e)))),fq,(.loop f N sl ps ca cb (bif p ((e.frames.get (↑j:Int).toNat).vars.2 i) then LoopState.ready else LoopState.done) (bif p ((e.frames.get (↑j:Int).toNat).vars.2 i) then none else some Code.ret)),(.box (lift (kU (e.frames.2 j))))]∧br (!p ((e.frames.get (↑j:Int).toNat).vars.2 i)) (QE (.t []) [r0,r1,r2,r3,r4,r5,r6,r7,r8,r9,ez,ey,(.box (lift (bn (e)))),fq,(.loop f N sl ps ca cb (bif p ((e.frames.get (↑j:Int).toNat).vars.2 i) then LoopState.ready else LoopState.done) (bif p ((e.frames.get (↑j:Int).toNat).vars.2 i) then none else some Code.ret)),(.box (lift (kU (e.frames.2 j))))]) (L (ag 89 4) ⟨[pA,Bs,(12,((.c (.im (.sl 3 e.1.1 (fun i=>ja (e.frames.2 i))))),[])),(13,((lY e),[])),(14,((int (↑j:Int)),[])),(19,((.c (.im (.sl 1 ((e.frames.2 j).3.1) (fun i=>b8 ((e.frames.get (↑j:Int).toNat).vars.2 i))))),[])),(20,((int ((↑(e.frames.2 j).3.1:Int))),[])),(21,((int (IntKind.i64.wrap ((↑i:Int)+1))),[]))],[r0,r1,r2,r3,r4,r5,r6,r7,r8,r9,ez,ey,(dc e),fq,(.loop f N sl ps ca cb (bif p ((e.frames.get (↑j:Int).toNat).vars.2 i) then LoopState.ready else LoopState.done) (bif p ((e.frames.get (↑j:Int).toNat).vars.2 i) then none else some Code.ret)),(sZ e j)],[]⟩)))) (L (ag 89 1) ⟨[pA,Bs,(12,((.c (.im (.sl 3 e.1.1 (fun i=>ja (e.frames.2 i))))),[])),(13,((lY e),[])),(14,((int (IntKind.i64.wrap ((↑j:Int)+1))),[]))],[r0,r1,r2,r3,r4,r5,r6,r7,r8,r9,ez,ey,(dc e),fq,(mi f N sl ps ca cb),(sZ e j)],[]⟩)):dq (Jh p) 89 rL L QE 4 (Mv p e r0 r1 r2 r3 r4 r5 r6 r7 r8 r9 ez ey fq f N sl ps ca cb j i):=Eq.mp (by kernel_rfl) h
def CI (p:Int→Bool) (e:ai) (r0 r1 r2 r3 r4 r5 r6 r7 r8 r9 ez ey fq:ah) (f N:Nat) (sl:aN) (ps:List Tmp) (ca cb:Code) (j:Nat):VS:=⟨[BH,(32,(sW e),[]),(33,(nl e),[]),(34,int j,[])],[r0,r1,r2,r3,r4,r5,r6,r7,r8,r9,ez,ey,(dc e),fq,(mi f N sl ps ca cb)],[]⟩
theorem IQ (L:LP) (QE:D→List ah→Prop) (p:Int→Bool) (e:ai) (r0 r1 r2 r3 r4 r5 r6 r7 r8 r9 ez ey fq:ah) (f N:Nat) (sl:aN) (ps:List Tmp) (ca cb:Code) (j:Nat) (h:br (decide ((↑j:Int)<(↑e.2.1:Int))) (nd (cd (↑j:Int) e.2.1) (L (ag 89 13) ⟨[pA,(32,((sW e),[])),(33,((nl e),[])),(34,((int (↑j:Int)),[])),(39,((.c (.im (.sl 1 ((e.az.2 j).4.1) (fun i=>b8 ((e.az.get (↑j:Int).toNat).items.2 i))))),[])),(40,((int ((↑(e.az.2 j).4.1:Int))),[])),(41,((int 0),[]))],[r0,r1,r2,r3,r4,r5,r6,r7,r8,r9,ez,ey,(dc e),fq,(mi f N sl ps ca cb),(oZ e j)],[]⟩)) (QE (.t []) [r0,r1,r2,r3,r4,r5,r6,r7,r8,r9,ez,ey,(.box (lift (bn (e)))),fq,(.loop f N sl ps ca cb .ready none)])):dq (Jh p) 89 rL L QE 10 (CI p e r0 r1 r2 r3 r4 r5 r6 r7 r8 r9 ez ey fq f N sl ps ca cb j):=Eq.mp (by kernel_rfl) h
def IY (p:Int→Bool) (e:ai) (r0 r1 r2 r3 r4 r5 r6 r7 r8 r9 ez ey fq:ah) (f N:Nat) (sl:aN) (ps:List Tmp) (ca cb:Code) (j i:Nat):VS:=⟨[BH,(32,(.c (.im (.sl 4 e.2.1 (fun i=>uJ (e.az.2 i))))),[]),(33,(nl e),[]),(34,int j,[]),(39,(.c (.im (.sl 1 ((e.az.2 j).4.1) (fun i=>b8 ((e.az.get (↑j:Int).toNat).items.2 i))))),[]),(40,(int ((↑(e.az.2 j).4.1:Int))),[]),(41,int i,[])],[r0,r1,r2,r3,r4,r5,r6,r7,r8,r9,ez,ey,(dc e),fq,(mi f N sl ps ca cb),(oZ e j)],[]⟩
theorem IB (L:LP) (QE:D→List ah→Prop) (p:Int→Bool) (e:ai) (r0 r1 r2 r3 r4 r5 r6 r7 r8 r9 ez ey fq:ah) (f N:Nat) (sl:aN) (ps:List Tmp) (ca cb:Code) (j i:Nat) (h:br (decide ((↑i:Int)<(↑(e.az.2 j).4.1:Int))) (nd (cd (↑i:Int) (e.az.2 j).4.1) ((ti pN Tryd.prog 14 [(int ((e.az.get (↑j:Int).toNat).items.2 i))] [r0,r1,r2,r3,r4,r5,r6,r7,r8,r9,ez,ey,(.box (lift (bn (e)))),fq,(.loop f N sl ps ca cb .ready none),(.box (lift (o4 (e.az.2 j))))] (bool (p ((e.az.get (↑j:Int).toNat).items.2 i))) [r0,r1,r2,r3,r4,r5,r6,r7,r8,r9,ez,ey,(.box (lift (bn (e)))),fq,(.loop f N sl ps ca cb (bif p ((e.az.get (↑j:Int).toNat).items.2 i) then LoopState.ready else LoopState.done) (bif p ((e.az.get (↑j:Int).toNat).items.2 i) then none else some Code.ret)),(.box (lift (o4 (e.az.2 j))))]∧br (!p ((e.az.get (↑j:Int).toNat).items.2 i)) (QE (.t []) [r0,r1,r2,r3,r4,r5,r6,r7,r8,r9,ez,ey,(.box (lift (bn (e)))),fq,(.loop f N sl ps ca cb (bif p ((e.az.get (↑j:Int).toNat).items.2 i) then LoopState.ready else LoopState.done) (bif p ((e.az.get (↑j:Int).toNat).items.2 i) then none else some Code.ret)),(.box (lift (o4 (e.az.2 j))))]) (L (ag 89 13) ⟨[pA,(32,((.c (.im (.sl 4 e.2.1 (fun i=>uJ (e.az.2 i))))),[])),(33,((nl e),[])),(34,((int (↑j:Int)),[])),(39,((.c (.im (.sl 1 ((e.az.2 j).4.1) (fun i=>b8 ((e.az.get (↑j:Int).toNat).items.2 i))))),[])),(40,((int ((↑(e.az.2 j).4.1:Int))),[])),(41,((int (IntKind.i64.wrap ((↑i:Int)+1))),[]))],[r0,r1,r2,r3,r4,r5,r6,r7,r8,r9,ez,ey,(dc e),fq,(.loop f N sl ps ca cb (bif p ((e.az.get (↑j:Int).toNat).items.2 i) then LoopState.ready else LoopState.done) (bif p ((e.az.get (↑j:Int).toNat).items.2 i) then none else some Code.ret)),(oZ e j)],[]⟩)))) (L (ag 89 10) ⟨[pA,(32,((.c (.im (.sl 4 e.2.1 (fun i=>uJ (e.az.2 i))))),[])),(33,((nl e),[])),(34,((int (IntKind.i64.wrap ((↑j:Int)+1))),[]))],[r0,r1,r2,r3,r4,r5,r6,r7,r8,r9,ez,ey,(dc e),fq,(mi f N sl ps ca cb),(oZ e j)],[]⟩)):dq (Jh p) 89 rL L QE 13 (IY p e r0 r1 r2 r3 r4 r5 r6 r7 r8 r9 ez ey fq f N sl ps ca cb j i):=Eq.mp (by kernel_rfl) h
theorem SD (p:Int→Bool) (e:ai) (r0 r1 r2 r3 r4 r5 r6 r7 r8 r9 ez ey fq:ah) (f N:Nat) (sl:aN) (ps:List Tmp) (ca cb:Code) (hy:∀ (n:Int) (x:ah),ti pN Tryd.prog 14 [int n] [r0,r1,r2,r3,r4,r5,r6,r7,r8,r9,ez,ey,.box (lift (bn e)),fq,.loop f N sl ps ca cb .ready none,x] (bool (p n)) [r0,r1,r2,r3,r4,r5,r6,r7,r8,r9,ez,ey,.box (lift (bn e)),fq,.loop f N sl ps ca cb (bif p n then .ready else .done) (bif p n then none else some .ret),x]) (hS:ic e) (hw:fx 15 [r0,r1,r2,r3,r4,r5,r6,r7,r8,r9,ez,ey,.box (lift (bn e)),fq,.loop f N sl ps ca cb .ready none]) (a:Bool) (j:Nat) (hj:j<e.az.n) (end_:bS (fun j=>dn (fun i=>p ((e.az.get j).items.get i)) (e.az.get j).items.n) (e.az.n-(j+1)) (j+1)=a→af 89 15 (Go.V.Ends [r0,r1,r2,r3,r4,r5,r6,r7,r8,r9,ez,ey,.box (lift (bn e)),fq,.loop f N sl ps ca cb .ready none] (.t []) [r0,r1,r2,r3,r4,r5,r6,r7,r8,r9,ez,ey,.box (lift (bn e)),fq,.loop f N sl ps ca cb (bif a then .ready else .done) (bif a then none else some .ret)]) (ag 89 10) (CI p e r0 r1 r2 r3 r4 r5 r6 r7 r8 r9 ez ey fq f N sl ps ca cb (j+1))):∀ i,i≤(e.az.get j).items.n→(bS (fun i=>p ((e.az.get j).items.get i)) ((e.az.get j).items.n-i) i&&bS (fun j=>dn (fun i=>p ((e.az.get j).items.get i)) (e.az.get j).items.n) (e.az.n-(j+1)) (j+1))=a→af 89 15 (Go.V.Ends [r0,r1,r2,r3,r4,r5,r6,r7,r8,r9,ez,ey,.box (lift (bn e)),fq,.loop f N sl ps ca cb .ready none] (.t []) [r0,r1,r2,r3,r4,r5,r6,r7,r8,r9,ez,ey,.box (lift (bn e)),fq,.loop f N sl ps ca cb (bif a then .ready else .done) (bif a then none else some .ret)]) (ag 89 13) (IY p e r0 r1 r2 r3 r4 r5 r6 r7 r8 r9 ez ey fq f N sl ps ca cb j i):=by
 have hV:(e.az.get j).items.n≤1000:=hS.items j hj
 have hN:e.az.n≤1000:=hS.az
 refine aL (fun i hi ih ha=>?_) (fun ha=>?_)
 ·have q:(e.az.get j).items.n-i=((e.az.get j).items.n-(i+1))+1:=by omega
  rw [q] at ha
  refine bA (X:=Jh p) (stop:=rL) (IB _ _ p e r0 r1 r2 r3 r4 r5 r6 r7 r8 r9 ez ey fq f N sl ps ca cb j i ?_)
  rw [bR hi (cM hV (by decide))]
  refine ak (fun h=>?_) (fun h=>(dec_lt h hi).elim)
  refine aw (aA hi) ⟨hy _ _,?_⟩
  refine ak (fun h1=>?_) (fun h1=>?_)
  ·have h1:=(Bool.not_eq_true' _).mp h1
   rw [h1]
   rw [cO (p:=(fun i=>p ((e.az.get j).items.get i))) h1,Bool.false_and] at ha
   subst ha
   refine ⟨15,bg rfl,bg rfl,rfl,rfl,aX.refl _,?_⟩
   repeat' (first|exact trivial|refine ⟨.inl (.inl rfl),?_⟩|refine ⟨.inl (.inr ⟨_,_,_,_,_,_,_,_,_,_,rfl,rfl⟩),?_⟩|done)
  ·have h1:=(Bool.not_eq_false' _▸h1:p _=true)
   rw [h1]
   rw [dI (p:=(fun i=>p ((e.az.get j).items.get i))) h1] at ha
   exact ih ha
 ·rw [Nat.sub_self] at ha
  refine bA (X:=Jh p) (stop:=rL) (IB _ _ p e r0 r1 r2 r3 r4 r5 r6 r7 r8 r9 ez ey fq f N sl ps ca cb j _ ?_)
  rw [bR hj (cM hN (by decide))]
  refine ak (fun h=>bJ h) (fun h=>?_)
  exact af.cut 15 (bk _) (bg rfl) rfl rfl hw (end_ (by simpa [bS] using ha))
theorem S0 (p:Int→Bool) (e:ai) (r0 r1 r2 r3 r4 r5 r6 r7 r8 r9 ez ey fq:ah) (f N:Nat) (sl:aN) (ps:List Tmp) (ca cb:Code) (hy:∀ (n:Int) (x:ah),ti pN Tryd.prog 14 [int n] [r0,r1,r2,r3,r4,r5,r6,r7,r8,r9,ez,ey,.box (lift (bn e)),fq,.loop f N sl ps ca cb .ready none,x] (bool (p n)) [r0,r1,r2,r3,r4,r5,r6,r7,r8,r9,ez,ey,.box (lift (bn e)),fq,.loop f N sl ps ca cb (bif p n then .ready else .done) (bif p n then none else some .ret),x]) (hS:ic e) (hw:fx 15 [r0,r1,r2,r3,r4,r5,r6,r7,r8,r9,ez,ey,.box (lift (bn e)),fq,.loop f N sl ps ca cb .ready none]) (a:Bool):∀ j,j≤e.az.n→(bS (fun j=>dn (fun i=>p ((e.az.get j).items.get i)) (e.az.get j).items.n) (e.az.n-j) j)=a→af 89 15 (Go.V.Ends [r0,r1,r2,r3,r4,r5,r6,r7,r8,r9,ez,ey,.box (lift (bn e)),fq,.loop f N sl ps ca cb .ready none] (.t []) [r0,r1,r2,r3,r4,r5,r6,r7,r8,r9,ez,ey,.box (lift (bn e)),fq,.loop f N sl ps ca cb (bif a then .ready else .done) (bif a then none else some .ret)]) (ag 89 10) (CI p e r0 r1 r2 r3 r4 r5 r6 r7 r8 r9 ez ey fq f N sl ps ca cb j):=by
 have hN:e.az.n≤1000:=hS.az
 refine aL (fun j hj ih ha=>?_) (fun ha=>?_)
 ·have q:e.az.n-j=(e.az.n-(j+1))+1:=by omega
  rw [q] at ha
  refine bA (X:=Jh p) (stop:=rL) (IQ _ _ p e r0 r1 r2 r3 r4 r5 r6 r7 r8 r9 ez ey fq f N sl ps ca cb j ?_)
  refine ak (fun h=>?_) (fun h=>(dec_lt h hj).elim)
  refine aw (aA hj) ?_
  refine SD p e r0 r1 r2 r3 r4 r5 r6 r7 r8 r9 ez ey fq f N sl ps ca cb hy hS hw a j hj (fun q=>ih q) 0 (bu _) ?_
  have e2:bS (fun j=>dn (fun i=>p ((e.az.get j).items.get i)) (e.az.get j).items.n) (e.az.n-(j+1)+1) j=(bS (fun i=>p ((e.az.get j).items.get i)) (e.az.get j).items.n 0&&bS (fun j=>dn (fun i=>p ((e.az.get j).items.get i)) (e.az.get j).items.n) (e.az.n-(j+1)) (j+1)):=by
   show (bif dn (fun i=>p ((e.az.get j).items.get i)) (e.az.get j).items.n then bS (fun j=>dn (fun i=>p ((e.az.get j).items.get i)) (e.az.get j).items.n) (e.az.n-(j+1)) (j+1) else false)=_
   unfold dn
   cases bS (fun i=>p ((e.az.get j).items.get i)) (e.az.get j).items.n 0<;>rfl
  rw [e2] at ha
  rw [Nat.sub_zero]
  simpa [Bool.and_assoc] using ha
 ·rw [Nat.sub_self] at ha
  refine bA (X:=Jh p) (stop:=rL) (IQ _ _ p e r0 r1 r2 r3 r4 r5 r6 r7 r8 r9 ez ey fq f N sl ps ca cb _ ?_)
  refine ak (fun h=>bJ h) (fun h=>?_)
  have ha:true=a:=ha
  subst ha
  refine ⟨15,bg rfl,bg rfl,rfl,rfl,aX.refl _,?_⟩
  repeat' (first|exact trivial|refine ⟨.inl (.inl rfl),?_⟩|refine ⟨.inl (.inr ⟨_,_,_,_,_,_,_,_,_,_,rfl,rfl⟩),?_⟩|done)
theorem Xu (p:Int→Bool) (e:ai) (r0 r1 r2 r3 r4 r5 r6 r7 r8 r9 ez ey fq:ah) (f N:Nat) (sl:aN) (ps:List Tmp) (ca cb:Code) (hy:∀ (n:Int) (x:ah),ti pN Tryd.prog 14 [int n] [r0,r1,r2,r3,r4,r5,r6,r7,r8,r9,ez,ey,.box (lift (bn e)),fq,.loop f N sl ps ca cb .ready none,x] (bool (p n)) [r0,r1,r2,r3,r4,r5,r6,r7,r8,r9,ez,ey,.box (lift (bn e)),fq,.loop f N sl ps ca cb (bif p n then .ready else .done) (bif p n then none else some .ret),x]) (hS:ic e) (hw:fx 15 [r0,r1,r2,r3,r4,r5,r6,r7,r8,r9,ez,ey,.box (lift (bn e)),fq,.loop f N sl ps ca cb .ready none]) (a:Bool) (j:Nat) (hj:j<e.frames.n) (end_:(bS (fun j=>dn (fun i=>p ((e.frames.get j).vars.get i)) (e.frames.get j).vars.n) (e.frames.n-(j+1)) (j+1)&&dn (fun j=>dn (fun i=>p ((e.az.get j).items.get i)) (e.az.get j).items.n) e.az.n)=a→af 89 15 (Go.V.Ends [r0,r1,r2,r3,r4,r5,r6,r7,r8,r9,ez,ey,.box (lift (bn e)),fq,.loop f N sl ps ca cb .ready none] (.t []) [r0,r1,r2,r3,r4,r5,r6,r7,r8,r9,ez,ey,.box (lift (bn e)),fq,.loop f N sl ps ca cb (bif a then .ready else .done) (bif a then none else some .ret)]) (ag 89 1) (H0 p e r0 r1 r2 r3 r4 r5 r6 r7 r8 r9 ez ey fq f N sl ps ca cb (j+1))):∀ i,i≤(e.frames.get j).vars.n→(bS (fun i=>p ((e.frames.get j).vars.get i)) ((e.frames.get j).vars.n-i) i&&(bS (fun j=>dn (fun i=>p ((e.frames.get j).vars.get i)) (e.frames.get j).vars.n) (e.frames.n-(j+1)) (j+1)&&dn (fun j=>dn (fun i=>p ((e.az.get j).items.get i)) (e.az.get j).items.n) e.az.n))=a→af 89 15 (Go.V.Ends [r0,r1,r2,r3,r4,r5,r6,r7,r8,r9,ez,ey,.box (lift (bn e)),fq,.loop f N sl ps ca cb .ready none] (.t []) [r0,r1,r2,r3,r4,r5,r6,r7,r8,r9,ez,ey,.box (lift (bn e)),fq,.loop f N sl ps ca cb (bif a then .ready else .done) (bif a then none else some .ret)]) (ag 89 4) (Mv p e r0 r1 r2 r3 r4 r5 r6 r7 r8 r9 ez ey fq f N sl ps ca cb j i):=by
 have hV:(e.frames.get j).vars.n≤1000:=hS.vars j hj
 have hN:e.frames.n≤1000:=hS.frames
 refine aL (fun i hi ih ha=>?_) (fun ha=>?_)
 ·have q:(e.frames.get j).vars.n-i=((e.frames.get j).vars.n-(i+1))+1:=by omega
  rw [q] at ha
  refine bA (X:=Jh p) (stop:=rL) (PI _ _ p e r0 r1 r2 r3 r4 r5 r6 r7 r8 r9 ez ey fq f N sl ps ca cb j i ?_)
  rw [bR hi (cM hV (by decide))]
  refine ak (fun h=>?_) (fun h=>(dec_lt h hi).elim)
  refine aw (aA hi) ⟨hy _ _,?_⟩
  refine ak (fun h1=>?_) (fun h1=>?_)
  ·have h1:=(Bool.not_eq_true' _).mp h1
   rw [h1]
   rw [cO (p:=(fun i=>p ((e.frames.get j).vars.get i))) h1,Bool.false_and] at ha
   subst ha
   refine ⟨15,bg rfl,bg rfl,rfl,rfl,aX.refl _,?_⟩
   repeat' (first|exact trivial|refine ⟨.inl (.inl rfl),?_⟩|refine ⟨.inl (.inr ⟨_,_,_,_,_,_,_,_,_,_,rfl,rfl⟩),?_⟩|done)
  ·have h1:=(Bool.not_eq_false' _▸h1:p _=true)
   rw [h1]
   rw [dI (p:=(fun i=>p ((e.frames.get j).vars.get i))) h1] at ha
   exact ih ha
 ·rw [Nat.sub_self] at ha
  refine bA (X:=Jh p) (stop:=rL) (PI _ _ p e r0 r1 r2 r3 r4 r5 r6 r7 r8 r9 ez ey fq f N sl ps ca cb j _ ?_)
  rw [bR hj (cM hN (by decide))]
  refine ak (fun h=>bJ h) (fun h=>?_)
  exact af.cut 15 (bk _) (bg rfl) rfl rfl hw (end_ (by simpa [bS] using ha))
theorem Xq (p:Int→Bool) (e:ai) (r0 r1 r2 r3 r4 r5 r6 r7 r8 r9 ez ey fq:ah) (f N:Nat) (sl:aN) (ps:List Tmp) (ca cb:Code) (hy:∀ (n:Int) (x:ah),ti pN Tryd.prog 14 [int n] [r0,r1,r2,r3,r4,r5,r6,r7,r8,r9,ez,ey,.box (lift (bn e)),fq,.loop f N sl ps ca cb .ready none,x] (bool (p n)) [r0,r1,r2,r3,r4,r5,r6,r7,r8,r9,ez,ey,.box (lift (bn e)),fq,.loop f N sl ps ca cb (bif p n then .ready else .done) (bif p n then none else some .ret),x]) (hS:ic e) (hw:fx 15 [r0,r1,r2,r3,r4,r5,r6,r7,r8,r9,ez,ey,.box (lift (bn e)),fq,.loop f N sl ps ca cb .ready none]) (a:Bool):∀ j,j≤e.frames.n→(bS (fun j=>dn (fun i=>p ((e.frames.get j).vars.get i)) (e.frames.get j).vars.n) (e.frames.n-j) j&&dn (fun j=>dn (fun i=>p ((e.az.get j).items.get i)) (e.az.get j).items.n) e.az.n)=a→af 89 15 (Go.V.Ends [r0,r1,r2,r3,r4,r5,r6,r7,r8,r9,ez,ey,.box (lift (bn e)),fq,.loop f N sl ps ca cb .ready none] (.t []) [r0,r1,r2,r3,r4,r5,r6,r7,r8,r9,ez,ey,.box (lift (bn e)),fq,.loop f N sl ps ca cb (bif a then .ready else .done) (bif a then none else some .ret)]) (ag 89 1) (H0 p e r0 r1 r2 r3 r4 r5 r6 r7 r8 r9 ez ey fq f N sl ps ca cb j):=by
 have hN:e.frames.n≤1000:=hS.frames
 refine aL (fun j hj ih ha=>?_) (fun ha=>?_)
 ·have q:e.frames.n-j=(e.frames.n-(j+1))+1:=by omega
  rw [q] at ha
  refine bA (X:=Jh p) (stop:=rL) (Mj _ _ p e r0 r1 r2 r3 r4 r5 r6 r7 r8 r9 ez ey fq f N sl ps ca cb j ?_)
  refine ak (fun h=>?_) (fun h=>(dec_lt h hj).elim)
  refine aw (aA hj) ?_
  refine Xu p e r0 r1 r2 r3 r4 r5 r6 r7 r8 r9 ez ey fq f N sl ps ca cb hy hS hw a j hj (fun q=>ih q) 0 (bu _) ?_
  have e2:bS (fun j=>dn (fun i=>p ((e.frames.get j).vars.get i)) (e.frames.get j).vars.n) (e.frames.n-(j+1)+1) j=(bS (fun i=>p ((e.frames.get j).vars.get i)) (e.frames.get j).vars.n 0&&bS (fun j=>dn (fun i=>p ((e.frames.get j).vars.get i)) (e.frames.get j).vars.n) (e.frames.n-(j+1)) (j+1)):=by
   show (bif dn (fun i=>p ((e.frames.get j).vars.get i)) (e.frames.get j).vars.n then bS (fun j=>dn (fun i=>p ((e.frames.get j).vars.get i)) (e.frames.get j).vars.n) (e.frames.n-(j+1)) (j+1) else false)=_
   unfold dn
   cases bS (fun i=>p ((e.frames.get j).vars.get i)) (e.frames.get j).vars.n 0<;>rfl
  rw [e2] at ha
  rw [Nat.sub_zero]
  simpa [Bool.and_assoc] using ha
 ·rw [Nat.sub_self] at ha
  refine bA (X:=Jh p) (stop:=rL) (Mj _ _ p e r0 r1 r2 r3 r4 r5 r6 r7 r8 r9 ez ey fq f N sl ps ca cb _ ?_)
  refine ak (fun h=>bJ h) (fun h=>?_)
  exact S0 p e r0 r1 r2 r3 r4 r5 r6 r7 r8 r9 ez ey fq f N sl ps ca cb hy hS hw a 0 (bu _) (by simpa [bS,dn] using ha)
theorem ad8 (p:Int→Bool) (e:ai) (r0 r1 r2 r3 r4 r5 r6 r7 r8 r9 ez ey fq:ah) (f N:Nat) (sl:aN) (ps:List Tmp) (ca cb:Code) (hy:∀ (n:Int) (x:ah),ti pN Tryd.prog 14 [int n] [r0,r1,r2,r3,r4,r5,r6,r7,r8,r9,ez,ey,.box (lift (bn e)),fq,.loop f N sl ps ca cb .ready none,x] (bool (p n)) [r0,r1,r2,r3,r4,r5,r6,r7,r8,r9,ez,ey,.box (lift (bn e)),fq,.loop f N sl ps ca cb (bif p n then .ready else .done) (bif p n then none else some .ret),x]) (hS:ic e) (hw:fx 15 [r0,r1,r2,r3,r4,r5,r6,r7,r8,r9,ez,ey,.box (lift (bn e)),fq,.loop f N sl ps ca cb .ready none]):LC 89 [.c (.yl 14),.c (.rt 12 0 0)] [r0,r1,r2,r3,r4,r5,r6,r7,r8,r9,ez,ey,.box (lift (bn e)),fq,.loop f N sl ps ca cb .ready none] (.t []) [r0,r1,r2,r3,r4,r5,r6,r7,r8,r9,ez,ey,.box (lift (bn e)),fq,.loop f N sl ps ca cb (bif allM p e then .ready else .done) (bif allM p e then none else some .ret)]:=
 je aj9 (bg (by kernel_rfl)) (ig (X:=Jh p) (stop:=rL) (ap0 _ _ p e r0 r1 r2 r3 r4 r5 r6 r7 r8 r9 ez ey fq f N sl ps ca cb (Xq p e r0 r1 r2 r3 r4 r5 r6 r7 r8 r9 ez ey fq f N sl ps ca cb hy hS hw (allM p e) 0 (bu _) (by unfold allM dn; rfl))))
open Go Go.V
def G7:aN:=[(3,.c (.rt 6 0 0),[]),(5,.c (.rt 8 0 0),[]),(6,.c (.rt 9 0 0),[]),(7,.c (.rt 11 0 0),[]),(110,.c (.mc 89 [12]),[])]
def Qo (p:Bool):hX:={ F:=F8,S:=[14],B:=fun _ _ _=>p,R1:=fun _ _ _=>(.t [],[],[]),R2:=fun _ ds rs=>(.t [],[(14,T5 false (aV rs 14))],[]) }
def j6 (t:ae) (k:Int) (v:List Int) (n:Int):Bool:=n == -1||(dC t n k && !((t.ins.get n.toNat).op==17 && !er n v))
def kS (x:Sq iR):Nat→List Int
 | 0=>[]
 | j+1=>rC (x.get j).value (kS x j)
def Kw (t:ae) (e:ai) (k:Int) (j:Nat):Bool := !(!dC t (e.az.get j).value k||(er (e.az.get j).value (kS e.az j)||((((e.az.get j).items.n:Int)!=((e.az.get j).names.n:Int))||(((t.ins.get (e.az.get j).value.toNat).op != 17)||(((t.ins.get (e.az.get j).value.toNat).n != (e.az.get j).cls) || !cr jL (t.ins.get (e.az.get j).value.toNat).names (e.az.get j).names)))))
def kX (t:ae) (e:ai) (k:Int):Bool := !(decide ((e.frames.n:Int)<1)||(decide ((e.frames.n:Int)>6)||decide (e.back<0)))&&(dn (Kw t e k) e.az.n&&(dn (fun j=>yy (e.frames.get j)) e.frames.n&&allM (j6 t k (kS e.az e.az.n)) e))
def yK:Nat→Bool:=fun i=>Nat.beq i 5||Nat.beq i 15||Nat.beq i 20
theorem an8:Fn 65:=⟨by kernel_rfl,by kernel_rfl⟩
abbrev wx:gF:=(3,((.c (.rt 6 0 0)),[]))
abbrev xA:gF:=(4,((.c (.rt 7 0 0)),[]))
abbrev yo:gF:=(5,((.c (.rt 8 0 0)),[]))
abbrev wR:gF:=(6,((.c (.rt 9 0 0)),[]))
abbrev wO:gF:=(7,((.c (.rt 11 0 0)),[]))
abbrev eW (ax:ae):ah:=.box (dL (ax) 1)
abbrev fK:C:=.im (.v (.bool false))
theorem an1 (L:LP) (QE:D→List ah→Prop) (p:Bool) (t:ae) (e:ai) (k:Int) (r0 r1 r2 r3 r4 r5:ah) (h:br (decide ((↑e.1.1:Int)<1)) (QE (bool false) [r0,r1,r2,r3,r4,r5,(.box (dL (t) 1)),(.box (lift (bn (e)))),(.box [(ci k)]),(.box [(.im (.v (.bool false)))])]) (br (decide ((↑e.1.1:Int)>6)) (QE (bool false) [r0,r1,r2,r3,r4,r5,(.box (dL (t) 1)),(.box (lift (bn (e)))),(.box [(ci k)]),(.box [(.im (.v (.bool false)))])]) (br (decide (e.3<0)) (QE (bool false) [r0,r1,r2,r3,r4,r5,(.box (dL (t) 1)),(.box (lift (bn (e)))),(.box [(ci k)]),(.box [(.im (.v (.bool false)))])]) (L (ag 65 5) ⟨[wx,xA,yo,wR,wO,(31,((sW e),[])),(32,((nl e),[])),(33,((int 0),[]))],[r0,r1,r2,r3,r4,r5,(eW t),(dc e),(.box [(ci k)]),(.box [fK]),(.set []),(.box [(.mp 10)])],[]⟩)))):fS (Qo p) 65 yK L QE [yI t 1,pD e,int k] [r0,r1,r2,r3,r4,r5]:=Eq.mp (by kernel_rfl) h
def GO (p:Bool) (t:ae) (e:ai) (k:Int) (r0 r1 r2 r3 r4 r5:ah) (v:List Int) (j:Nat):VS:=⟨[(3,(.c (.rt 6 0 0)),[]),(4,(.c (.rt 7 0 0)),[]),(5,(.c (.rt 8 0 0)),[]),(6,(.c (.rt 9 0 0)),[]),(7,(.c (.rt 11 0 0)),[]),(31,(sW e),[]),(32,(nl e),[]),(33,int j,[])],[r0,r1,r2,r3,r4,r5,(eW t),(dc e),(.box [(ci k)]),(.box [fK]),.set v,(.box [(.mp 10)])],[]⟩
theorem NL (L:LP) (QE:D→List ah→Prop) (p:Bool) (t:ae) (e:ai) (k:Int) (r0 r1 r2 r3 r4 r5:ah) (v:List Int) (j:Nat) (h:br (decide ((↑j:Int)<(↑e.2.1:Int))) (nd (cd (↑j:Int) e.2.1) ((LC 64 [(.a (dL (t) 1)),(int ((e.az.2 j).1)),(int k)] [r0,r1,r2,r3,r4,r5,(eW t),(dc e),(.box [(ci k)]),(.box [fK]),(.set v),(.box [(.mp 10)]),(oZ e j)] (bool (dC t (e.az.2 j).1 k)) [r0,r1,r2,r3,r4,r5,(eW t),(dc e),(.box [(ci k)]),(.box [fK]),(.set v),(.box [(.mp 10)]),(oZ e j)]∧br (!dC t (e.az.2 j).1 k) (QE (bool false) [r0,r1,r2,r3,r4,r5,(.box (dL (t) 1)),(.box (lift (bn (e)))),(.box [(ci k)]),(.box [(.im (.v (.bool false)))]),(.set v),(.box [(.mp 10)]),(.box (lift (o4 (e.az.2 j))))]) (br (er (e.az.2 j).1 v) (QE (bool false) [r0,r1,r2,r3,r4,r5,(.box (dL (t) 1)),(.box (lift (bn (e)))),(.box [(ci k)]),(.box [(.im (.v (.bool false)))]),(.set v),(.box [(.mp 10)]),(.box (lift (o4 (e.az.2 j))))]) (br ((↑(e.az.2 j).4.1:Int)!=(↑(e.az.2 j).3.1:Int)) (QE (bool false) [r0,r1,r2,r3,r4,r5,(.box (dL (t) 1)),(.box (lift (bn (e)))),(.box [(ci k)]),(.box [(.im (.v (.bool false)))]),(.set v),(.box [(.mp 10)]),(.box (lift (o4 (e.az.2 j))))]) (nd (cd (e.az.2 j).1 t.2.1) (br ((t.ins.2 (e.az.2 j).1.toNat).1 != 17) (QE (bool false) [r0,r1,r2,r3,r4,r5,(.box (dL (t) 1)),(.box (lift (bn (e)))),(.box [(ci k)]),(.box [(.im (.v (.bool false)))]),(.set v),(.box [(.mp 10)]),(.box (lift (o4 (e.az.2 j)))),(.box (lift (aT (t.ins.2 (e.az.2 j).1.toNat))))]) (br ((t.ins.2 (e.az.2 j).1.toNat).5 != (e.az.2 j).2) (QE (bool false) [r0,r1,r2,r3,r4,r5,(.box (dL (t) 1)),(.box (lift (bn (e)))),(.box [(ci k)]),(.box [(.im (.v (.bool false)))]),(.set v),(.box [(.mp 10)]),(.box (lift (o4 (e.az.2 j)))),(.box (lift (aT (t.ins.2 (e.az.2 j).1.toNat))))]) ((LC 86 [(Ma t e j),(OZ e j)] [] (bool (cr jL (t.ins.2 (e.az.2 j).1.toNat).8 (e.az.2 j).3)) []∧br (!cr jL (t.ins.2 (e.az.2 j).1.toNat).8 (e.az.2 j).3) (QE (bool false) [r0,r1,r2,r3,r4,r5,(.box (dL (t) 1)),(.box (lift (bn (e)))),(.box [(ci k)]),(.box [(.im (.v (.bool false)))]),(.set v),(.box [(.mp 10)]),(.box (lift (o4 (e.az.2 j)))),(.box (lift (aT (t.ins.2 (e.az.2 j).1.toNat))))]) (L (ag 65 5) ⟨[wx,xA,yo,wR,wO,(31,((sW e),[])),(32,((nl e),[])),(33,((int (IntKind.i64.wrap ((↑j:Int)+1))),[]))],[r0,r1,r2,r3,r4,r5,(eW t),(dc e),(.box [(ci k)]),(.box [fK]),(.set (rC (e.az.2 j).1 v)),(.box [(.mp 10)]),(oZ e j),(.box (lift (aT (t.ins.2 (e.az.2 j).1.toNat))))],[]⟩))))))))))) (L (ag 65 15) ⟨[wx,xA,yo,wR,wO,(88,((qE e),[])),(89,((lY e),[])),(90,((int 0),[]))],[r0,r1,r2,r3,r4,r5,(eW t),(dc e),(.box [(ci k)]),(.box [fK]),(.set v),(.box [(.mp 10)])],[]⟩)):dq (Qo p) 65 yK L QE 5 (GO p t e k r0 r1 r2 r3 r4 r5 v j):=Eq.mp (by kernel_rfl) h
def Ae (p:Bool) (t:ae) (e:ai) (k:Int) (r0 r1 r2 r3 r4 r5:ah) (v:List Int) (j:Nat):VS:=⟨[(3,(.c (.rt 6 0 0)),[]),(4,(.c (.rt 7 0 0)),[]),(5,(.c (.rt 8 0 0)),[]),(6,(.c (.rt 9 0 0)),[]),(7,(.c (.rt 11 0 0)),[]),(88,(qE e),[]),(89,(lY e),[]),(90,int j,[])],[r0,r1,r2,r3,r4,r5,(eW t),(dc e),(.box [(ci k)]),(.box [fK]),.set v,(.box [(.mp 10)])],[]⟩
theorem Iq (L:LP) (QE:D→List ah→Prop) (p:Bool) (t:ae) (e:ai) (k:Int) (r0 r1 r2 r3 r4 r5:ah) (v:List Int) (j:Nat) (h:br (decide ((↑j:Int)<(↑e.1.1:Int))) (nd (cd (↑j:Int) e.1.1) (br (decide ((e.frames.2 j).1<0)) (QE (bool false) [r0,r1,r2,r3,r4,r5,(.box (dL (t) 1)),(.box (lift (bn (e)))),(.box [(ci k)]),(.box [(.im (.v (.bool false)))]),(.set v),(.box [(.mp 10)]),(.box (lift (kU (e.frames.2 j))))]) (br (decide ((e.frames.2 j).2<0)) (QE (bool false) [r0,r1,r2,r3,r4,r5,(.box (dL (t) 1)),(.box (lift (bn (e)))),(.box [(ci k)]),(.box [(.im (.v (.bool false)))]),(.set v),(.box [(.mp 10)]),(.box (lift (kU (e.frames.2 j))))]) (br (decide ((↑(e.frames.2 j).3.1:Int)>24)) (QE (bool false) [r0,r1,r2,r3,r4,r5,(.box (dL (t) 1)),(.box (lift (bn (e)))),(.box [(ci k)]),(.box [(.im (.v (.bool false)))]),(.set v),(.box [(.mp 10)]),(.box (lift (kU (e.frames.2 j))))]) (L (ag 65 15) ⟨[wx,xA,yo,wR,wO,(88,((qE e),[])),(89,((lY e),[])),(90,((int (IntKind.i64.wrap ((↑j:Int)+1))),[]))],[r0,r1,r2,r3,r4,r5,(eW t),(dc e),(.box [(ci k)]),(.box [fK]),(.set v),(.box [(.mp 10)]),(sZ e j)],[]⟩))))) (L (ag 65 20) ⟨[wx,xA,yo,wR,wO,(88,((qE e),[])),(89,((lY e),[])),(90,((int (↑j:Int)),[])),(91,((bool false),[]))],[r0,r1,r2,r3,r4,r5,(eW t),(dc e),(.box [(ci k)]),(.box [fK]),(.set v),(.box [(.mp 10)])],[]⟩)):dq (Qo p) 65 yK L QE 15 (Ae p t e k r0 r1 r2 r3 r4 r5 v j):=Eq.mp (by kernel_rfl) h
def Bu (p:Bool) (t:ae) (e:ai) (k:Int) (r0 r1 r2 r3 r4 r5:ah) (v:List Int):VS:=⟨[(3,(.c (.rt 6 0 0)),[]),(4,(.c (.rt 7 0 0)),[]),(5,(.c (.rt 8 0 0)),[]),(6,(.c (.rt 9 0 0)),[]),(7,(.c (.rt 11 0 0)),[])],[r0,r1,r2,r3,r4,r5,(eW t),(dc e),(.box [(ci k)]),(.box [fK]),.set v,(.box [(.mp 10)])],[]⟩
abbrev O3 (ax aF aR bZ ct dX:ah) (eR:ae) (tR:ai) (p_8:Int) (p_9:List Int):List ah:=[ax,aF,aR,bZ,ct,dX,(eW eR),(dc tR),(.box [(ci p_8)]),(.box [fK]),(.set p_9),(.box [(.mp 10)]),(dc tR),.nZ,(.loop 65 137 [(3,((.c (.rt 6 0 0)),[])),(5,((.c (.rt 8 0 0)),[])),(6,((.c (.rt 9 0 0)),[])),(7,((.c (.rt 11 0 0)),[])),(110,((.c (.mc 89 [12])),[]))] [111] (Ii 65) (JM 65) .ready none)]
theorem S1 (L:LP) (QE:D→List ah→Prop) (p:Bool) (t:ae) (e:ai) (k:Int) (r0 r1 r2 r3 r4 r5:ah) (v:List Int) (h:(LC 71 [(.a (lift (bn (e))))] [r0,r1,r2,r3,r4,r5,(eW t),(dc e),(.box [(ci k)]),(.box [fK]),(.set v),(.box [(.mp 10)])] (.c (.mc 89 [12])) [r0,r1,r2,r3,r4,r5,(eW t),(dc e),(.box [(ci k)]),(.box [fK]),(.set v),(.box [(.mp 10)]),(dc e)]∧br (p) ((LC 89 [(.c (.yl 14)),(.c (.rt 12 0 0))] (O3 r0 r1 r2 r3 r4 r5 t e k v) (.t []) (O3 r0 r1 r2 r3 r4 r5 t e k v)∧QE (bool true) [r0,r1,r2,r3,r4,r5,(.box (dL (t) 1)),(.box (lift (bn (e)))),(.box [(ci k)]),(.box [(.im (.v (.bool true)))]),(.set v),(.box [(.mp 10)]),(.box (lift (bn (e)))),.dead,.dead])) ((LC 89 [(.c (.yl 14)),(.c (.rt 12 0 0))] (O3 r0 r1 r2 r3 r4 r5 t e k v) (.t []) [r0,r1,r2,r3,r4,r5,(eW t),(dc e),(.box [(ci k)]),(.box [fK]),(.set v),(.box [(.mp 10)]),(dc e),.nZ,(.loop 65 137 [(3,((.c (.rt 6 0 0)),[])),(5,((.c (.rt 8 0 0)),[])),(6,((.c (.rt 9 0 0)),[])),(7,((.c (.rt 11 0 0)),[])),(110,((.c (.mc 89 [12])),[]))] [111] (Ii 65) (JM 65) .done (some .ret))]∧QE (bool false) [r0,r1,r2,r3,r4,r5,(.box (dL (t) 1)),(.box (lift (bn (e)))),(.box [(ci k)]),(.box [(.im (.v (.bool false)))]),(.set v),(.box [(.mp 10)]),(.box (lift (bn (e)))),.dead,.dead])))):dq (Qo p) 65 yK L QE 20 (Bu p t e k r0 r1 r2 r3 r4 r5 v):=Eq.mp (by kernel_rfl) h
abbrev Pz:ah:=.loop 65 137 [(3,((.c (.rt 6 0 0)),[])),(5,((.c (.rt 8 0 0)),[])),(6,((.c (.rt 9 0 0)),[])),(7,((.c (.rt 11 0 0)),[])),(110,((.c (.mc 89 [12])),[]))] [111] (Ii 65) (JM 65) .busy none
theorem Z6 (QE:D→List ah→Prop) (t:ae) (e:ai) (k n:Int) (v:List Int) (r0 r1 r2 r3 r4 r5:ah) (x:ah) (h:br (n != -1) ((LC 64 [(.a (dL (t) 1)),(int n),(int k)] [r0,r1,r2,r3,r4,r5,(eW t),(dc e),(.box [(ci k)]),(.box [fK]),(.set v),(.box [(.mp 10)]),(dc e),.nZ,Pz,x] (bool (dC t n k)) [r0,r1,r2,r3,r4,r5,(eW t),(dc e),(.box [(ci k)]),(.box [fK]),(.set v),(.box [(.mp 10)]),(dc e),.nZ,Pz,x]∧br (!dC t n k) (QE (bool false) [r0,r1,r2,r3,r4,r5,(.box (dL (t) 1)),(.box (lift (bn (e)))),(.box [(ci k)]),(.box [(.im (.v (.bool false)))]),(.set v),(.box [(.mp 10)]),(.box (lift (bn (e)))),.nZ,(.loop 65 137 [(3,((.c (.rt 6 0 0)),[])),(5,((.c (.rt 8 0 0)),[])),(6,((.c (.rt 9 0 0)),[])),(7,((.c (.rt 11 0 0)),[])),(110,((.c (.mc 89 [12])),[]))] [111] (Ii 65) (JM 65) .done (some .ret)),x]) (nd (cd n t.2.1) (br ((t.ins.2 n.toNat).1==17) (br (!er n v) (QE (bool false) [r0,r1,r2,r3,r4,r5,(.box (dL (t) 1)),(.box (lift (bn (e)))),(.box [(ci k)]),(.box [(.im (.v (.bool false)))]),(.set v),(.box [(.mp 10)]),(.box (lift (bn (e)))),.nZ,(.loop 65 137 [(3,((.c (.rt 6 0 0)),[])),(5,((.c (.rt 8 0 0)),[])),(6,((.c (.rt 9 0 0)),[])),(7,((.c (.rt 11 0 0)),[])),(110,((.c (.mc 89 [12])),[]))] [111] (Ii 65) (JM 65) .done (some .ret)),x]) (QE (bool true) [r0,r1,r2,r3,r4,r5,(.box (dL (t) 1)),(.box (lift (bn (e)))),(.box [(ci k)]),(.box [(.im (.v (.bool false)))]),(.set v),(.box [(.mp 10)]),(.box (lift (bn (e)))),.nZ,(.loop 65 137 [(3,((.c (.rt 6 0 0)),[])),(5,((.c (.rt 8 0 0)),[])),(6,((.c (.rt 9 0 0)),[])),(7,((.c (.rt 11 0 0)),[])),(110,((.c (.mc 89 [12])),[]))] [111] (Ii 65) (JM 65) .ready none),x])) (QE (bool true) [r0,r1,r2,r3,r4,r5,(.box (dL (t) 1)),(.box (lift (bn (e)))),(.box [(ci k)]),(.box [(.im (.v (.bool false)))]),(.set v),(.box [(.mp 10)]),(.box (lift (bn (e)))),.nZ,(.loop 65 137 [(3,((.c (.rt 6 0 0)),[])),(5,((.c (.rt 8 0 0)),[])),(6,((.c (.rt 9 0 0)),[])),(7,((.c (.rt 11 0 0)),[])),(110,((.c (.mc 89 [12])),[]))] [111] (Ii 65) (JM 65) .ready none),x]))))) (QE (bool true) [r0,r1,r2,r3,r4,r5,(.box (dL (t) 1)),(.box (lift (bn (e)))),(.box [(ci k)]),(.box [(.im (.v (.bool false)))]),(.set v),(.box [(.mp 10)]),(.box (lift (bn (e)))),.nZ,(.loop 65 137 [(3,((.c (.rt 6 0 0)),[])),(5,((.c (.rt 8 0 0)),[])),(6,((.c (.rt 9 0 0)),[])),(7,((.c (.rt 11 0 0)),[])),(110,((.c (.mc 89 [12])),[]))] [111] (Ii 65) (JM 65) .ready none),x])):vcY X8 65 14 QE ((111,int n,[])::G7) [r0,r1,r2,r3,r4,r5,.box (dL t 1),.box (lift (bn e)),.box [.im (iI k)],.box [.im (iB false)],.set v,.box [.mp 10],.box (lift (bn e)),.nZ,.loop 65 137 G7 [111] (Ii 65) (JM 65) .ready none,x]:=Eq.mp (by kernel_rfl) h
theorem y93 (t:ae) (e:ai) (k n:Int) (v:List Int) (r0 r1 r2 r3 r4 r5:ah) (x:ah) (hk:k≤t.ins.n):ti pN Tryd.prog 14 [int n] [r0,r1,r2,r3,r4,r5,.box (dL t 1),.box (lift (bn e)),.box [.im (iI k)],.box [.im (iB false)],.set v,.box [.mp 10],.box (lift (bn e)),.nZ,.loop 65 137 G7 [111] (Ii 65) (JM 65) .ready none,x] (bool (j6 t k v n)) [r0,r1,r2,r3,r4,r5,.box (dL t 1),.box (lift (bn e)),.box [.im (iI k)],.box [.im (iB false)],.set v,.box [.mp 10],.box (lift (bn e)),.nZ,.loop 65 137 G7 [111] (Ii 65) (JM 65) (bif j6 t k v n then .ready else .done) (bif j6 t k v n then none else some .ret),x]:=by
 refine YB (X:=X8) (f:=65) (QX:=G7) (Jt:=(111,int n,[])::G7) (ps:=[111]) (by kernel_rfl) (by kernel_rfl) (Z6 _ t e k n v r0 r1 r2 r3 r4 r5 x ?_)
 refine ak (fun h=>?_) (fun h=>?_)
 ·have h:(n == -1)=false:=(Bool.not_eq_true' _).mp h
  refine ⟨PQ _ _ _ _ _ _ _ _ _ _ _ _ _ _ _ _ _ _ _ hk,?_⟩
  refine ak (fun h1=>?_) (fun h1=>aw (nB (by simpa using h1) hk) ?_)
  ·have e1:j6 t k v n=false:=by simp only [j6,h,show dC t n k=false from by simpa using h1,aO]
   rw [e1]
   exact ⟨16,bg rfl,bg rfl,rfl,rfl,aX.refl _,by repeat' (first|exact trivial|refine ⟨.inl (.inl rfl),?_⟩|refine ⟨.inl (.inr ⟨_,_,_,_,_,_,_,_,_,_,rfl,rfl⟩),?_⟩|done)⟩
  ·have h1:dC t n k=true:=by simpa using h1
   refine ak (fun h2=>ak (fun h3=>?_) (fun h3=>?_)) (fun h2=>?_)
   ·have e1:j6 t k v n=false:=by simp only [j6,h,h1,show ((t.ins.get n.toNat).op==17)=true from h2,show (!er n v)=true from h3,aO]
    rw [e1]
    exact ⟨16,bg rfl,bg rfl,rfl,rfl,aX.refl _,by repeat' (first|exact trivial|refine ⟨.inl (.inl rfl),?_⟩|refine ⟨.inl (.inr ⟨_,_,_,_,_,_,_,_,_,_,rfl,rfl⟩),?_⟩|done)⟩
   ·have e1:j6 t k v n=true:=by simp only [j6,h,h1,show ((t.ins.get n.toNat).op==17)=true from h2,show (!er n v)=false from h3,aO]
    rw [e1]
    exact ⟨16,bg rfl,bg rfl,rfl,rfl,aX.refl _,by repeat' (first|exact trivial|refine ⟨.inl (.inl rfl),?_⟩|refine ⟨.inl (.inr ⟨_,_,_,_,_,_,_,_,_,_,rfl,rfl⟩),?_⟩|done)⟩
   ·have e1:j6 t k v n=true:=by simp only [j6,h,h1,show ((t.ins.get n.toNat).op==17)=false from h2,aO]
    rw [e1]
    exact ⟨16,bg rfl,bg rfl,rfl,rfl,aX.refl _,by repeat' (first|exact trivial|refine ⟨.inl (.inl rfl),?_⟩|refine ⟨.inl (.inr ⟨_,_,_,_,_,_,_,_,_,_,rfl,rfl⟩),?_⟩|done)⟩
 ·have h:(n == -1)=true:=(Bool.not_eq_false' _▸h:(n == -1)=true)
  have e1:j6 t k v n=true:=by simp only [j6,h,aO]
  rw [e1]
  exact ⟨16,bg rfl,bg rfl,rfl,rfl,aX.refl _,by repeat' (first|exact trivial|refine ⟨.inl (.inl rfl),?_⟩|refine ⟨.inl (.inr ⟨_,_,_,_,_,_,_,_,_,_,rfl,rfl⟩),?_⟩|done)⟩
theorem Rc (p:Bool) (t:ae) (e:ai) (k:Int) (r0 r1 r2 r3 r4 r5:ah) (hk:k≤t.ins.n) (hS:ic e) (hw:fx 6 [r0,r1,r2,r3,r4,r5]) (v:List Int) (a:Bool) (hp:p=allM (j6 t k v) e) (ha:p=a):af 65 6 (Go.V.Ends [r0,r1,r2,r3,r4,r5] (bool a) [r0,r1,r2,r3,r4,r5]) (ag 65 20) (Bu p t e k r0 r1 r2 r3 r4 r5 v):=by
 have c:=ad8 (j6 t k v) e (r0) (r1) (r2) (r3) (r4) (r5) (.box (dL t 1)) (.box (lift (bn e))) (.box [.im (iI k)]) (.box [.im (iB false)]) (.set v) (.box [.mp 10]) (.nZ) 65 137 G7 [111] (Ii 65) (JM 65) (fun n x=>y93 t e k n v r0 r1 r2 r3 r4 r5 x hk) hS ⟨(hw.1).mono (by decide),(hw.2.1).mono (by decide),(hw.2.2.1).mono (by decide),(hw.2.2.2.1).mono (by decide),(hw.2.2.2.2.1).mono (by decide),(hw.2.2.2.2.2.1).mono (by decide),.inl rfl,.inl rfl,.inl rfl,.inl rfl,.inl rfl,.inl rfl,.inl rfl,.inl rfl,O8 rfl,trivial⟩
 refine bA (X:=Qo p) (stop:=yK) (S1 _ _ p t e k r0 r1 r2 r3 r4 r5 v ⟨ae9 _ _ _ _ _ _ _ _ _ _ _ _ _,?_⟩)
 rw [← hp] at c
 refine ak (fun h=>⟨?_,?_⟩) (fun h=>⟨?_,?_⟩)
 ·rw [h] at c; exact c
 ·rw [← ha,h]; exact ⟨6,bg rfl,bg rfl,rfl,rfl,aX.refl _,bz _ _⟩
 ·rw [h] at c; exact c
 ·rw [← ha,h]; exact ⟨6,bg rfl,bg rfl,rfl,rfl,aX.refl _,bz _ _⟩
theorem SV (p:Bool) (t:ae) (e:ai) (k:Int) (r0 r1 r2 r3 r4 r5:ah) (hk:k≤t.ins.n) (hS:ic e) (hw:fx 6 [r0,r1,r2,r3,r4,r5]) (v:List Int) (a:Bool) (hN:e.frames.n≤6) (hp:p=allM (j6 t k v) e):∀ j,j≤e.frames.n→(bS (fun j=>yy (e.frames.get j)) (e.frames.n-j) j&&p)=a→af 65 6 (Go.V.Ends [r0,r1,r2,r3,r4,r5] (bool a) [r0,r1,r2,r3,r4,r5]) (ag 65 15) (Ae p t e k r0 r1 r2 r3 r4 r5 v j):=by
 refine aL (fun j hj ih ha=>?_) (fun ha=>?_)
 ·have q:e.frames.n-j=(e.frames.n-(j+1))+1:=by omega
  rw [q] at ha
  have no:yy (e.frames.get j)=false→a=false:=fun q=>by rw [cO (p:=fun j=>yy (e.frames.get j)) q,Bool.false_and] at ha; exact ha.symm
  have go:yy (e.frames.get j)=true→af 65 6 (Go.V.Ends [r0,r1,r2,r3,r4,r5] (bool a) [r0,r1,r2,r3,r4,r5]) (ag 65 15) (Ae p t e k r0 r1 r2 r3 r4 r5 v (j+1)):=fun q=>by rw [dI (p:=fun j=>yy (e.frames.get j)) q] at ha; exact ih ha
  refine bA (X:=Qo p) (stop:=yK) (Iq _ _ p t e k r0 r1 r2 r3 r4 r5 v j ?_)
  rw [bR hj (cM hN (by decide))]
  refine ak (fun h=>?_) (fun h=>(dec_lt h hj).elim)
  refine aw (aA hj) ?_
  refine ak (fun h1=>?_) (fun h1=>ak (fun h2=>?_) (fun h2=>ak (fun h3=>?_) (fun h3=>?_)))
  ·rw [no (by simp only [yy,show decide ((e.frames.get j).fn<0)=true from h1,aO])]; exact ⟨6,bg rfl,bg rfl,rfl,rfl,aX.refl _,bz _ _⟩
  ·rw [no (by simp only [yy,show decide ((e.frames.get j).line<0)=true from h2,aO])]; exact ⟨6,bg rfl,bg rfl,rfl,rfl,aX.refl _,bz _ _⟩
  ·rw [no (by simp only [yy,show decide (((e.frames.get j).vars.n:Int)>24)=true from h3,aO])]; exact ⟨6,bg rfl,bg rfl,rfl,rfl,aX.refl _,bz _ _⟩
  ·refine af.cut 12 (bg rfl) (bg rfl) rfl rfl ⟨(hw.1).mono (by decide),(hw.2.1).mono (by decide),(hw.2.2.1).mono (by decide),(hw.2.2.2.1).mono (by decide),(hw.2.2.2.2.1).mono (by decide),(hw.2.2.2.2.2.1).mono (by decide),.inl rfl,.inl rfl,.inl rfl,.inl rfl,.inl rfl,.inl rfl,trivial⟩ (go ?_)
   simp only [yy,show decide ((e.frames.get j).fn<0)=false from h1,show decide ((e.frames.get j).line<0)=false from h2,show decide (((e.frames.get j).vars.n:Int)>24)=false from h3,aO]
 ·rw [Nat.sub_self] at ha
  refine bA (X:=Qo p) (stop:=yK) (Iq _ _ p t e k r0 r1 r2 r3 r4 r5 v _ ?_)
  refine ak (fun h=>bJ h) (fun h=>?_)
  exact af.le (Bu p t e k r0 r1 r2 r3 r4 r5 v) (by repeat' (first|exact trivial|refine bV rfl ?_)) (rc (rc (rc (rc (rc (rc (rc (rc (rc (rc (rc (rc (.nil))))))))))))) rfl (Rc p t e k r0 r1 r2 r3 r4 r5 hk hS hw v a hp (by simpa [bS] using ha))
theorem Vc (p:Bool) (t:ae) (e:ai) (k:Int) (r0 r1 r2 r3 r4 r5:ah) (hk:k≤t.ins.n) (hS:ic e) (hw:fx 6 [r0,r1,r2,r3,r4,r5]) (a:Bool) (hN:e.frames.n≤6) (hp:p=allM (j6 t k (kS e.az e.az.n)) e):∀ j,j≤e.az.n→(bS (Kw t e k) (e.az.n-j) j&&(dn (fun j=>yy (e.frames.get j)) e.frames.n&&p))=a→af 65 6 (Go.V.Ends [r0,r1,r2,r3,r4,r5] (bool a) [r0,r1,r2,r3,r4,r5]) (ag 65 5) (GO p t e k r0 r1 r2 r3 r4 r5 (kS e.az j) j):=by
 have hO:=hS.az
 refine aL (fun j hj ih ha=>?_) (fun ha=>?_)
 ·have q:e.az.n-j=(e.az.n-(j+1))+1:=by omega
  rw [q] at ha
  have no:Kw t e k j=false→a=false:=fun q=>by rw [cO q,Bool.false_and] at ha; exact ha.symm
  have go:Kw t e k j=true→af 65 6 (Go.V.Ends [r0,r1,r2,r3,r4,r5] (bool a) [r0,r1,r2,r3,r4,r5]) (ag 65 5) (GO p t e k r0 r1 r2 r3 r4 r5 (kS e.az (j+1)) (j+1)):=fun q=>by rw [dI q] at ha; exact ih ha
  refine bA (X:=Qo p) (stop:=yK) (NL _ _ p t e k r0 r1 r2 r3 r4 r5 (kS e.az j) j ?_)
  rw [bR hj (cM hO (by decide))]
  refine ak (fun h=>?_) (fun h=>(dec_lt h hj).elim)
  refine aw (aA hj) ⟨Pf _ _ _ _ _ _ _ _ _ _ _ _ _ _ _ _ hk,?_⟩
  refine ak (fun h1=>?_) (fun h1=>?_)
  ·rw [no (by simp only [Kw,show (!dC t (e.az.get j).value k)=true from h1,aO])]; exact ⟨6,bg rfl,bg rfl,rfl,rfl,aX.refl _,bz _ _⟩
  have h1:dC t (e.az.get j).value k=true:=by simpa using h1
  refine ak (fun h2=>?_) (fun h2=>?_)
  ·rw [no (by simp only [Kw,h1,show er (e.az.get j).value (kS e.az j)=true from h2,aO])]; exact ⟨6,bg rfl,bg rfl,rfl,rfl,aX.refl _,bz _ _⟩
  have h2:er (e.az.get j).value (kS e.az j)=false:=h2
  refine ak (fun h3=>?_) (fun h3=>aw (nB h1 hk) ?_)
  ·rw [no (by simp only [Kw,h1,h2,show (((e.az.get j).items.n:Int)!=((e.az.get j).names.n:Int))=true from h3,aO])]; exact ⟨6,bg rfl,bg rfl,rfl,rfl,aX.refl _,bz _ _⟩
  have h3:(((e.az.get j).items.n:Int)!=((e.az.get j).names.n:Int))=false:=h3
  refine ak (fun h4=>?_) (fun h4=>?_)
  ·rw [no (by simp only [Kw,h1,h2,h3,show ((t.ins.get (e.az.get j).value.toNat).op != 17)=true from h4,aO])]; exact ⟨6,bg rfl,bg rfl,rfl,rfl,aX.refl _,bz _ _⟩
  have h4:((t.ins.get (e.az.get j).value.toNat).op != 17)=false:=h4
  refine ak (fun h5=>?_) (fun h5=>⟨ac2 _ _,?_⟩)
  ·rw [no (by simp only [Kw,h1,h2,h3,h4,show ((t.ins.get (e.az.get j).value.toNat).n != (e.az.get j).cls)=true from h5,aO])]; exact ⟨6,bg rfl,bg rfl,rfl,rfl,aX.refl _,bz _ _⟩
  have h5:((t.ins.get (e.az.get j).value.toNat).n != (e.az.get j).cls)=false:=h5
  refine ak (fun h6=>?_) (fun h6=>?_)
  ·rw [no (by simp only [Kw,h1,h2,h3,h4,h5,show (!cr jL (t.ins.get (e.az.get j).value.toNat).names (e.az.get j).names)=true from h6,aO])]; exact ⟨6,bg rfl,bg rfl,rfl,rfl,aX.refl _,bz _ _⟩
  have h6:(!cr jL (t.ins.get (e.az.get j).value.toNat).names (e.az.get j).names)=false:=h6
  refine af.cut 12 (bg rfl) (bg rfl) rfl rfl ⟨(hw.1).mono (by decide),(hw.2.1).mono (by decide),(hw.2.2.1).mono (by decide),(hw.2.2.2.1).mono (by decide),(hw.2.2.2.2.1).mono (by decide),(hw.2.2.2.2.2.1).mono (by decide),.inl rfl,.inl rfl,.inl rfl,.inl rfl,.inl rfl,.inl rfl,trivial⟩ (go ?_)
  simp only [Kw,h1,h2,h3,h4,h5,h6,aO]
 ·rw [Nat.sub_self] at ha
  refine bA (X:=Qo p) (stop:=yK) (NL _ _ p t e k r0 r1 r2 r3 r4 r5 (kS e.az _) _ ?_)
  refine ak (fun h=>bJ h) (fun h=>?_)
  exact SV p t e k r0 r1 r2 r3 r4 r5 hk hS hw _ a hN hp 0 (bu _) (by simpa [bS,dn] using ha)
theorem Z8 (t:ae) (e:ai) (k:Int) (r0 r1 r2 r3 r4 r5:ah) (hk:k≤t.ins.n) (hS:ic e) (hw:fx 6 [r0,r1,r2,r3,r4,r5]):LC 65 [yI t 1,pD e,int k] [r0,r1,r2,r3,r4,r5] (bool (kX t e k)) [r0,r1,r2,r3,r4,r5]:=by
 refine je an8 (bg (by kernel_rfl)) (ig (X:=Qo (allM (j6 t k (kS e.az e.az.n)) e)) (stop:=yK) (an1 _ _ (allM (j6 t k (kS e.az e.az.n)) e) t e k r0 r1 r2 r3 r4 r5 ?_))
 refine ak (fun h1=>?_) (fun h1=>ak (fun h2=>?_) (fun h2=>ak (fun h3=>?_) (fun h3=>?_)))
 ·rw [show kX t e k=false from by simp only [kX,show decide ((e.frames.n:Int)<1)=true from h1,aO]]; exact ⟨6,bg rfl,bg rfl,rfl,rfl,aX.refl _,bz _ _⟩
 ·rw [show kX t e k=false from by simp only [kX,show decide ((e.frames.n:Int)>6)=true from h2,aO]]; exact ⟨6,bg rfl,bg rfl,rfl,rfl,aX.refl _,bz _ _⟩
 ·rw [show kX t e k=false from by simp only [kX,show decide (e.back<0)=true from h3,aO]]; exact ⟨6,bg rfl,bg rfl,rfl,rfl,aX.refl _,bz _ _⟩
 ·have hN:e.frames.n≤6:=by have:=of_decide_eq_false h2; omega
  refine Vc _ t e k r0 r1 r2 r3 r4 r5 hk hS hw _ hN rfl 0 (bu _) ?_
  simp only [kX,dn,Nat.sub_zero,show decide ((e.frames.n:Int)<1)=false from h1,show decide ((e.frames.n:Int)>6)=false from h2,show decide (e.back<0)=false from h3,aO]
open Go Go.V
def b3 (t:ae) (k:Nat):Bool := !(pC (t.ins.get k)!=((k:Int)==(t.ins.n:Int)-1))&&(bo (t.ins.get k) && !((t.ins.get k).once && !cC (t.ins.get k).op [2,3,4,5,6,7,8,9,10,12,14]))
def b7 (t:ae) (k:Nat):Bool := !((t.ins.get k).op==1&&(decide ((k:Int)≥(js t.ins:Int))||(decide ((k:Int)>0)&&decide ((t.ins.get k).k.n≤(t.ins.get (k-1)).k.n))))
def b9 (t:ae) (k:Nat):Bool := !((t.ins.get k).op==20&&(((t.ins.get k).args.n:Int)!=(js t.ins:Int)))
def Ow (t:ae) (k:Nat):Bool := !decide ((t.ins.get k).exit < -1)&&(!decide ((t.ins.get k).exit≥(t.aa.n:Int))&&(!(decide ((t.ins.get k).exit≥0) && !sR (t.ins.get k).op) && !(decide ((t.ins.get k).exit<0)&&cC (t.ins.get k).op [5,6,7,8,9,15,18,21])))
def NS (t:ae) (l:List Int) (k:Nat):Bool×List Int:=bif decide ((t.ins.get k).exit<0) then (true,l) else bif er (t.ins.get k).exit l then (false,l) else (kX t (t.aa.get (t.ins.get k).exit.toNat) k,rC (t.ins.get k).exit l)
def ZN (t:ae) (l:List Int) (k:Nat):Bool×List Int:=bif Lj t k then NS t l k else (false,l)
def KM (t:ae) (l:List Int) (k:Nat):Bool×List Int:=bif Ow t k then ZN t l k else (false,l)
def o9 (t:ae) (l:List Int) (k:Nat):Bool×List Int:=bif b9 t k then KM t l k else (false,l)
def o7 (t:ae) (l:List Int) (k:Nat):Bool×List Int:=bif b7 t k then o9 t l k else (false,l)
def o3 (t:ae) (l:List Int) (k:Nat):Bool×List Int:=bif b3 t k then o7 t l k else (false,l)
def Ll (x:Option ah):List Int:=match x with
 | some (.set l)=>l
 | _=>[]
def F9L:CA:=[
 (65,fun ds rs=>(bool (kX (gj ds 0) (Ei ds 1) (aI ds 2)),[],[])),
 (42,fun ds rs=>(bool (o3 (gj ds 0) (Ll (aV rs 1)) (aI ds 1).toNat).1,[(1,.set (o3 (gj ds 0) (Ll (aV rs 1)) (aI ds 1).toNat).2)],[]))]
def F9:=ext F8 F9L
def zi:hX:={ F:=F9,S:=[1] }
def qK:Nat→Bool:=fun i=>Nat.beq i 3||Nat.beq i 7||Nat.beq i 9||Nat.beq i 11||Nat.beq i 13||Nat.beq i 14
theorem as9:Fn 42:=⟨by kernel_rfl,by kernel_rfl⟩
abbrev pn (ax:Nat):gF:=(1,((oA ax),[]))
abbrev ug:gF:=(3,((.c (.rt 3 0 0)),[]))
abbrev uv:gF:=(7,((.c (.rt 4 0 0)),[]))
abbrev iv (ax:ah) (aF:List Int) (aR:ah) (bZ:ae) (ct:Nat):List ah:=[ax,(.set aF),aR,(eW bZ),(.box (rv bZ ct))]
theorem as8 (L:LP) (QE:D→List ah→Prop) (t:ae) (r0 r2:ah) (l:List Int) (k:Nat) (h:nd (cd (↑k:Int) t.2.1) (L (ag 42 3) ⟨[(pn k),(2,((km t),[])),ug,uv,(8,((bool ((↑k:Int)==IntKind.i64.wrap ((↑t.2.1:Int)-1))),[]))],(iv r0 l r2 t k),[]⟩)):fS zi 42 qK L QE [yI t 1,int k,int (js t.ins)] [r0,.set l,r2]:=Eq.mp (by kernel_rfl) h
abbrev s7 (ax:Nat):gF:=(1,(int (↑ax:Int)),[])
abbrev tw:gF:=(3,(.c (.rt 3 0 0)),[])
abbrev tC:gF:=(7,(.c (.rt 4 0 0)),[])
def Ot (t:ae) (r0 r2:ah) (l:List Int) (k:Nat)  : VS:=⟨[(s7 k),(2,(km t),[]),tw,tC,(8,(bool ((↑k:Int)==IntKind.i64.wrap ((↑t.2.1:Int)-1))),[])],(iv r0 l r2 t k),[]⟩
abbrev Ca (ax:Nat) (aF:ae) (aR:ah) (bZ:List Int) (ct:ah):VS:=⟨[(pn ax),(2,((km aF),[])),ug,uv,(24,((bool false),[]))],(iv aR bZ ct aF ax),[]⟩
theorem Xv (L:LP) (QE:D→List ah→Prop) (t:ae) (r0 r2:ah) (l:List Int) (k:Nat)  (h:br ((t.ins.2 k).1==20) (br (!true==((↑k:Int)==IntKind.i64.wrap ((↑t.2.1:Int)-1))) (QE (bool false) [r0,(.set l),r2,(.box (dL (t) 1)),(.box (lift (aT (t.ins.2 k))))]) ((LC 60 (jB t k) [] (bool (bo (t.ins.2 k))) []∧br (!bo (t.ins.2 k)) (QE (bool false) [r0,(.set l),r2,(.box (dL (t) 1)),(.box (lift (aT (t.ins.2 k))))]) (br ((t.ins.2 k).11) ((LC 54 (j4 t k) [] (bool (cC (t.ins.2 k).1 [2,3,4,5,6,7,8,9,10,12,14])) []∧br (!cC (t.ins.2 k).1 [2,3,4,5,6,7,8,9,10,12,14]) (QE (bool false) [r0,(.set l),r2,(.box (dL (t) 1)),(.box (lift (aT (t.ins.2 k))))]) (L (ag 42 7) (Ca k t r0 l r2)))) (L (ag 42 7) (Ca k t r0 l r2)))))) (br (!((t.ins.2 k).1==21)==((↑k:Int)==IntKind.i64.wrap ((↑t.2.1:Int)-1))) (QE (bool false) [r0,(.set l),r2,(.box (dL (t) 1)),(.box (lift (aT (t.ins.2 k))))]) ((LC 60 (jB t k) [] (bool (bo (t.ins.2 k))) []∧br (!bo (t.ins.2 k)) (QE (bool false) [r0,(.set l),r2,(.box (dL (t) 1)),(.box (lift (aT (t.ins.2 k))))]) (br ((t.ins.2 k).11) ((LC 54 (j4 t k) [] (bool (cC (t.ins.2 k).1 [2,3,4,5,6,7,8,9,10,12,14])) []∧br (!cC (t.ins.2 k).1 [2,3,4,5,6,7,8,9,10,12,14]) (QE (bool false) [r0,(.set l),r2,(.box (dL (t) 1)),(.box (lift (aT (t.ins.2 k))))]) (L (ag 42 7) (Ca k t r0 l r2)))) (L (ag 42 7) (Ca k t r0 l r2))))))):dq zi 42 qK L QE 3 (Ot t r0 r2 l k ):=Eq.mp (by kernel_rfl) h
def yb (t:ae) (r0 r2:ah) (l:List Int) (k:Nat)  : VS:=⟨[(s7 k),(2,(km t),[]),tw,tC],(iv r0 l r2 t k),[]⟩
abbrev Gj (ax:Nat) (aF:ae):aN:=[(pn ax),(2,((km aF),[])),ug,uv,(46,((bool false),[]))]
theorem Xi (L:LP) (QE:D→List ah→Prop) (t:ae) (r0 r2:ah) (l:List Int) (k:Nat)  (h:br ((t.ins.2 k).1==1) (br (decide ((↑k:Int)≥(↑(js t.2):Int))) (QE (bool false) [r0,(.set l),r2,(.box (dL (t) 1)),(.box (lift (aT (t.ins.2 k))))]) (br (decide ((↑k:Int)>0)) (nd (cd (IntKind.i64.wrap ((↑k:Int)-1)) t.2.1) (br (decide ((t.ins.2 k).7.2≤(t.ins.2 (IntKind.i64.wrap ((↑k:Int)-1)).toNat).7.2)) (QE (bool false) [r0,(.set l),r2,(.box (dL (t) 1)),(.box (lift (aT (t.ins.2 k))))]) (L (ag 42 9) ⟨(Gj k t),(iv r0 l r2 t k),[]⟩))) (L (ag 42 9) ⟨(Gj k t),(iv r0 l r2 t k),[]⟩))) (L (ag 42 9) ⟨(Gj k t),(iv r0 l r2 t k),[]⟩)):dq zi 42 qK L QE 7 (yb t r0 r2 l k ):=Eq.mp (by kernel_rfl) h
def tB (t:ae) (r0 r2:ah) (l:List Int) (k:Nat)  : VS:=⟨[(s7 k),(2,(km t),[]),tw,tC],(iv r0 l r2 t k),[]⟩
theorem WY (L:LP) (QE:D→List ah→Prop) (t:ae) (r0 r2:ah) (l:List Int) (k:Nat)  (h:br ((t.ins.2 k).1==20) (br ((↑(t.ins.2 k).6.1:Int)!=(↑(js t.2):Int)) (QE (bool false) [r0,(.set l),r2,(.box (dL (t) 1)),(.box (lift (aT (t.ins.2 k))))]) (L (ag 42 11) ⟨[(pn k),ug,uv,(74,((bool false),[]))],(iv r0 l r2 t k),[]⟩)) (L (ag 42 11) ⟨[(pn k),ug,uv,(74,((bool false),[]))],(iv r0 l r2 t k),[]⟩)):dq zi 42 qK L QE 9 (tB t r0 r2 l k ):=Eq.mp (by kernel_rfl) h
def vJ (t:ae) (r0 r2:ah) (l:List Int) (k:Nat)  : VS:=⟨[(s7 k),tw,tC],(iv r0 l r2 t k),[]⟩
abbrev Cu (ax:Nat):aN:=[(pn ax),ug,uv,(85,((bool false),[]))]
theorem R8 (L:LP) (QE:D→List ah→Prop) (t:ae) (r0 r2:ah) (l:List Int) (k:Nat)  (h:br (decide ((t.ins.2 k).10 < -1)) (QE (bool false) [r0,(.set l),r2,(.box (dL (t) 1)),(.box (lift (aT (t.ins.2 k))))]) (br (decide ((t.ins.2 k).10≥(↑t.3.1:Int))) (QE (bool false) [r0,(.set l),r2,(.box (dL (t) 1)),(.box (lift (aT (t.ins.2 k))))]) (br (decide ((t.ins.2 k).10≥0)) ((LC 61 (j4 t k) [] (bool (sR (t.ins.2 k).1)) []∧br (!sR (t.ins.2 k).1) (QE (bool false) [r0,(.set l),r2,(.box (dL (t) 1)),(.box (lift (aT (t.ins.2 k))))]) (br (decide ((t.ins.2 k).10<0)) ((LC 62 (j4 t k) [] (bool (cC (t.ins.2 k).1 [5,6,7,8,9,15,18,21])) []∧br (cC (t.ins.2 k).1 [5,6,7,8,9,15,18,21]) (QE (bool false) [r0,(.set l),r2,(.box (dL (t) 1)),(.box (lift (aT (t.ins.2 k))))]) (L (ag 42 13) ⟨(Cu k),(iv r0 l r2 t k),[]⟩))) (L (ag 42 13) ⟨(Cu k),(iv r0 l r2 t k),[]⟩)))) (br (decide ((t.ins.2 k).10<0)) ((LC 62 (j4 t k) [] (bool (cC (t.ins.2 k).1 [5,6,7,8,9,15,18,21])) []∧br (cC (t.ins.2 k).1 [5,6,7,8,9,15,18,21]) (QE (bool false) [r0,(.set l),r2,(.box (dL (t) 1)),(.box (lift (aT (t.ins.2 k))))]) (L (ag 42 13) ⟨(Cu k),(iv r0 l r2 t k),[]⟩))) (L (ag 42 13) ⟨(Cu k),(iv r0 l r2 t k),[]⟩))))):dq zi 42 qK L QE 11 (vJ t r0 r2 l k ):=Eq.mp (by kernel_rfl) h
def vh (t:ae) (r0 r2:ah) (l:List Int) (k:Nat)  : VS:=⟨[(s7 k),tw,tC],(iv r0 l r2 t k),[]⟩
theorem Tn (L:LP) (QE:D→List ah→Prop) (t:ae) (r0 r2:ah) (l:List Int) (k:Nat)  (h:(LC 63 (jB t k) [] (Ai t k) []∧L (ag 42 14) ⟨[(pn k),ug,uv,(120,((Ai t k),[])),(121,((int ((↑(aC (t.ins.2 k)).1:Int))),[])),(122,((int 0),[]))],(iv r0 l r2 t k),[]⟩)):dq zi 42 qK L QE 13 (vh t r0 r2 l k ):=Eq.mp (by kernel_rfl) h
def AE (t:ae) (r0 r2:ah) (l:List Int) (k:Nat) (j:Nat):VS:=⟨[(s7 k),tw,tC,(120,eT 1 b8 (aC (t.ins.get k)),[]),(121,(int ((↑(aC (t.ins.2 k)).1:Int))),[]),(122,int j,[])],(iv r0 l r2 t k),[]⟩
theorem JB (L:LP) (QE:D→List ah→Prop) (t:ae) (r0 r2:ah) (l:List Int) (k:Nat) (j:Nat) (h:br (decide ((↑j:Int)<(↑(aC (t.ins.2 k)).1:Int))) (nd (cd (↑j:Int) (aC (t.ins.2 k)).1) ((LC 64 [(.a (dL (t) 1)),(int ((aC (t.ins.get k)).2 j)),(int (↑k:Int))] (iv r0 l r2 t k) (bool (dC t ((aC (t.ins.get k)).2 j) (Int.ofNat k))) (iv r0 l r2 t k)∧br (!dC t ((aC (t.ins.get k)).2 j) (Int.ofNat k)) (QE (bool false) [r0,(.set l),r2,(.box (dL (t) 1)),(.box (lift (aT (t.ins.2 k))))]) (nd (cd ((aC (t.ins.get k)).2 j) t.2.1) (br ((t.ins.2 ((aC (t.ins.get k)).2 j).toNat).1==17) (QE (bool false) [r0,(.set l),r2,(.box (dL (t) 1)),(.box (lift (aT (t.ins.2 k))))]) (L (ag 42 14) ⟨[(pn k),ug,uv,(120,((Gi t k),[])),(121,((int ((↑(aC (t.ins.2 k)).1:Int))),[])),(122,((int (IntKind.i64.wrap ((↑j:Int)+1))),[]))],(iv r0 l r2 t k),[]⟩)))))) (br (decide ((t.ins.2 k).10<0)) (QE (bool true) [r0,(.set l),r2,(.box (dL (t) 1)),(.box (lift (aT (t.ins.2 k))))]) (br (er (t.ins.2 k).10 l) (QE (bool false) [r0,(.set l),r2,(.box (dL (t) 1)),(.box (lift (aT (t.ins.2 k))))]) (nd (cd (t.ins.2 k).10 t.3.1) ((LC 65 [(.a (dL (t) 1)),(.a (lift (bn (t.aa.2 (t.ins.2 k).10.toNat)))),(int (↑k:Int))] [r0,(.set (rC (t.ins.2 k).10 l)),r2,(eW t),(.box (rv t k)),.dead] (bool (kX t (t.aa.2 (t.ins.2 k).10.toNat) (Int.ofNat k))) [r0,(.set (rC (t.ins.2 k).10 l)),r2,(eW t),(.box (rv t k)),.dead]∧QE (bool (kX t (t.aa.2 (t.ins.2 k).10.toNat) (Int.ofNat k))) [r0,(.set (rC (t.ins.2 k).10 l)),r2,(.box (dL (t) 1)),(.box (lift (aT (t.ins.2 k)))),.dead])))))):dq zi 42 qK L QE 14 (AE t r0 r2 l k j):=Eq.mp (by kernel_rfl) h
theorem QN (t:ae) (r0 r2:ah) (l:List Int) (k:Nat) (hk:k<t.ins.n) (hS:ed t) (hw:fx 3 [r0,.set l,r2]) (hE:(t.ins.get k).exit<t.aa.n):∀ j,j≤(aC (t.ins.get k)).n→∀ o:Bool×List Int,(bif bS (fun j=>u16 t k ((aC (t.ins.get k)).get j)) ((aC (t.ins.get k)).n-j) j then NS t l k else (false,l))=o→af 42 3 (Go.V.Ends [r0,.set l,r2] (bool (o).1) [r0,.set (o).2,r2]) (ag 42 14) (AE t r0 r2 l k j):=by
 have hN:(aC (t.ins.get k)).n≤1000:=JN _ (hS.args k hk)
 refine aL (fun j hj ih o ho=>?_) (fun o ho=>?_)
 ·have q:(aC (t.ins.get k)).n-j=((aC (t.ins.get k)).n-(j+1))+1:=by omega
  rw [q] at ho
  have no:u16 t k ((aC (t.ins.get k)).get j)=false→o=(false,l):=fun q=>by rw [cO (p:=fun j=>u16 t k ((aC (t.ins.get k)).get j)) q] at ho; exact ho.symm
  have go:u16 t k ((aC (t.ins.get k)).get j)=true→af 42 3 (Go.V.Ends [r0,.set l,r2] (bool (o).1) [r0,.set (o).2,r2]) (ag 42 14) (AE t r0 r2 l k (j+1)):=fun q=>by rw [dI (p:=fun j=>u16 t k ((aC (t.ins.get k)).get j)) q] at ho; exact ih o ho
  refine bA (X:=zi) (stop:=qK) (JB _ _ t r0 r2 l k j ?_)
  rw [bR hj (cM hN (by decide))]
  refine ak (fun h=>?_) (fun h=>(dec_lt h hj).elim)
  refine aw (aA hj) ⟨RN _ _ _ _ _ _ _ _ (by omega),?_⟩
  refine ak (fun h1=>?_) (fun h1=>?_)
  ·rw [no (by simp only [u16,show dC t ((aC (t.ins.get k)).get j) k=false from by simpa using h1,aO])]; exact ⟨3,bg rfl,bg rfl,rfl,rfl,aX.refl _,⟨.inl (.inl rfl),.inr rfl,.inl (.inl rfl),trivial⟩⟩
  have h1:dC t ((aC (t.ins.get k)).get j) k=true:=by simpa using h1
  refine aw (nB h1 (by omega)) (ak (fun h2=>?_) (fun h2=>?_))
  ·rw [no (by simp only [u16,h1,show ((t.ins.get ((aC (t.ins.get k)).get j).toNat).op==17)=true from h2,aO])]; exact ⟨3,bg rfl,bg rfl,rfl,rfl,aX.refl _,⟨.inl (.inl rfl),.inr rfl,.inl (.inl rfl),trivial⟩⟩
  refine af.cut 5 (bg rfl) (bg rfl) rfl rfl ⟨hw.1.mono (by decide),.inl rfl,hw.2.2.1.mono (by decide),.inl rfl,.inl rfl,trivial⟩ (go ?_)
  simp only [u16,h1,show ((t.ins.get ((aC (t.ins.get k)).get j).toNat).op==17)=false from h2,aO]
 ·rw [Nat.sub_self] at ho
  have ho:NS t l k=o:=ho
  subst ho
  refine bA (X:=zi) (stop:=qK) (JB _ _ t r0 r2 l k _ ?_)
  refine ak (fun h=>bJ h) (fun h=>?_)
  refine ak (fun h1=>?_) (fun h1=>ak (fun h2=>?_) (fun h2=>?_))
  ·rw [show NS t l k=(true,l) from by simp only [NS,show decide ((t.ins.get k).exit<0)=true from h1,aO]]; exact ⟨3,bg rfl,bg rfl,rfl,rfl,aX.refl _,⟨.inl (.inl rfl),.inr rfl,.inl (.inl rfl),trivial⟩⟩
  ·rw [show NS t l k=(false,l) from by simp only [NS,show decide ((t.ins.get k).exit<0)=false from h1,show er (t.ins.get k).exit l=true from h2,aO]]; exact ⟨3,bg rfl,bg rfl,rfl,rfl,aX.refl _,⟨.inl (.inl rfl),.inr rfl,.inl (.inl rfl),trivial⟩⟩
  ·have h0:0≤(t.ins.get k).exit:=by have:=of_decide_eq_false h1; omega
   have hx:=hE
   refine aw (lR h0 hx) ⟨Z8 _ _ _ _ _ _ _ _ _ (by omega) (hS.ex _ (by omega)) ⟨hw.1.mono (by decide),.inl rfl,hw.2.2.1.mono (by decide),.inl rfl,.inl rfl,.inl rfl,trivial⟩,?_⟩
   rw [show NS t l k=(kX t (t.aa.get (t.ins.get k).exit.toNat) k,rC (t.ins.get k).exit l) from by simp only [NS,show decide ((t.ins.get k).exit<0)=false from h1,show er (t.ins.get k).exit l=false from h2,aO]]; exact ⟨3,bg rfl,bg rfl,rfl,rfl,aX.refl _,⟨.inl (.inl rfl),.inr rfl,.inl (.inl rfl),trivial⟩⟩
theorem Q6 (t:ae) (r0 r2:ah) (l:List Int) (k:Nat) (hk:k<t.ins.n) (hS:ed t) (hw:fx 3 [r0,.set l,r2]) (hE:(t.ins.get k).exit<t.aa.n):af 42 3 (Go.V.Ends [r0,.set l,r2] (bool (ZN t l k).1) [r0,.set (ZN t l k).2,r2]) (ag 42 13) (vh t r0 r2 l k):=by
 refine bA (X:=zi) (stop:=qK) (Tn _ _ t r0 r2 l k ⟨Zn _,?_⟩)
 exact QN t r0 r2 l k hk hS hw hE 0 (bu _) _ rfl
theorem Su (t:ae) (r0 r2:ah) (l:List Int) (k:Nat) (hk:k<t.ins.n) (hS:ed t) (hw:fx 3 [r0,.set l,r2]):af 42 3 (Go.V.Ends [r0,.set l,r2] (bool (KM t l k).1) [r0,.set (KM t l k).2,r2]) (ag 42 11) (vJ t r0 r2 l k):=by
 have no:Ow t k=false→Go.V.Ends [r0,.set l,r2] (bool (KM t l k).1) [r0,.set (KM t l k).2,r2] (bool false) [r0,.set l,r2,.box (dL t 1),.box (lift (aT (t.ins.get k)))]:=fun q=>by
  rw [show KM t l k=(false,l) from by unfold KM; rw [q]; rfl]; exact ⟨3,bg rfl,bg rfl,rfl,rfl,aX.refl _,⟨.inl (.inl rfl),.inr rfl,.inl (.inl rfl),trivial⟩⟩
 have go:Ow t k=true→af 42 3 (Go.V.Ends [r0,.set l,r2] (bool (KM t l k).1) [r0,.set (KM t l k).2,r2]) (ag 42 13) (vh t r0 r2 l k):=fun q=>by
  rw [show KM t l k=ZN t l k from by unfold KM; rw [q]; rfl]; exact Q6 t r0 r2 l k hk hS hw (by simp only [Ow,dz,Bool.not_eq_true',decide_eq_false_iff_not] at q; omega)
 refine bA (X:=zi) (stop:=qK) (R8 _ _ t r0 r2 l k ?_)
 repeat' (first|refine ak (fun h=>?_) (fun h=>?_)|refine ⟨ZD _,?_⟩|refine ⟨UH _,?_⟩|done)
 all_goals (try simp only [Bool.not_eq_true',Bool.not_eq_false'] at *)
 all_goals first
  | exact no (by simp only [Ow, *,aO])
  | exact af.le (vh t r0 r2 l k) (by repeat' (first|exact trivial|refine bV rfl ?_)) (rc (rc (rc (rc (rc (.nil)))))) rfl (go (by simp only [Ow, *,aO]))
  | (exfalso; simp only [decide_eq_true_eq,decide_eq_false_iff_not] at *; omega)
theorem Xy (t:ae) (r0 r2:ah) (l:List Int) (k:Nat) (hk:k<t.ins.n) (hS:ed t) (hw:fx 3 [r0,.set l,r2]):af 42 3 (Go.V.Ends [r0,.set l,r2] (bool (o9 t l k).1) [r0,.set (o9 t l k).2,r2]) (ag 42 9) (tB t r0 r2 l k):=by
 have no:b9 t k=false→Go.V.Ends [r0,.set l,r2] (bool (o9 t l k).1) [r0,.set (o9 t l k).2,r2] (bool false) [r0,.set l,r2,.box (dL t 1),.box (lift (aT (t.ins.get k)))]:=fun q=>by
  rw [show o9 t l k=(false,l) from by unfold o9; rw [q]; rfl]; exact ⟨3,bg rfl,bg rfl,rfl,rfl,aX.refl _,⟨.inl (.inl rfl),.inr rfl,.inl (.inl rfl),trivial⟩⟩
 have go:b9 t k=true→af 42 3 (Go.V.Ends [r0,.set l,r2] (bool (o9 t l k).1) [r0,.set (o9 t l k).2,r2]) (ag 42 11) (vJ t r0 r2 l k):=fun q=>by
  rw [show o9 t l k=KM t l k from by unfold o9; rw [q]; rfl]; exact Su t r0 r2 l k hk hS hw
 refine bA (X:=zi) (stop:=qK) (WY _ _ t r0 r2 l k ?_)
 repeat' (first|refine ak (fun h=>?_) (fun h=>?_) |  done)
 all_goals (try simp only [Bool.not_eq_true',Bool.not_eq_false'] at *)
 all_goals first
  | exact no (by simp only [b9, *,aO])
  | exact af.le (vJ t r0 r2 l k) (by repeat' (first|exact trivial|refine bV rfl ?_)) (rc (rc (rc (rc (rc (.nil)))))) rfl (go (by simp only [b9, *,aO]))
  | (exfalso; simp only [decide_eq_true_eq,decide_eq_false_iff_not] at *; omega)
theorem V7 (t:ae) (r0 r2:ah) (l:List Int) (k:Nat) (hk:k<t.ins.n) (hS:ed t) (hw:fx 3 [r0,.set l,r2]):af 42 3 (Go.V.Ends [r0,.set l,r2] (bool (o7 t l k).1) [r0,.set (o7 t l k).2,r2]) (ag 42 7) (yb t r0 r2 l k):=by
 have no:b7 t k=false→Go.V.Ends [r0,.set l,r2] (bool (o7 t l k).1) [r0,.set (o7 t l k).2,r2] (bool false) [r0,.set l,r2,.box (dL t 1),.box (lift (aT (t.ins.get k)))]:=fun q=>by
  rw [show o7 t l k=(false,l) from by unfold o7; rw [q]; rfl]; exact ⟨3,bg rfl,bg rfl,rfl,rfl,aX.refl _,⟨.inl (.inl rfl),.inr rfl,.inl (.inl rfl),trivial⟩⟩
 have go:b7 t k=true→af 42 3 (Go.V.Ends [r0,.set l,r2] (bool (o7 t l k).1) [r0,.set (o7 t l k).2,r2]) (ag 42 9) (tB t r0 r2 l k):=fun q=>by
  rw [show o7 t l k=o9 t l k from by unfold o7; rw [q]; rfl]; exact Xy t r0 r2 l k hk hS hw
 refine bA (X:=zi) (stop:=qK) (Xi _ _ t r0 r2 l k ?_)
 have w1:decide ((k:Int)>0)=true→IntKind.i64.wrap ((k:Int)-1)=((k-1:Nat):Int):=fun h=>by
  have h:=of_decide_eq_true h
  rw [ir (by omega) (by have:=hS.ins; omega)]
  omega
 refine ak (fun h=>?_) (fun h=>?_)
 ·have h:((t.ins.get k).op==1)=true:=h
  refine ak (fun h0=>no (by simp only [b7,h,show decide ((k:Int)≥(js t.ins:Int))=true from h0,aO])) (fun h0=>?_)
  have h0:decide ((k:Int)≥(js t.ins:Int))=false:=h0
  refine ak (fun h1=>?_) (fun h1=>?_)
  ·rw [w1 h1]
   have kH:decide ((k:Int)>0)=true:=h1
   have h1'':=of_decide_eq_true h1
   refine aw (aA (by omega)) (ak (fun h2=>no ?_) (fun h2=>?_))
   ·simp only [b7,h,h0,kH,show decide ((t.ins.get k).k.n≤(t.ins.get (k-1)).k.n)=true from h2,aO]
   ·exact af.le (tB t r0 r2 l k) (by repeat' (first|exact trivial|refine bV rfl ?_)) (rc (rc (rc (rc (rc (.nil)))))) rfl (go (by simp only [b7,h,h0,kH,show decide ((t.ins.get k).k.n≤(t.ins.get (k-1)).k.n)=false from h2,aO]))
  ·exact af.le (tB t r0 r2 l k) (by repeat' (first|exact trivial|refine bV rfl ?_)) (rc (rc (rc (rc (rc (.nil)))))) rfl (go (by simp only [b7,h,h0,show decide ((k:Int)>0)=false from h1,aO]))
 ·exact af.le (tB t r0 r2 l k) (by repeat' (first|exact trivial|refine bV rfl ?_)) (rc (rc (rc (rc (rc (.nil)))))) rfl (go (by simp only [b7,show ((t.ins.get k).op==1)=false from h,aO]))
theorem Xn (t:ae) (r0 r2:ah) (l:List Int) (k:Nat) (hk:k<t.ins.n) (hS:ed t) (hw:fx 3 [r0,.set l,r2]):af 42 3 (Go.V.Ends [r0,.set l,r2] (bool (o3 t l k).1) [r0,.set (o3 t l k).2,r2]) (ag 42 3) (Ot t r0 r2 l k):=by
 have no:b3 t k=false→Go.V.Ends [r0,.set l,r2] (bool (o3 t l k).1) [r0,.set (o3 t l k).2,r2] (bool false) [r0,.set l,r2,.box (dL t 1),.box (lift (aT (t.ins.get k)))]:=fun q=>by
  rw [show o3 t l k=(false,l) from by unfold o3; rw [q]; rfl]; exact ⟨3,bg rfl,bg rfl,rfl,rfl,aX.refl _,⟨.inl (.inl rfl),.inr rfl,.inl (.inl rfl),trivial⟩⟩
 have go:b3 t k=true→af 42 3 (Go.V.Ends [r0,.set l,r2] (bool (o3 t l k).1) [r0,.set (o3 t l k).2,r2]) (ag 42 7) (yb t r0 r2 l k):=fun q=>by
  rw [show o3 t l k=o7 t l k from by unfold o3; rw [q]; rfl]; exact V7 t r0 r2 l k hk hS hw
 refine bA (X:=zi) (stop:=qK) (Xv _ _ t r0 r2 l k ?_)
 rw [zG (by omega) hS.ins]
 refine ak (fun h=>?_) (fun h=>?_)
 ·have h0:pC (t.ins.get k)=true:=by simp only [pC,show ((t.ins.get k).op==20)=true from h,aO]
  clear h
  refine ak (fun h1=>?_) (fun h1=>?_)
  ·have h1:(true != ((k:Int)==(t.ins.n:Int)-1))=true:=h1
   exact no (by simp only [b3,h0,h1,aO])
  have h1:(true != ((k:Int)==(t.ins.n:Int)-1))=false:=h1
  repeat' (first|refine ak (fun h=>?_) (fun h=>?_)|refine ⟨UY _,?_⟩|refine ⟨T7 _,?_⟩|done)
  all_goals (try simp only [Bool.not_eq_true',Bool.not_eq_false'] at *)
  all_goals first
   | exact no (by simp only [b3, *,aO])
   | exact af.le (yb t r0 r2 l k) (by repeat' (first|exact trivial|refine bV rfl ?_)) (rc (rc (rc (rc (rc (.nil)))))) rfl (go (by simp only [b3, *,aO]))
   | (exfalso; simp only [decide_eq_true_eq,decide_eq_false_iff_not] at *; omega)
 ·have h0:pC (t.ins.get k)=((t.ins.get k).op==21):=by simp only [pC,show ((t.ins.get k).op==20)=false from h,aO]
  clear h
  refine ak (fun h1=>?_) (fun h1=>?_)
  ·have h1:(((t.ins.get k).op==21)!=((k:Int)==(t.ins.n:Int)-1))=true:=h1
   exact no (by simp only [b3,h0,h1,aO])
  have h1:(((t.ins.get k).op==21)!=((k:Int)==(t.ins.n:Int)-1))=false:=h1
  repeat' (first|refine ak (fun h=>?_) (fun h=>?_)|refine ⟨UY _,?_⟩|refine ⟨T7 _,?_⟩|done)
  all_goals (try simp only [Bool.not_eq_true',Bool.not_eq_false'] at *)
  all_goals first
   | exact no (by simp only [b3, *,aO])
   | exact af.le (yb t r0 r2 l k) (by repeat' (first|exact trivial|refine bV rfl ?_)) (rc (rc (rc (rc (rc (.nil)))))) rfl (go (by simp only [b3, *,aO]))
   | (exfalso; simp only [decide_eq_true_eq,decide_eq_false_iff_not] at *; omega)
theorem Yk (t:ae) (r0 r2:ah) (l:List Int) (k:Nat) (hk:k<t.ins.n) (hS:ed t) (hw:fx 3 [r0,.set l,r2]):LC 42 [yI t 1,int k,int (js t.ins)] [r0,.set l,r2] (bool (o3 t l k).1) [r0,.set (o3 t l k).2,r2]:=
 je as9 (bg (by kernel_rfl)) (ig (X:=zi) (stop:=qK) (as8 _ _ t r0 r2 l k (aw (aA hk) (Xn t r0 r2 l k hk hS hw))))
def Pm:Nat→Bool:=fun i=>Nat.beq i 8
theorem ar5:Fn 29:=⟨by kernel_rfl,by kernel_rfl⟩
abbrev cN:gF:=(3,((.c (.rt 2 0 0)),[]))
theorem ar3 (L:LP) (QD:D→Prop) (t:ae) (h:br (decide ((↑t.2.1:Int)>200)) (QD (int 2)) (br (decide ((↑t.3.1:Int)>60)) (QD (int 2)) (br (decide (t.1.1<0)) (QD (int 31)) (br (decide (t.1.2<0)) (QD (int 31)) (br ((↑t.2.1:Int)==0) (QD (int 31)) ((LC 41 [(dw t)] [] (km t) []∧L (ag 29 8) ⟨[cN,(4,((km t),[])),(39,((pk t),[])),(40,((int 0),[]))],[(bC t),(.set []),(eW t)],[]⟩))))))):fS zi 29 Pm L (aZ QD) [bc t] []:=Eq.mp (by kernel_rfl) h
def PZ (t:ae) (l:List Int) (k:Nat):VS:=⟨[(3,(.c (.rt 2 0 0)),[]),(4,(km t),[]),(39,(pk t),[]),(40,int k,[])],[(bC t),.set l,(eW t)],[]⟩
theorem N0 (L:LP) (QD:D→Prop) (t:ae) (l:List Int) (k:Nat) (h:br (decide ((↑k:Int)<(↑t.2.1:Int))) ((LC 42 [(.a (dL (t) 1)),(int (↑k:Int)),(km t)] [(bC t),(.set l),(eW t)] (bool ((o3 t (Ll (some (ah.set l))) k).1)) [(bC t),(.set ((o3 t (Ll (some (ah.set l))) k).2)),(eW t)]∧br (!(o3 t (Ll (some (ah.set l))) k).1) (QD (int 31)) (L (ag 29 8) ⟨[cN,(4,((km t),[])),(39,((pk t),[])),(40,((int (IntKind.i64.wrap ((↑k:Int)+1))),[]))],[(bC t),(.set ((o3 t (Ll (some (ah.set l))) k).2)),(eW t)],[]⟩))) (QD (int 0))):dq zi 29 Pm L (aZ QD) 8 (PZ t l k):=Eq.mp (by kernel_rfl) h
def xn (t:ae):Nat→Nat→List Int→Bool
 | 0,_,_=>true
 | m+1,k,l=>bif (o3 t l k).1 then xn t m (k+1) (o3 t l k).2 else false
def eO (t:ae):Int:=bif decide ((t.ins.n:Int)>200) then 2 else bif decide ((t.aa.n:Int)>60) then 2 else bif !(decide (t.place.fn<0)||(decide (t.place.line<0)||((t.ins.n:Int)==0)))&&xn t t.ins.n 0 [] then 0 else 31
theorem V0 (t:ae) (hS:ed t) (a:Int):∀ k,k≤t.ins.n→∀ l,(bif xn t (t.ins.n-k) k l then 0 else 31)=a→af 29 0 (aW (int a)) (ag 29 8) (PZ t l k):=by
 have hN:=hS.ins
 refine aL (fun k hk ih l ha=>?_) (fun l ha=>?_)
 ·have q:t.ins.n-k=(t.ins.n-(k+1))+1:=by omega
  rw [q] at ha
  refine aH (X:=zi) (stop:=Pm) (N0 _ _ t l k ?_)
  rw [bR hk (cM hN (by decide))]
  refine ak (fun h=>?_) (fun h=>(dec_lt h hk).elim)
  refine ⟨Yk t _ _ l k hk hS ⟨.inl rfl,.inl rfl,.inl rfl,trivial⟩,?_⟩
  refine ak (fun h1=>?_) (fun h1=>?_)
  ·have h1:(o3 t l k).1=false:=(Bool.not_eq_true' _).mp h1
   rw [show xn t (t.ins.n-(k+1)+1) k l=false from by unfold xn; rw [h1]; rfl] at ha
   subst ha
   exact aX.refl _
  ·have h1:(o3 t l k).1=true:=(Bool.not_eq_false' _▸h1:(o3 t l k).1=true)
   rw [show xn t (t.ins.n-(k+1)+1) k l=xn t (t.ins.n-(k+1)) (k+1) (o3 t l k).2 from by rw [show xn t (t.ins.n-(k+1)+1) k l=(bif (o3 t l k).1 then xn t (t.ins.n-(k+1)) (k+1) (o3 t l k).2 else false) from rfl,h1]; rfl] at ha
   exact ih _ ha
 ·rw [Nat.sub_self] at ha
  refine aH (X:=zi) (stop:=Pm) (N0 _ _ t l _ ?_)
  refine ak (fun h=>bJ h) (fun h=>?_)
  subst ha; exact aX.refl _
theorem Yr (t:ae) (hS:ed t):LC 29 [bc t] [] (int (eO t)) []:=by
 refine aU (X:=zi) (stop:=Pm) ar5 (bg (by kernel_rfl)) (ar3 _ _ t ?_)
 refine ak (fun h1=>?_) (fun h1=>ak (fun h2=>?_) (fun h2=>ak (fun h3=>?_) (fun h3=>ak (fun h4=>?_) (fun h4=>ak (fun h5=>?_) (fun h5=>⟨ac5 _,?_⟩)))))
 ·rw [show eO t=2 from by simp only [eO,show decide ((t.ins.n:Int)>200)=true from h1,aO]]; exact aX.refl _
 ·rw [show eO t=2 from by simp only [eO,show decide ((t.ins.n:Int)>200)=false from h1,show decide ((t.aa.n:Int)>60)=true from h2,aO]]; exact aX.refl _
 ·rw [show eO t=31 from by simp only [eO,show decide ((t.ins.n:Int)>200)=false from h1,show decide ((t.aa.n:Int)>60)=false from h2,show decide (t.place.fn<0)=true from h3,aO]]; exact aX.refl _
 ·rw [show eO t=31 from by simp only [eO,show decide ((t.ins.n:Int)>200)=false from h1,show decide ((t.aa.n:Int)>60)=false from h2,show decide (t.place.line<0)=true from h4,aO]]; exact aX.refl _
 ·rw [show eO t=31 from by simp only [eO,show decide ((t.ins.n:Int)>200)=false from h1,show decide ((t.aa.n:Int)>60)=false from h2,show ((t.ins.n:Int)==0)=true from h5,aO]]; exact aX.refl _
 ·exact V0 t hS _ 0 (bu _) [] (by simp only [eO,Nat.sub_zero,show decide ((t.ins.n:Int)>200)=false from h1,show decide ((t.aa.n:Int)>60)=false from h2,show decide (t.place.fn<0)=false from h3,show decide (t.place.line<0)=false from h4,show ((t.ins.n:Int)==0)=false from h5,aO])
open Go Go.V
def Qr:FuncId→List D→List ah→Out:=F9
theorem pO {n:Int}:∀ {l:List Int},er n l=true↔n∈l
 | []=>by simp [er]
 | x::l=>by
   unfold er
   split
   ·rename_i h; simp at h; simp [h]
   ·rename_i h
    simp only [beq_eq_false_iff_ne] at h
    rw [pO]
    simp [h]
theorem zE {n m:Int} {l:List Int}:er n (rC m l)=(er n l||(n==m)):=by
 rw [fg,pO,Bool.or_eq_true,pO,beq_iff_eq]
 unfold rC
 split
 ·rename_i h
  rw [pO] at h
  exact ⟨.inl,fun q=>q.elim id fun q=>q▸h⟩
 ·simp
theorem xZ {x:Sq iR} {v:Int}:∀ {j:Nat},er v (kS x j)=true↔∃ i,i<j∧(x.get i).value=v
 | 0=>by simp [kS,er]
 | j+1=>by
   rw [show kS x (j+1)=rC (x.get j).value (kS x j) from rfl,zE,Bool.or_eq_true,xZ,beq_iff_eq]
   constructor
   ·rintro (⟨i,h1,h2⟩|h)
    ·exact ⟨i,by omega,h2⟩
    ·exact ⟨j,by omega,h.symm⟩
   ·rintro ⟨i,h1,h2⟩
    by_cases e:i=j
    ·subst e; exact .inr h2.symm
    ·exact .inl ⟨i,by omega,h2⟩
theorem Qm {x:Sq iR} {v:Int}:decide (pW x v<0) = !er v (kS x x.n):=by
 rw [fg,decide_eq_true_iff,Bool.not_eq_true',← Bool.not_eq_true,xZ]
 unfold pW
 rcases te (fun i=>(x.get i).value==v) x.n with ⟨h1,h2⟩|⟨i,h1,h2,h3,h4⟩
 ·rw [h1]
  refine ⟨fun _=>?_,fun _=>by omega⟩
  rintro ⟨i,h3,h4⟩
  have:=h2 i h3
  simp [h4] at this
 ·rw [h1]
  refine ⟨fun h=>by omega,fun h=>?_⟩
  exact absurd ⟨i,h2,by simpa using h3⟩ h
theorem GM {x:Sq iR} {j:Nat} (hj:j<x.n):(pW x (x.get j).value != (j:Int))=er (x.get j).value (kS x j):=by
 rw [fg,xZ,bne_iff_ne]
 unfold pW
 rcases te (fun i=>(x.get i).value==(x.get j).value) x.n with ⟨h1,h2⟩|⟨i,h1,h2,h3,h4⟩
 ·have:=h2 j hj
  simp at this
 ·rw [h1]
  constructor
  ·intro h
   have:¬ j<i:=fun q=>by have:=h4 j q; simp at this
   exact ⟨i,by omega,by simpa using h3⟩
  ·rintro ⟨m,h5,h6⟩ e
   have e:i=j:=by omega
   subst e
   have:=h4 m h5
   simp [h6] at this
theorem EI {a b:Sq ByteArray}:cr jL a b=cr jL b a:=by
 unfold cr
 by_cases h:a.n=b.n
 ·rw [h]
  rw [show (fun i=>jL (a.get i) (b.get i))=fun i=>jL (b.get i) (a.get i) from funext fun i=>Fm _ _]
 ·have h1:(a.n==b.n)=false:=by simpa using h
  have h2:(b.n==a.n)=false:=by simpa using fun e=>h e.symm
  rw [h1,h2]; rfl
theorem H2 {p q:Nat→Bool} {n:Nat} (h:∀ i,i<n→p i=q i):dn p n=dn q n:=uf fun i _ hi=>h i (by omega)
theorem Nl {p:Int→Bool} (x y:Sq Int):dn (fun i=>p ((dK x y).get i)) (dK x y).n=(dn (fun i=>p (x.get i)) x.n&&dn (fun i=>p (y.get i)) y.n):=by
 have g:∀ i,(dK x y).get i=if i<x.n then x.get i else y.get (i-x.n):=fun i=>by
  show (Bool.rec (y.get (i-x.n)) (x.get i) (Nat.blt i x.n):Int)=_
  cases hb:Nat.blt i x.n with
  | true=>rw [if_pos (by simpa [cD] using hb)]
  | false=>rw [if_neg (fun q=>by rw [ly q] at hb; cases hb)]
 rw [fg,dz,la,la,la]
 constructor
 ·intro h
  refine ⟨fun i hi=>?_,fun i hi=>?_⟩
  ·have:=h i (by show i<x.n+y.n; omega)
   simpa [g,hi] using this
  ·have:=h (x.n+i) (by show x.n+i<x.n+y.n; omega)
   rw [g,if_neg (by omega),Nat.add_sub_cancel_left] at this
   exact this
 ·rintro ⟨h1,h2⟩ i hi
  have hi:i<x.n+y.n:=hi
  rw [g]
  split
  ·rename_i h; exact h1 i h
  ·exact h2 _ (by omega)
theorem xl {p:Int→Bool} {g:Nat→Sq Int}:∀ {m k:Nat} {l:Sq Int},dn (fun i=>p ((uZ g m k l).get i)) (uZ g m k l).n=(dn (fun i=>p (l.get i)) l.n&&bS (fun j=>dn (fun i=>p ((g j).get i)) (g j).n) m k)
 | 0,k,l=>by simp [uZ,bS]
 | m+1,k,l=>by
   rw [show uZ g (m+1) k l=uZ g m (k+1) (dK l (g k)) from rfl,xl,Nl]
   show _=(dn (fun i=>p (l.get i)) l.n&&(bif dn (fun i=>p ((g k).get i)) (g k).n then bS (fun j=>dn (fun i=>p ((g j).get i)) (g j).n) m (k+1) else false))
   cases dn (fun i=>p ((g k).get i)) (g k).n<;>simp
theorem Xb (t:ae) (e:ai) (k:Int):kh t e k=kX t e k:=by
 have e1:dn (Ke t e k) e.az.n=dn (Kw t e k) e.az.n:=H2 fun j hj=>by
  unfold Ke Kw
  rw [GM hj,EI (a:=(e.az.get j).names),bne_comm (a:=(e.az.get j).cls)]
  generalize (!dC t (e.az.get j).value k)=a
  generalize ((t.ins.get (e.az.get j).value.toNat).op != 17)=b
  generalize er (e.az.get j).value (kS e.az j)=c
  generalize ((t.ins.get (e.az.get j).value.toNat).n != (e.az.get j).cls)=d
  generalize (!cr jL (t.ins.get (e.az.get j).value.toNat).names (e.az.get j).names)=f
  generalize (((e.az.get j).items.n:Int)!=((e.az.get j).names.n:Int))=g
  revert a b c d f g
  decide
 have e2:GK t e k=j6 t k (kS e.az e.az.n):=funext fun v=>by
  unfold GK j6
  rw [Qm]
  cases dC t v k<;>simp
 unfold kh kX x12 x21 allM
 rw [xl (p:=GK t e k),xl (p:=GK t e k),e1,e2]
 show _=(_&&(_&&(_&&(dn (fun j=>dn (fun i=>j6 t k (kS e.az e.az.n) ((e.frames.get j).vars.get i)) (e.frames.get j).vars.n) e.frames.n&&dn (fun j=>dn (fun i=>j6 t k (kS e.az e.az.n) ((e.az.get j).items.get i)) (e.az.get j).items.n) e.az.n))))
 have e3:dn (fun i=>j6 t k (kS e.az e.az.n) ((dx 0:Sq Int).get i)) (dx 0:Sq Int).n=true:=rfl
 rw [e3,Bool.true_and]
 unfold dn
 generalize (!(decide ((e.frames.n:Int)<1)||(decide ((e.frames.n:Int)>6)||decide (e.back<0))))=a
 ac_rfl
open Go Go.V
theorem fx.of {n:Nat}:∀ {l:List ah},(∀ x∈l,jf n x)→fx n l
 | [],_=>trivial
 | x::l,h=>⟨h x (eS ..),fx.of fun y hy=>h y (fe _ hy)⟩
theorem cu.low {f:FuncId} (hf:Fn f) {ds:List D} {rs aG:List ah} {d:D} (h:fx rs.length rs→LC f ds rs d aG):LC f ds rs d aG:=
 ⟨hf.enters,fun N ay w0 sp sl df a w E vs hR hv=>(h (fx.of fun x hx=>by
  obtain ⟨q,hq⟩:=List.mem_iff_getElem?.1 hx
  have dD:q<rs.length:=(List.getElem?_eq_some_iff.1 hq).1
  have hE:E.length=rs.length:=hR.len
  have:=aM.low (hR.roots q x _ hq (eY (by omega)))
  rwa [hE] at this)).out.2 N ay w0 sp sl df a w E vs hR hv⟩
open Go Go.V
theorem jA {f:FuncId} (hf:Fn f) {ds:List D} {rs:List ah} {d:D} {aG:List ah} (hl:ds.length≤(CK f).ntmps) (h:af f rs.length (Go.V.lF rs d aG) [.code (sN f)] ⟨dN 0 ds,rs,[]⟩):LC f ds rs d aG:=by
 obtain ⟨h1,h2⟩:=DJ f _ hf.pN
 exact PY wh h1 h2 hf.body hl h
theorem af.AM {f:FuncId} {n0:Nat} {Q:D→List ah→Prop} {todo:List Item} {s:VS} (r j q m el sz n:Nat) (get:Nat→Nat→I) (l:List C) (hr:aV s.rs r=some (.box l)) (hj:aV l j=some (.sa q m)) (hq:aV s.rs q=some (.arr el sz n get)) (g:af f n0 Q todo (JK r j q m el sz n get l s)):af f n0 Q todo s:=
 fun b cs hb=>Goal.AM hr hj hq (g b cs hb)
theorem fk {α:Type} {l:List α} {i:Nat} {x:α} (h:aV l i=some x):i<l.length:=by
 rw [bT] at h
 exact (List.getElem?_eq_some_iff.1 h).1
open Go Go.V
def nx (l:Sq Int) (p:Nat) (n:Int):Int×Nat:=bif decide ((p:Int)≥(l.n:Int)) then (0,p) else bif decide (n<1) then (0,p) else (et (l.get p) n,p+1)
def aE (l:Sq Int) (p:Nat):ah:=.box [.im (sJ 1 b8 l),.im (iI p)]
def bf (m i ni j ne:Nat) (fuel param:Int):ah:=.box [.rt m 0 0,.im (iI 0),.im (iI 0),.sa i ni,.sa j ne,.im (iI fuel),.im (iI param)]
def dJ (s:Sq aj):ah:=.arr 40 14 s.n (fun i=>cy (s.get i))
def l6 (s:Sq ai):ah:=.arr 73 3 s.n (fun i=>dS (s.get i))
def W33 (l:Sq Int) (ds:List D):Rd:=match ds with
 | [.c (.rt m _ _),.c (.im (.v (.int .i64 n)))]=>.get m fun x=>match x with
   | .box [y,.im (.v (.int .i64 q))]=>.ret (int (nx l q.toNat n).1,m,.box [y,.im (iI (nx l q.toNat n).2)])
   | _=>.no
 | _=>.no
def XNx:hX:={ F:=Qr }
def XN (l:Sq Int):hX:={ F:=Qr,W:=fun f ds=>W33 l ds }
def sL (ins:Sq aj):Nat→Nat→Sq Int→Sq Int
 | 0,_,h=>h
 | m+1,k,h=>bif uU (ins.get k).op then sL ins m (k+1) (dK h ⟨1,fun _=>(k:Int)⟩) else sL ins m (k+1) h
def KT (l:Sq Int) (p:Nat) (h:Sq Int):Int×Nat:=(h.get (h.n-1-(nx l p (min 3 h.n)).1.toNat),(nx l p (min 3 h.n)).2)
def Kj (l:Sq Int) (p:Nat) (h:Sq Int):Int×Nat:=(h.get (nx l p h.n).1.toNat,(nx l p h.n).2)
def UF (l:Sq Int) (p:Nat) (h:Sq Int):Int×Nat:=bif (nx l p 2).1==0 then KT l (nx l p 2).2 h else Kj l (nx l p 2).2 h
def SG (l:Sq Int) (p:Nat) (h:Sq Int):Int×Nat:=bif (h.n:Int)==0 then (-1,p) else UF l p h
def vl (l:Sq Int) (p:Nat) (ins:Sq aj):Int×Nat:=SG l p (sL ins ins.n 0 (dx 0))
theorem Bc (h:Sq Int) (k:Int):aJ (.arr 3 1 (h.n+1) (gP h.n (fun i=>b8 (h.get i)) (flat 1 [I.v (Value.int IntKind.i64 k)]))) (.arr 3 1 (dK h ⟨1,fun _=>k⟩).n fun i=>b8 ((dK h ⟨1,fun _=>k⟩).get i)):=by
 rw [← Cx h ⟨1,fun _=>k⟩ b8]
 refine aJ.arr fun i hi j hj=>?_
 have hj:j=0:=by omega
 subst hj
 show dr (Bool.rec (flat 1 [I.v (Value.int IntKind.i64 k)] (i-h.n) 0) (b8 (h.get i) 0) (Nat.blt i h.n):I) (Bool.rec (b8 k 0) (b8 (h.get i) 0) (Nat.blt i h.n):I)
 cases hb:Nat.blt i h.n with
 | true=>exact dr.refl _
 | false=>
   have:i-h.n=0:=by
    have:¬ i<h.n:=fun q=>by rw [ly q] at hb; cases hb
    omega
   rw [this]
   exact dr.refl _
theorem Im {l:Sq Int} {p:Nat} {n:Int} (h1:1≤n) (h2:n≤4611686018427387904):0≤(nx l p n).1∧(nx l p n).1<n:=by
 unfold nx
 cases decide ((p:Int)≥(l.n:Int)) with
 | true=>exact ⟨by simp,by simp only [cond_true]; omega⟩
 | false=>
   rw [show decide (n<1)=false from decide_eq_false (by omega)]
   simp only [cond_false]
   unfold et
   have a1:=Int.tmod_lt_of_pos (l.get p) (show 0<n by omega)
   have a2:=Int.lt_tmod_of_pos (l.get p) (show 0<n by omega)
   cases h3:decide ((l.get p).tmod n<0) with
   | true=>
     have h3:=of_decide_eq_true h3
     simp only [cond_true]
     rw [ir (by omega) (by omega)]
     omega
   | false=>
     have h3:=of_decide_eq_false h3
     simp only [cond_false]
     omega
theorem l8 {l:Sq Int} {p:Nat} {n:Int} (h1:1≤n) (h2:n≤4611686018427387904):∃ d:Nat,(nx l p n).1=(d:Int)∧(d:Int)<n:=by
 obtain ⟨a,b⟩:=Im (l:=l) (p:=p) h1 h2
 obtain ⟨d,hd⟩:=Int.eq_ofNat_of_zero_le a
 exact ⟨d,hd,by omega⟩
def ae6:Nat→Bool:=cw
theorem am9:Fn 19:=⟨by kernel_rfl,by kernel_rfl⟩
theorem au0 (L:LP) (QE:D→List ah→Prop) (l:Sq Int) (p:Nat) (n:Int) (h:br (decide ((↑p:Int)≥(↑l.1:Int))) (QE (int 0) [(aE l p)]) (br (decide (n<1)) (QE (int 0) [(aE l p)]) (nd (cd (IntKind.i64.wrap (IntKind.i64.wrap ((↑p:Int)+1)-1)) l.1) ((LC 25 [(int (l.2 (IntKind.i64.wrap (IntKind.i64.wrap ((↑p:Int)+1)-1)).toNat)),(int n)] [] (int (et (l.2 (IntKind.i64.wrap (IntKind.i64.wrap ((↑p:Int)+1)-1)).toNat) n)) []∧QE (int (et (l.2 (IntKind.i64.wrap (IntKind.i64.wrap ((↑p:Int)+1)-1)).toNat) n)) [(.box [(.im (.sl 1 l.1 (fun i=>b8 (l.2 i)))),(ci (IntKind.i64.wrap ((↑p:Int)+1)))]),.dead]))))):fS XNx 19 ae6 L QE [.c (.rt 0 0 0),int n] [aE l p]:=Eq.mp (by kernel_rfl) h
theorem Za (l:Sq Int) (p:Nat) (n:Int) (hl:l.n≤maxLen):LC 19 [.c (.rt 0 0 0),int n] [aE l p] (int (nx l p n).1) [aE l (nx l p n).2]:=by
 refine je am9 (bg (by kernel_rfl)) (ig (X:=XNx) (stop:=ae6) (au0 _ _ l p n ?_))
 refine ak (fun h1=>?_) (fun h1=>ak (fun h2=>?_) (fun h2=>?_))
 ·rw [show nx l p n=(0,p) from by simp only [nx,show decide ((p:Int)≥(l.n:Int))=true from h1,cond_true]]
  exact ⟨1,bg rfl,bg rfl,rfl,rfl,aX.refl _,⟨.inr rfl,bz _ _⟩⟩
 ·rw [show nx l p n=(0,p) from by simp only [nx,show decide ((p:Int)≥(l.n:Int))=false from h1,show decide (n<1)=true from h2,cond_true,cond_false]]
  exact ⟨1,bg rfl,bg rfl,rfl,rfl,aX.refl _,⟨.inr rfl,bz _ _⟩⟩
 ·have g1:=of_decide_eq_false h1
  have g2:=of_decide_eq_false h2
  have hp:p<l.n:=by omega
  rw [bR hp hl,show ((p+1:Nat):Int)-1=(p:Int) by omega,mR (by unfold maxLen at hl; omega)]
  refine aw (aA hp) ⟨jO _ _ (by omega),?_⟩
  rw [show nx l p n=(et (l.get p) n,p+1) from by simp only [nx,show decide ((p:Int)≥(l.n:Int))=false from h1,show decide (n<1)=false from h2,cond_false]]
  exact ⟨1,bg rfl,bg rfl,rfl,rfl,aX.refl _,⟨.inr rfl,bz _ _⟩⟩
theorem fa (l:Sq Int) (p:Nat) (n:Int) {m:Nat} {RS:List ah} (hl:l.n≤maxLen) (h:aV RS m=some (aE l p)):WC 19 [.c (.rt m 0 0),int n] RS (int (nx l p n).1) m (aE l (nx l p n).2):=
 xa.E7 (i:=0) (rs:=[aE l p]) (y:=aE l (nx l p n).2) (Za l p n hl) [m] RS rfl ⟨h,fk h,rfl⟩ rfl ⟨_,rfl,trivial⟩
open Go Go.V
def tU:Nat→Bool:=fun i=>Nat.beq i 3||Nat.beq i 7||Nat.beq i 9||Nat.beq i 10||Nat.beq i 11
theorem au4:Fn 23:=⟨by kernel_rfl,by kernel_rfl⟩
abbrev eC:gF:=(0,((.c (.rt 1 0 0)),[]))
abbrev AY:gF:=(3,((.c b6),[]))
abbrev vX:gF:=(4,((int 0),[]))
abbrev bD (ax:Sq aj):ah:=.arr 40 14 ax.1 (fun i=>cy (ax.2 i))
theorem ap3 (L:LP) (QE:D→List ah→Prop) (l:Sq Int) (p:Nat) (ins:Sq aj) (ne:Nat) (fuel param:Int) (h:L (ag 23 3) ⟨[eC,AY,vX],[(aE l p),(bf 0 2 ins.1 3 ne fuel param),(bD ins),.dead],[]⟩):fS (XN l) 23 tU L QE [.c (.rt 1 0 0)] [aE l p,bf 0 2 ins.n 3 ne fuel param,dJ ins,.dead]:=Eq.mp (by kernel_rfl) h
abbrev rq:gF:=(0,(.c (.rt 1 0 0)),[])
abbrev FM (ax:Sq Int) (aF:Nat) (aR:Sq aj) (bZ:Nat) (ct dX:Int) (eR:Sq Int):List ah:=[(aE ax aF),(bf 0 2 aR.1 3 bZ ct dX),(bD aR),.dead,.arr 3 1 eR.n (fun i=>b8 (eR.get i))]
def AQ (l:Sq Int) (p:Nat) (ins:Sq aj) (ne:Nat) (fuel param:Int) (hq:Sq Int) (k:Nat):VS:=⟨[rq,(3,.c (.sa 4 hq.n),[]),(4,int k,[])],(FM l p ins ne fuel param hq),[]⟩
abbrev Pp (ax:Sq Int) (aF:Nat):ah:=.arr 3 1 (ax.1+1) (gP ax.1 (fun i=>b8 (ax.2 i)) (1,flat 1 [I.v (Value.int IntKind.i64 (↑aF:Int))]).snd)
abbrev wT (ax:Sq Int):gF:=(3,((.c (.sa 4 ax.1)),[]))
abbrev ta (ax:Sq Int) (aF:Nat) (aR:Sq aj) (bZ:Nat) (ct dX:Int) (eR:Sq Int):List ah:=[(aE ax aF),(bf 0 2 aR.1 3 bZ ct dX),(bD aR),.dead,(kJ eR)]
theorem P6 (L:LP) (QE:D→List ah→Prop) (l:Sq Int) (p:Nat) (ins:Sq aj) (ne:Nat) (fuel param:Int) (hq:Sq Int) (k:Nat) (h:br (decide ((↑k:Int)<(↑ins.1:Int))) (nd (cd (↑k:Int) ins.1) (nd (k.blt ins.1) ((LC 35 [(int ((ins.2 k).1))] [] (bool (uU (ins.2 k).1)) []∧br (uU (ins.2 k).1) (nd (cg (hq.1+1) 8) (nd (hq.1.beq hq.1) (L (ag 23 3) ⟨[eC,(3,((.c (.sa 6 (.succ hq.1))),[])),(4,((int (IntKind.i64.wrap ((↑k:Int)+1))),[]))],[(aE l p),(bf 0 2 ins.1 3 ne fuel param),(bD ins),.dead,.dead,(.row 3 1 1 [(ci (↑k:Int))]),(Pp hq k)],[]⟩))) (L (ag 23 3) ⟨[eC,(wT hq),(4,((int (IntKind.i64.wrap ((↑k:Int)+1))),[]))],(ta l p ins ne fuel param hq),[]⟩))))) (L (ag 23 7) ⟨[eC,(wT hq),(4,((int (↑k:Int)),[])),(12,((bool false),[]))],(ta l p ins ne fuel param hq),[]⟩)):dq (XN l) 23 tU L QE 3 (AQ l p ins ne fuel param hq k):=Eq.mp (by kernel_rfl) h
abbrev B1 (ax:Sq Int):aN:=[rq,(3,.c (.sa 4 ax.n),[])]
def FJ (l:Sq Int) (p:Nat) (ins:Sq aj) (ne:Nat) (fuel param:Int) (hq:Sq Int):VS:=⟨(B1 hq),(FM l p ins ne fuel param hq),[]⟩
theorem WS (L:LP) (QE:D→List ah→Prop) (l:Sq Int) (p:Nat) (ins:Sq aj) (ne:Nat) (fuel param:Int) (hq:Sq Int) (h:br ((↑hq.1:Int)==0) (QE (int (-1)) [(aE l p),(bf 0 2 ins.1 3 ne fuel param),(.arr 40 14 ins.1 (fun i=>cy (ins.2 i))),.dead,(.arr 3 1 hq.1 (fun i=>b8 (hq.2 i)))]) (L (ag 23 9) ⟨[eC,(wT hq),(31,((bool false),[]))],(ta l p ins ne fuel param hq),[]⟩)):dq (XN l) 23 tU L QE 7 (FJ l p ins ne fuel param hq):=Eq.mp (by kernel_rfl) h
def G1 (l:Sq Int) (p:Nat) (ins:Sq aj) (ne:Nat) (fuel param:Int) (hq:Sq Int):VS:=⟨(B1 hq),(FM l p ins ne fuel param hq),[]⟩
abbrev kf:List D:=[(.c (.rt 0 0 0)),(int 2)]
abbrev lX (ax:Sq Int) (aF:Nat):D:=int ((nx ax aF 2).1)
abbrev gQ (ax:Sq Int) (aF:Nat):ah:=aE ax ((nx ax aF 2).2)
theorem XU (L:LP) (QE:D→List ah→Prop) (l:Sq Int) (p:Nat) (ins:Sq aj) (ne:Nat) (fuel param:Int) (hq:Sq Int) (h:(WC 19 kf (ta l p ins ne fuel param hq) (lX l p) 0 (aE l ((nx l p 2).2))∧br ((nx l p 2).1==0) (L (ag 23 10) ⟨[eC,(wT hq),(37,((bool true),[]))],[(gQ l p),(bf 0 2 ins.1 3 ne fuel param),(bD ins),.dead,(kJ hq)],[]⟩) (L (ag 23 11) ⟨[eC,(wT hq),(37,((bool false),[]))],[(gQ l p),(bf 0 2 ins.1 3 ne fuel param),(bD ins),.dead,(kJ hq)],[]⟩))):dq (XN l) 23 tU L QE 9 (G1 l p ins ne fuel param hq):=Eq.mp (by kernel_rfl) h
def Bz (l:Sq Int) (p:Nat) (ins:Sq aj) (ne:Nat) (fuel param:Int) (hq:Sq Int):VS:=⟨(B1 hq),[aE l p,(bf 0 2 ins.1 3 ne fuel param),(bD ins),.dead,.arr 3 1 hq.n (fun i=>b8 (hq.get i))],[]⟩
theorem QQ (L:LP) (QE:D→List ah→Prop) (l:Sq Int) (p:Nat) (ins:Sq aj) (ne:Nat) (fuel param:Int) (hq:Sq Int) (h:(WC 19 [(.c (.rt 0 0 0)),(int (if (↑hq.1:Int)<3 then (↑hq.1:Int) else 3))] (ta l p ins ne fuel param hq) (int ((nx l p (if (↑hq.1:Int)<3 then (↑hq.1:Int) else 3)).1)) 0 (aE l ((nx l p (if (↑hq.1:Int)<3 then (↑hq.1:Int) else 3)).2))∧nd (cd (IntKind.i64.wrap (IntKind.i64.wrap ((↑hq.1:Int)-1)-(nx l p (if (↑hq.1:Int)<3 then (↑hq.1:Int) else 3)).1)) hq.1) (nd ((IntKind.i64.wrap (IntKind.i64.wrap ((↑hq.1:Int)-1)-(nx l p (if (↑hq.1:Int)<3 then (↑hq.1:Int) else 3)).1)).toNat.blt hq.1) (QE (int (hq.2 (IntKind.i64.wrap (IntKind.i64.wrap ((↑hq.1:Int)-1)-(nx l p (if (↑hq.1:Int)<3 then (↑hq.1:Int) else 3)).1)).toNat)) [(aE l ((nx l p (if (↑hq.1:Int)<3 then (↑hq.1:Int) else 3)).2)),(bf 0 2 ins.1 3 ne fuel param),(.arr 40 14 ins.1 (fun i=>cy (ins.2 i))),.dead,(.arr 3 1 hq.1 (fun i=>b8 (hq.2 i)))])))):dq (XN l) 23 tU L QE 10 (Bz l p ins ne fuel param hq):=Eq.mp (by kernel_rfl) h
def A5 (l:Sq Int) (p:Nat) (ins:Sq aj) (ne:Nat) (fuel param:Int) (hq:Sq Int):VS:=⟨(B1 hq),[aE l p,(bf 0 2 ins.1 3 ne fuel param),(bD ins),.dead,.arr 3 1 hq.n (fun i=>b8 (hq.get i))],[]⟩
theorem Tg (L:LP) (QE:D→List ah→Prop) (l:Sq Int) (p:Nat) (ins:Sq aj) (ne:Nat) (fuel param:Int) (hq:Sq Int) (h:(WC 19 [(.c (.rt 0 0 0)),(qG hq)] (ta l p ins ne fuel param hq) (int ((nx l p (↑hq.1:Int)).1)) 0 (aE l ((nx l p (↑hq.1:Int)).2))∧nd (cd (nx l p (↑hq.1:Int)).1 hq.1) (nd ((nx l p (↑hq.1:Int)).1.toNat.blt hq.1) (QE (int (hq.2 (nx l p (↑hq.1:Int)).1.toNat)) [(aE l ((nx l p (↑hq.1:Int)).2)),(bf 0 2 ins.1 3 ne fuel param),(.arr 40 14 ins.1 (fun i=>cy (ins.2 i))),.dead,(.arr 3 1 hq.1 (fun i=>b8 (hq.2 i)))])))):dq (XN l) 23 tU L QE 11 (A5 l p ins ne fuel param hq):=Eq.mp (by kernel_rfl) h
theorem Rp (l:Sq Int) (p:Nat) (ins:Sq aj) (ne:Nat) (fuel param:Int) (p0:Nat) (hl:l.n≤maxLen) (hq:Sq Int) (h1:1≤hq.n) (h2:hq.n≤1000):af 23 4 (Go.V.Ends [aE l p0,bf 0 2 ins.n 3 ne fuel param,dJ ins,.dead] (int (Kj l p hq).1) [aE l (Kj l p hq).2,bf 0 2 ins.n 3 ne fuel param,dJ ins,.dead]) (ag 23 11) (A5 l p ins ne fuel param hq):=by
 obtain ⟨d,hd,dD⟩:=l8 (l:=l) (p:=p) (n:=(hq.n:Int)) (by omega) (by omega)
 refine bA (X:=XN l) (stop:=tU) (Tg _ _ l p ins ne fuel param hq ⟨fa l _ _ hl rfl,?_⟩)
 have e:Kj l p hq=(hq.get d,(nx l p (hq.n:Int)).2):=by unfold Kj; rw [hd]; rfl
 rw [e]
 show nd (cd (nx l p (hq.n:Int)).1 hq.n) (nd (Nat.blt (nx l p (hq.n:Int)).1.toNat hq.n) _)
 rw [hd]
 exact aw (aA (by omega)) (aw (ly (by show d<hq.n; omega)) ⟨4,bg rfl,bg rfl,rfl,rfl,aX.refl _,⟨.inr rfl,bz _ _⟩⟩)
theorem Rz (l:Sq Int) (p:Nat) (ins:Sq aj) (ne:Nat) (fuel param:Int) (p0:Nat) (hl:l.n≤maxLen) (hq:Sq Int) (h1:1≤hq.n) (h2:hq.n≤1000):af 23 4 (Go.V.Ends [aE l p0,bf 0 2 ins.n 3 ne fuel param,dJ ins,.dead] (int (KT l p hq).1) [aE l (KT l p hq).2,bf 0 2 ins.n 3 ne fuel param,dJ ins,.dead]) (ag 23 10) (Bz l p ins ne fuel param hq):=by
 obtain ⟨d,hd,dD⟩:=l8 (l:=l) (p:=p) (n:=min 3 (hq.n:Int)) (by omega) (by omega)
 refine bA (X:=XN l) (stop:=tU) (QQ _ _ l p ins ne fuel param hq ?_)
 rw [show (if (hq.n:Int)<3 then (hq.n:Int) else 3)=min 3 (hq.n:Int) from by split<;>omega]
 refine ⟨fa l _ _ hl rfl,?_⟩
 have e:KT l p hq=(hq.get (hq.n-1-d),(nx l p (min 3 (hq.n:Int))).2):=by unfold KT; rw [hd]; rfl
 rw [e,hd,ir (k:=(hq.n:Int)-1) (by omega) (by omega),ir (by omega) (by omega),show (hq.n:Int)-1-(d:Int)=((hq.n-1-d:Nat):Int) by omega]
 exact aw (aA (by omega)) (aw (ly (by show hq.n-1-d<hq.n; omega)) ⟨4,bg rfl,bg rfl,rfl,rfl,aX.refl _,⟨.inr rfl,bz _ _⟩⟩)
theorem VJ (l:Sq Int) (p:Nat) (ins:Sq aj) (ne:Nat) (fuel param:Int) (p0:Nat) (hl:l.n≤maxLen) (hq:Sq Int) (h1:1≤hq.n) (h2:hq.n≤1000):af 23 4 (Go.V.Ends [aE l p0,bf 0 2 ins.n 3 ne fuel param,dJ ins,.dead] (int (UF l p hq).1) [aE l (UF l p hq).2,bf 0 2 ins.n 3 ne fuel param,dJ ins,.dead]) (ag 23 9) (G1 l p ins ne fuel param hq):=by
 refine bA (X:=XN l) (stop:=tU) (XU _ _ l p ins ne fuel param hq ⟨fa l _ _ hl rfl,?_⟩)
 refine ak (fun h3=>?_) (fun h3=>?_)
 ·rw [show UF l p hq=KT l (nx l p 2).2 hq from by unfold UF; rw [show ((nx l p 2).1==0)=true from h3]; rfl]
  exact af.le (Bz l (nx l p 2).2 ins ne fuel param hq) (by repeat' (first|exact trivial|refine bV rfl ?_)) (rc (rc (rc (rc (rc (.nil)))))) rfl (Rz l (nx l p 2).2 ins ne fuel param p0 hl hq h1 h2)
 ·rw [show UF l p hq=Kj l (nx l p 2).2 hq from by unfold UF; rw [show ((nx l p 2).1==0)=false from h3]; rfl]
  exact af.le (A5 l (nx l p 2).2 ins ne fuel param hq) (by repeat' (first|exact trivial|refine bV rfl ?_)) (rc (rc (rc (rc (rc (.nil)))))) rfl (Rp l (nx l p 2).2 ins ne fuel param p0 hl hq h1 h2)
theorem Wl (l:Sq Int) (p:Nat) (ins:Sq aj) (ne:Nat) (fuel param:Int) (p0:Nat) (hl:l.n≤maxLen) (hq:Sq Int) (h2:hq.n≤1000):af 23 4 (Go.V.Ends [aE l p0,bf 0 2 ins.n 3 ne fuel param,dJ ins,.dead] (int (SG l p hq).1) [aE l (SG l p hq).2,bf 0 2 ins.n 3 ne fuel param,dJ ins,.dead]) (ag 23 7) (FJ l p ins ne fuel param hq):=by
 refine bA (X:=XN l) (stop:=tU) (WS _ _ l p ins ne fuel param hq ?_)
 refine ak (fun h3=>?_) (fun h3=>?_)
 ·rw [show SG l p hq=(-1,p) from by unfold SG; rw [show ((hq.n:Int)==0)=true from h3]; rfl]
  exact ⟨4,bg rfl,bg rfl,rfl,rfl,aX.refl _,⟨.inr rfl,bz _ _⟩⟩
 ·have h3:((hq.n:Int)==0)=false:=h3
  rw [show SG l p hq=UF l p hq from by unfold SG; rw [h3]; rfl]
  simp only [beq_eq_false_iff_ne] at h3
  exact af.le (G1 l p ins ne fuel param hq) (by repeat' (first|exact trivial|refine bV rfl ?_)) (rc (rc (rc (rc (rc (.nil)))))) rfl (VJ l p ins ne fuel param p0 hl hq (by omega) h2)
theorem W0 (l:Sq Int) (p:Nat) (ins:Sq aj) (ne:Nat) (fuel param:Int) (p0:Nat) (hl:l.n≤maxLen) (hI:ins.n≤1000) (o:Int×Nat):∀ k,k≤ins.n→∀ hq:Sq Int,hq.n≤k→SG l p (sL ins (ins.n-k) k hq)=o→af 23 4 (Go.V.Ends [aE l p0,bf 0 2 ins.n 3 ne fuel param,dJ ins,.dead] (int (o).1) [aE l (o).2,bf 0 2 ins.n 3 ne fuel param,dJ ins,.dead]) (ag 23 3) (AQ l p ins ne fuel param hq k):=by
 refine aL (fun k hk ih hq hh ho=>?_) (fun hq hh ho=>?_)
 ·have q:ins.n-k=(ins.n-(k+1))+1:=by omega
  rw [q] at ho
  refine bA (X:=XN l) (stop:=tU) (P6 _ _ l p ins ne fuel param hq k ?_)
  rw [bR hk (cM hI (by decide))]
  refine ak (fun h3=>?_) (fun h3=>(dec_lt h3 hk).elim)
  refine aw (aA hk) (aw (ly hk) ⟨Ut _,ak (fun h4=>?_) (fun h4=>?_)⟩)
  ·have h4:uU (ins.get k).op=true:=h4
   rw [show sL ins (ins.n-(k+1)+1) k hq=sL ins (ins.n-(k+1)) (k+1) (dK hq ⟨1,fun _=>(k:Int)⟩) from by rw [show sL ins (ins.n-(k+1)+1) k hq=(bif uU (ins.get k).op then sL ins (ins.n-(k+1)) (k+1) (dK hq ⟨1,fun _=>(k:Int)⟩) else sL ins (ins.n-(k+1)) (k+1) hq) from rfl,h4]; rfl] at ho
   refine aw (cj (by omega) (by omega)) (aw (cf _) ?_)
   exact af.rename [0,1,2,3,6] rfl (af.le (AQ l p ins ne fuel param (dK hq ⟨1,fun _=>(k:Int)⟩) (k+1)) (by repeat' (first|exact trivial|refine bV rfl ?_)) (rc (rc (rc (rc (.cons (Bc hq k) .nil))))) rfl (ih _ (by show hq.n+1≤_; omega) ho))
  ·have h4:uU (ins.get k).op=false:=h4
   rw [show sL ins (ins.n-(k+1)+1) k hq=sL ins (ins.n-(k+1)) (k+1) hq from by rw [show sL ins (ins.n-(k+1)+1) k hq=(bif uU (ins.get k).op then sL ins (ins.n-(k+1)) (k+1) (dK hq ⟨1,fun _=>(k:Int)⟩) else sL ins (ins.n-(k+1)) (k+1) hq) from rfl,h4]; rfl] at ho
   exact ih hq (by omega) ho
 ·rw [Nat.sub_self] at ho
  refine bA (X:=XN l) (stop:=tU) (P6 _ _ l p ins ne fuel param hq _ ?_)
  refine ak (fun h3=>bJ h3) (fun h3=>?_)
  have ho:SG l p hq=o:=ho
  subst ho
  exact af.le (FJ l p ins ne fuel param hq) (by repeat' (first|exact trivial|refine bV rfl ?_)) (rc (rc (rc (rc (rc (.nil)))))) rfl (Wl l p ins ne fuel param p0 hl hq (by omega))
theorem Ys (l:Sq Int) (p:Nat) (ins:Sq aj) (ne:Nat) (fuel param:Int) (hl:l.n≤maxLen) (hI:ins.n≤1000):LC 23 [.c (.rt 1 0 0)] [aE l p,bf 0 2 ins.n 3 ne fuel param,dJ ins,.dead] (int (vl l p ins).1) [aE l (vl l p ins).2,bf 0 2 ins.n 3 ne fuel param,dJ ins,.dead]:=by
 refine je au4 (bg (by kernel_rfl)) (ig (X:=XN l) (stop:=tU) (ap3 _ _ l p ins ne fuel param ?_))
 exact af.xJ 3 3 1 rfl (af.le (AQ l p ins ne fuel param (dx 0) 0) (by repeat' (first|exact trivial|refine bV rfl ?_)) (rc (rc (rc (rc (.cons (tO 3 1 _ _) .nil))))) rfl (W0 l p ins ne fuel param p hl hI _ 0 (bu _) (dx 0) (bu _) rfl))
theorem gw (l:Sq Int) (p:Nat) (ins:Sq aj) {ne:Nat} {fuel param:Int} {m q i j:Nat} {RS:List ah} (hl:l.n≤maxLen) (hI:ins.n≤1000) (hd:iF [m,q,i,j]=true) (h0:aV RS m=some (aE l p)) (h1:aV RS q=some (bf m i ins.n j ne fuel param)) (h2:aV RS i=some (dJ ins)) (h3:j<RS.length) :
  WC 23 [.c (.rt q 0 0)] RS (int (vl l p ins).1) m (aE l (vl l p ins).2):=
 xa.E7 (i:=0) (rs:=[aE l p,bf 0 2 ins.n 3 ne fuel param,dJ ins,.dead]) (y:=aE l (vl l p ins).2) (Ys l p ins ne fuel param hl hI) [m,q,i,j] RS hd ⟨h0,fk h0,h1,fk h1,h2,fk h2,rfl,h3,rfl⟩ rfl ⟨_,rfl,trivial⟩
open Go Go.V
def cx (s:Sq aj) (x:aj):Sq aj:=dK s ⟨1,fun _=>x⟩
def cG (s:Sq ai) (x:ai):Sq ai:=dK s ⟨1,fun _=>x⟩
theorem fo:(∀ (s:Sq aj) (x:aj),(cx s x).n=s.n+1)∧(∀ (s:Sq ai) (x:ai),(cG s x).n=s.n+1):=⟨fun _ _=>rfl,fun _ _=>rfl⟩
def uX:Out:=(.t [],[],[])
def F34 (sn:Sq aj→aj→Sq aj) (ds:List D) (rs:List ah):Out:=match ds with
 | [.c (.rt q _ _),x]=>match aV rs q with
   | some (.box [m,a,b,.sa i n,e,fu,pa])=>match aV rs i with
     | some (.arr _ _ k get)=>(int (n:Int),[(q,.box [m,a,b,.sa rs.length (sn ⟨k,fun j=>jo (get j)⟩ (jo (gD x))).n,e,fu,pa]),(i,.dead)],[dJ (sn ⟨k,fun j=>jo (get j)⟩ (jo (gD x)))])
     | _=>uX
   | _=>uX
 | _=>uX
def W37 (l:Sq Int) (ds:List D):Rd:=match ds with
 | [.c (.rt q _ _)]=>.get q fun x=>match x with
   | .box [.rt m _ _,_,_,.sa i _,_,_,_]=>.get m fun y=>match y with
     | .box [y,.im (.v (.int .i64 p))]=>.get i fun z=>match z with
       | .arr _ _ k get=>.ret (int (vl l p.toNat ⟨k,fun j=>jo (get j)⟩).1,m,.box [y,.im (iI (vl l p.toNat ⟨k,fun j=>jo (get j)⟩).2)])
       | _=>.no
     | _=>.no
   | _=>.no
 | _=>.no
def X34:hX:={ F:=Qr }
def Ok (l:Sq Int):hX:={ F:=Qr,W:=fun f ds=>match f with
 | 19=>W33 l ds
 | _=>W37 l ds }
theorem dr.sl {sz n:Nat} {get get':Nat→Nat→I} (h:∀ i,i<n→∀ j,j<sz→dr (get i j) (get' i j)):dr (.sl sz n get) (.sl sz n get'):=by
 rintro av w v ⟨a,cap,rfl,h1,h2,h3⟩
 refine ⟨a,cap,rfl,h1,h2,fun h0=>?_⟩
 obtain ⟨ad,q1,q2,q3,q4,q5⟩:=h3 h0
 refine ⟨ad,q1,q2,q3,q4,fun i hi j hj=>?_⟩
 obtain ⟨x,p1,p2⟩:=q5 i hi j hj
 exact ⟨x,p1,h i hi j hj av w x p2⟩
theorem BG:∀ {l:List I} {j:Nat},j<l.length→bH l j=U3 l j
 | [],j,h=>absurd h (Nat.not_lt_zero _)
 | x::l,0,_=>rfl
 | x::l,j+1,h=>BG (l:=l) (j:=j) (by simpa using h)
theorem JT {α:Type} (el sz:Nat) (s:Sq α) (x:α) (e:α→Nat→I) (is:List I) (h:∀ j,j<sz→dr (bH is j) (e x j)):aJ (.arr el sz (s.n+1) (gP s.n (fun i=>e (s.get i)) (flat sz is))) (.arr el sz (dK s ⟨1,fun _=>x⟩).n fun i=>e ((dK s ⟨1,fun _=>x⟩).get i)):=by
 rw [← Cx s ⟨1,fun _=>x⟩ e]
 refine aJ.arr fun i hi j hj=>?_
 show dr (Bool.rec (flat sz is (i-s.n) j) (e (s.get i) j) (Nat.blt i s.n):I) (Bool.rec (e x j) (e (s.get i) j) (Nat.blt i s.n):I)
 cases hb:Nat.blt i s.n with
 | true=>exact dr.refl _
 | false=>
   have:i-s.n=0:=by
    have:¬ i<s.n:=fun q=>by rw [ly q] at hb; cases hb
    omega
   rw [this]
   show dr (bH is (0*sz+j)) (e x j)
   rw [Nat.zero_mul,Nat.zero_add]
   exact h j hj
theorem Xz (s:Sq aj) (x:aj):aJ (.arr 40 14 (s.n+1) (gP s.n (fun i=>cy (s.get i)) (flat 14 (aT x)))) (dJ (cx s x)):=
 JT 40 14 s x cy (aT x) fun j hj=>by rw [BG (l:=aT x) hj]; exact dr.refl _
theorem Wd (s:Sq ai) (x:ai):aJ (.arr 73 3 (s.n+1) (gP s.n (fun i=>dS (s.get i)) (flat 3 (bn x)))) (l6 (cG s x)):=
 JT 73 3 s x dS (bn x) fun j hj=>by rw [BG (l:=bn x) hj]; exact dr.refl _
theorem zt {n:Nat} (h:n≤1000):IntKind.i64.wrap (((n+1:Nat):Int)-1)=(n:Int):=by
 rw [show ((n+1:Nat):Int)-1=(n:Int) by omega,mR (by omega)]
def U4 (l:Sq Int) (ins:Sq aj):Nat→Nat→Sq Int→Sq Int×Nat
 | 0,p,h=>(h,p)
 | m+1,p,h=>U4 l ins m (vl l p ins).2 (dK h ⟨1,fun _=>(vl l p ins).1⟩)
def X5 (v:Int):eV:=⟨1,2,⟨2,fun i=>bif Nat.beq i 0 then -1 else v⟩⟩
def zV:iR:=⟨0,0,dx ⟨⟨[]⟩⟩,dx 0⟩
def QL (l:Sq Int) (ins:Sq aj) (fr:eV) (back:Int) (p:Nat):ai×Nat:=
 bif (nx l p 5).1==0 then (⟨dK ⟨1,fun _=>fr⟩ ⟨1,fun _=>X5 (vl l (nx l p 5).2 ins).1⟩,dx zV,back⟩,(vl l (nx l p 5).2 ins).2) else (⟨⟨1,fun _=>fr⟩,dx zV,back⟩,(nx l p 5).2)
def Vv (l:Sq Int) (ins:Sq aj) (fuel:Int) (v:Sq Int×Nat):ai×Nat:=QL l ins ⟨0,0,v.1⟩ (nx l v.2 (fuel+1)).1 (nx l v.2 (fuel+1)).2
def lv (l:Sq Int) (p:Nat) (ins:Sq aj) (fuel:Int) (param:Nat):ai×Nat:=Vv l ins fuel (U4 l ins param p (dx 0))
def Zj:Nat→Bool:=cw
theorem ai1:Fn 20:=⟨by kernel_rfl,by kernel_rfl⟩
theorem aj1 (L:LP) (QE:D→List ah→Prop) (ins:Sq aj) (ne:Nat) (fuel param:Int) (x:aj) (h:nd (cg (ins.1+1) 152) (nd (ins.1.beq ins.1) (nd (cg (ins.1+1) 152) (nd (ins.1.beq ins.1) (QE (int (IntKind.i64.wrap ((↑(ins.1+1):Int)-1))) [.dead,(bf 0 6 (.succ ins.1) 3 ne fuel param),.dead,.dead,(.box (lift (aT (x)))),(.row 40 14 1 (lift (aT (x)))),(.arr 40 14 (ins.1+1) (gP ins.1 (fun i=>cy (ins.2 i)) (1,flat 14 [iI x.1,iI x.2,iI x.3,iI x.4,iI x.5,sJ 1 b8 x.6,iI x.7.1,iI x.7.2,iS x.7.3,sJ 1 eD x.8,iI x.9.1,iI x.9.2,iI x.10,iB x.11]).snd))]))))):fS X34 20 Zj L QE [.c (.rt 1 0 0),gT x] [.dead,bf 0 2 ins.n 3 ne fuel param,dJ ins,.dead]:=Eq.mp (by kernel_rfl) h
theorem YE (ins:Sq aj) (ne:Nat) (fuel param:Int) (x:aj) (hI:ins.n≤1000):LC 20 [.c (.rt 1 0 0),gT x] [.dead,bf 0 2 ins.n 3 ne fuel param,dJ ins,.dead] (int ins.n) [.dead,bf 0 4 (cx ins x).n 3 ne fuel param,.dead,.dead,dJ (cx ins x)]:=by
 refine jA ai1 (bg (by kernel_rfl)) (ig (X:=X34) (stop:=Zj) (aj1 _ _ ins ne fuel param x ?_))
 refine aw (cj (by omega) (by omega)) (aw (cf _) (aw (cj (by omega) (by omega)) (aw (cf _) ?_)))
 rw [zt hI]
 exact ⟨[0,1,2,3,6],int ins.n,_,_,rfl,(rc (rc (rc (rc (.cons (Xz ins x) .nil))))),⟨5,bg rfl,bg rfl,rfl,rfl,aX.refl _,⟨.inl (.inl rfl),⟨.inr rfl,⟨.inr rfl,⟨.inl (.inl rfl),⟨rfl,trivial⟩⟩⟩⟩⟩⟩⟩
theorem fD (ins:Sq aj) (x:aj) {xd:D} {ne:Nat} {fuel param:Int} {m q i j:Nat} {RS:List ah} (hI:ins.n≤1000) (hx:aX xd (gT x)) (hd:iF [m,q,i,j]=true) (h0:m<RS.length) (h1:aV RS q=some (bf m i ins.n j ne fuel param)) (h2:aV RS i=some (dJ ins)) (h3:j<RS.length) :
  LC 20 [.c (.rt q 0 0),xd] RS (int ins.n) (setAt (setAt RS q (bf m RS.length (cx ins x).n j ne fuel param)) i .dead++[dJ (cx ins x)]):=
 cu.pre (cu.E7 (YE ins ne fuel param x hI) [m,q,i,j] RS hd ⟨rfl,h0,h1,fk h1,h2,fk h2,rfl,h3,rfl⟩) (.cons (aX.refl _) (.cons hx .nil))
def xE:Nat→Bool:=fun i=>Nat.beq i 3||Nat.beq i 6||Nat.beq i 7||Nat.beq i 9
theorem ar6:Fn 21:=⟨by kernel_rfl,by kernel_rfl⟩
abbrev w9:gF:=(3,((.c (.rt 4 0 0)),[]))
abbrev da (ax:Sq aj) (aF:Sq ai) (aR:Int) (bZ:Nat):ah:=bf 0 2 ax.1 3 aF.1 aR (↑bZ:Int)
abbrev bU (ax:Sq ai):ah:=.arr 73 3 ax.1 (fun i=>dS (ax.2 i))
theorem as3 (L:LP) (QE:D→List ah→Prop) (l:Sq Int) (p:Nat) (ins:Sq aj) (aa:Sq ai) (fuel:Int) (param:Nat) (h:L (ag 21 3) ⟨[eC,w9,vX],[(aE l p),(da ins aa fuel param),(bD ins),(bU aa),(.box [(ci 0),(ci 0),b6])],[]⟩):fS (Ok l) 21 xE L QE [.c (.rt 1 0 0)] [aE l p,bf 0 2 ins.n 3 aa.n fuel param,dJ ins,l6 aa]:=Eq.mp (by kernel_rfl) h
def BT (l:Sq Int) (p:Nat) (ins:Sq aj) (aa:Sq ai) (fuel:Int) (param:Nat) (hq:Sq Int) (k:Nat):VS:=⟨[rq,(3,(.c (.rt 4 0 0)),[]),(4,int k,[])],[(aE l p),(da ins aa fuel param),(bD ins),(bU aa),.box [.im (iI 0),.im (iI 0),.sa 5 hq.n],.arr 3 1 hq.n (fun i=>b8 (hq.get i))],[]⟩
abbrev dO:List D:=[(.c (.rt 1 0 0))]
theorem L4 (L:LP) (QE:D→List ah→Prop) (l:Sq Int) (p:Nat) (ins:Sq aj) (aa:Sq ai) (fuel:Int) (param:Nat) (hq:Sq Int) (k:Nat) (h:br (decide ((↑k:Int)<(↑param:Int))) ((WC 23 dO [(aE l p),(da ins aa fuel param),(bD ins),(bU aa),(.box [(ci 0),(ci 0),(.sa 5 hq.1)]),(kJ hq),.dead,.dead,.dead] (int ((vl l p ins).1)) 0 (aE l ((vl l p ins).2))∧nd (cg (hq.1+1) 8) (nd (hq.1.beq hq.1) ((WC 23 dO [(aE l p),(da ins aa fuel param),(bD ins),(bU aa),(.box [(ci 0),(ci 0),(.sa 5 hq.1)]),(kJ hq),.dead,.dead,.dead] (int ((vl l p ins).1)) 0 (aE l ((vl l p ins).2))∧nd (cg (hq.1+1) 8) (nd (hq.1.beq hq.1) (L (ag 21 3) ⟨[eC,w9,(4,((int (IntKind.i64.wrap ((↑k:Int)+1))),[]))],[(aE l ((vl l p ins).2)),(da ins aa fuel param),(bD ins),(bU aa),(.box [(ci 0),(ci 0),(.sa 8 (.succ hq.1))]),.dead,.dead,(.row 3 1 1 [(ci ((vl l p ins).1))]),(.arr 3 1 (hq.1+1) (gP hq.1 (fun i=>b8 (hq.2 i)) (1,flat 1 [I.v (Value.int IntKind.i64 (vl l p ins).1)]).snd))],[]⟩))))))) (L (ag 21 6) ⟨[eC,w9,(4,((int (↑k:Int)),[])),(12,((bool false),[]))],[(aE l p),(da ins aa fuel param),(bD ins),(bU aa),(.box [(ci 0),(ci 0),(.sa 5 hq.1)]),(kJ hq)],[]⟩)):dq (Ok l) 21 xE L QE 3 (BT l p ins aa fuel param hq k):=Eq.mp (by kernel_rfl) h
def Hy (l:Sq Int) (p:Nat) (ins:Sq aj) (aa:Sq ai) (fuel:Int) (param:Nat) (hq:Sq Int):VS:=⟨[rq,(3,(.c (.rt 4 0 0)),[])],[(aE l p),(da ins aa fuel param),(bD ins),(bU aa),.box (lift (kU ⟨0,0,hq⟩))],[]⟩
abbrev w6 (ax:Sq Int):List C:=lift (kU ({ fn:=Int.ofNat 0,line:=Int.ofNat 0,vars:=ax }))
theorem VE (L:LP) (QE:D→List ah→Prop) (l:Sq Int) (p:Nat) (ins:Sq aj) (aa:Sq ai) (fuel:Int) (param:Nat) (hq:Sq Int) (h:(WC 19 [(.c (.rt 0 0 0)),(int (IntKind.i64.wrap (fuel+1)))] [(aE l p),(da ins aa fuel param),(bD ins),(bU aa),(.box (w6 hq)),(.row 75 3 1 (w6 hq)),.dead,.dead] (int ((nx l p (IntKind.i64.wrap (fuel+1))).1)) 0 (aE l ((nx l p (IntKind.i64.wrap (fuel+1))).2))∧(WC 19 [(.c (.rt 0 0 0)),(int (IntKind.i64.wrap (fuel+1)))] [(aE l p),(da ins aa fuel param),(bD ins),(bU aa),(.box (w6 hq)),.dead,.dead,.dead] (int ((nx l p (IntKind.i64.wrap (fuel+1))).1)) 0 (aE l ((nx l p (IntKind.i64.wrap (fuel+1))).2))∧L (ag 21 7) ⟨[eC,(5,((.c (.rt 7 0 0)),[]))],[(aE l ((nx l p (IntKind.i64.wrap (fuel+1))).2)),(da ins aa fuel param),(bD ins),(bU aa),(.box (w6 hq)),(.row 75 3 1 (w6 hq)),.dead,(.box [(.sa 5 1),b6,(ci ((nx l p (IntKind.i64.wrap (fuel+1))).1))])],[]⟩))):dq (Ok l) 21 xE L QE 6 (Hy l p ins aa fuel param hq):=Eq.mp (by kernel_rfl) h
abbrev oM:gF:=(5,.c (.rt 4 0 0),[])
def Gg (l:Sq Int) (p:Nat) (ins:Sq aj) (aa:Sq ai) (fuel:Int) (param:Nat) (fr:eV) (back:Int):VS:=⟨[rq,oM],[aE l p,(da ins aa fuel param),(bD ins),(bU aa),.box [.sa 5 1,.im (.v (.slice .none 0 0)),.im (iI back)],.arr 75 3 1 (fun _=>ja fr)],[]⟩
abbrev A8 (ax:Int):ah:=.box [(.sa 5 1),b6,(ci ax)]
abbrev Bl (ax:eV):ah:=.arr 75 3 1 (fun x=>ja ax)
abbrev cP:gF:=(5,((.c (.rt 4 0 0)),[]))
theorem V4 (L:LP) (QE:D→List ah→Prop) (l:Sq Int) (p:Nat) (ins:Sq aj) (aa:Sq ai) (fuel:Int) (param:Nat) (fr:eV) (back:Int) (h:(WC 19 [(.c (.rt 0 0 0)),(int 5)] [(aE l p),(da ins aa fuel param),(bD ins),(bU aa),(A8 back),(Bl fr)] (int ((nx l p 5).1)) 0 (aE l ((nx l p 5).2))∧br ((nx l p 5).1==0) ((WC 23 dO [(aE l ((nx l p 5).2)),(da ins aa fuel param),(bD ins),(bU aa),(A8 back),(Bl fr),.dead,.dead,.dead,.dead] (int ((vl l (nx l p 5).2 ins).1)) 0 (aE l ((vl l (nx l p 5).2 ins).2))∧(WC 23 dO [(aE l ((nx l p 5).2)),(da ins aa fuel param),(bD ins),(bU aa),(A8 back),(Bl fr),.dead,.dead,.dead,.dead] (int ((vl l (nx l p 5).2 ins).1)) 0 (aE l ((vl l (nx l p 5).2 ins).2))∧L (ag 21 9) ⟨[eC,cP],[(aE l ((vl l (nx l p 5).2 ins).2)),(da ins aa fuel param),(bD ins),(bU aa),(.box [(.sa 9 2),b6,(ci back)]),.dead,.dead,.dead,(.row 75 3 1 [(ci 1),(ci 2),(.im (.sl 1 2 (flat 1 [I.v (Value.int IntKind.i64 (-1)),I.v (Value.int IntKind.i64 (vl l (nx l p 5).2 ins).1)])))]),(.arr 75 3 2 (gP 1 (fun x=>ja fr) (1,flat 3 [I.v (Value.int IntKind.i64 1),I.v (Value.int IntKind.i64 2),I.sl 1 2 (flat 1 [I.v (Value.int IntKind.i64 (-1)),I.v (Value.int IntKind.i64 (vl l (nx l p 5).2 ins).1)])]).snd))],[]⟩))) (L (ag 21 9) ⟨[eC,cP,(40,((bool false),[]))],[(aE l ((nx l p 5).2)),(da ins aa fuel param),(bD ins),(bU aa),(A8 back),(Bl fr)],[]⟩))):dq (Ok l) 21 xE L QE 7 (Gg l p ins aa fuel param fr back):=Eq.mp (by kernel_rfl) h
def Cd (l:Sq Int) (p:Nat) (ins:Sq aj) (aa:Sq ai) (fuel:Int) (param:Nat) (ex:ai):VS:=⟨[rq,oM],[aE l p,(da ins aa fuel param),(bD ins),(bU aa),.box (lift (bn ex))],[]⟩
theorem Vm (L:LP) (QE:D→List ah→Prop) (l:Sq Int) (p:Nat) (ins:Sq aj) (aa:Sq ai) (fuel:Int) (param:Nat) (ex:ai) (h:nd (cg (aa.1+1) 56) (nd (aa.1.beq aa.1) (nd (cg (aa.1+1) 56) (nd (aa.1.beq aa.1) (QE (int (IntKind.i64.wrap ((↑(aa.1+1):Int)-1))) [(aE l p),(bf 0 2 ins.1 6 (.succ aa.1) fuel (↑param:Int)),(.arr 40 14 ins.1 (fun i=>cy (ins.2 i))),.dead,(.box (lift (bn (ex)))),(.row 73 3 1 (lift (bn (ex)))),(.arr 73 3 (aa.1+1) (gP aa.1 (fun i=>dS (aa.2 i)) (1,flat 3 [sJ 3 ja ex.1,sJ 4 uJ ex.2,iI ex.3]).snd))]))))):dq (Ok l) 21 xE L QE 9 (Cd l p ins aa fuel param ex):=Eq.mp (by kernel_rfl) h
theorem Mt (l:Sq Int) (p:Nat) (ins:Sq aj) (aa:Sq ai) (fuel:Int) (param:Nat) (p0:Nat) (hl:l.n≤maxLen) (hI:ins.n≤1000) (hE:aa.n≤1000) (hF:0≤fuel∧fuel≤1000) (ex:ai):af 21 4 (lF [aE l p0,bf 0 2 ins.n 3 aa.n fuel param,dJ ins,l6 aa] (int aa.n) [aE l ((ex,p)).2,bf 0 2 ins.n 4 (cG aa ((ex,p)).1).n fuel param,dJ ins,.dead,l6 (cG aa ((ex,p)).1)]) (ag 21 9) (Cd l p ins aa fuel param ex):=by
 refine bA (X:=Ok l) (stop:=xE) (Vm _ _ l p ins aa fuel param ex ?_)
 refine aw (cj (by omega) (by omega)) (aw (cf _) (aw (cj (by omega) (by omega)) (aw (cf _) ?_)))
 rw [zt hE]
 exact ⟨[0,1,2,3,6],int aa.n,_,_,rfl,(rc (rc (rc (rc (.cons (Wd aa ex) .nil))))),⟨5,bg rfl,bg rfl,rfl,rfl,aX.refl _,⟨.inr rfl,⟨.inr rfl,⟨.inl (.inl rfl),⟨.inr rfl,⟨rfl,trivial⟩⟩⟩⟩⟩⟩⟩
theorem Wc (v:Int):∀ i,i<1→∀ j,j<3→dr (flat 3 [I.v (Value.int IntKind.i64 1),I.v (Value.int IntKind.i64 2),I.sl 1 2 (flat 1 [I.v (Value.int IntKind.i64 (-1)),I.v (Value.int IntKind.i64 v)])] i j) (ja (X5 v) j):=by
 intro i hi j hj
 have hi:i=0:=by omega
 subst hi
 match j,hj with
 | 0,_=>exact dr.refl _
 | 1,_=>exact dr.refl _
 | 2,_=>
   refine dr.sl fun a ha b hb=>?_
   have hb:b=0:=by omega
   subst hb
   match a,ha with
   | 0,_=>exact dr.refl _
   | 1,_=>exact dr.refl _
theorem V5 (l:Sq Int) (p:Nat) (ins:Sq aj) (aa:Sq ai) (fuel:Int) (param:Nat) (p0:Nat) (hl:l.n≤maxLen) (hI:ins.n≤1000) (hE:aa.n≤1000) (hF:0≤fuel∧fuel≤1000) (fr:eV) (back:Int):af 21 4 (lF [aE l p0,bf 0 2 ins.n 3 aa.n fuel param,dJ ins,l6 aa] (int aa.n) [aE l (QL l ins fr back p).2,bf 0 2 ins.n 4 (cG aa (QL l ins fr back p).1).n fuel param,dJ ins,.dead,l6 (cG aa (QL l ins fr back p).1)]) (ag 21 7) (Gg l p ins aa fuel param fr back):=by
 refine bA (X:=Ok l) (stop:=xE) (V4 _ _ l p ins aa fuel param fr back ⟨fa l _ _ hl rfl,?_⟩)
 refine ak (fun h=>?_) (fun h=>?_)
 ·refine ⟨gw l _ ins hl hI rfl rfl rfl rfl (bg rfl),gw l _ ins hl hI rfl rfl rfl rfl (bg rfl),?_⟩
  rw [show QL l ins fr back p=(⟨dK ⟨1,fun _=>fr⟩ ⟨1,fun _=>X5 (vl l (nx l p 5).2 ins).1⟩,dx zV,back⟩,(vl l (nx l p 5).2 ins).2) from by unfold QL; rw [show ((nx l p 5).1==0)=true from h]; rfl]
  refine af.freeze 9 rfl (af.rename [0,1,2,3,4] rfl (af.le (Cd l (vl l (nx l p 5).2 ins).2 ins aa fuel param ⟨dK ⟨1,fun _=>fr⟩ ⟨1,fun _=>X5 (vl l (nx l p 5).2 ins).1⟩,dx zV,back⟩) (by repeat' (first|exact trivial|refine bV rfl ?_)) (rc (rc (rc (rc (.cons (aJ.box (.cons (ei.im (dr.sl fun i hi j hj=>?_)) (.cons (ei.nil _ _) (.cons (ei.refl _) .nil)))) .nil))))) rfl (Mt l (vl l (nx l p 5).2 ins).2 ins aa fuel param p0 hl hI hE hF _)))
  show dr (Bool.rec (flat 3 [I.v (Value.int IntKind.i64 1),I.v (Value.int IntKind.i64 2),I.sl 1 2 (flat 1 [I.v (Value.int IntKind.i64 (-1)),I.v (Value.int IntKind.i64 (vl l (nx l p 5).2 ins).1)])] (i-1) j) (ja fr j) (Nat.blt i 1):I) (ja (Bool.rec (X5 (vl l (nx l p 5).2 ins).1) fr (Nat.blt i 1)) j)
  cases Nat.blt i 1 with
  | true=>exact dr.refl _
  | false=>exact Wc _ _ (by omega) j hj
 ·rw [show QL l ins fr back p=(⟨⟨1,fun _=>fr⟩,dx zV,back⟩,(nx l p 5).2) from by unfold QL; rw [show ((nx l p 5).1==0)=false from h]; rfl]
  exact af.freeze 5 rfl (af.rename [0,1,2,3,4] rfl (af.le (Cd l (nx l p 5).2 ins aa fuel param ⟨⟨1,fun _=>fr⟩,dx zV,back⟩) (by repeat' (first|exact trivial|refine bV rfl ?_)) (rc (rc (rc (rc (.cons (aJ.box (.cons (ei.refl _) (.cons (ei.nil _ _) (.cons (ei.refl _) .nil)))) .nil))))) rfl (Mt l (nx l p 5).2 ins aa fuel param p0 hl hI hE hF _)))
theorem Tb (x:eV):∀ i,i<1→∀ j,j<3→(lift (kU x))[i*3+j]?=some (.im (ja x j)):=by
 intro i hi j hj
 have hi:i=0:=by omega
 subst hi
 match j,hj with
 | 0,_=>rfl
 | 1,_=>rfl
 | 2,_=>rfl
theorem VD (l:Sq Int) (p:Nat) (ins:Sq aj) (aa:Sq ai) (fuel:Int) (param:Nat) (p0:Nat) (hl:l.n≤maxLen) (hI:ins.n≤1000) (hE:aa.n≤1000) (hF:0≤fuel∧fuel≤1000) (hq:Sq Int):af 21 4 (lF [aE l p0,bf 0 2 ins.n 3 aa.n fuel param,dJ ins,l6 aa] (int aa.n) [aE l (Vv l ins fuel (hq,p)).2,bf 0 2 ins.n 4 (cG aa (Vv l ins fuel (hq,p)).1).n fuel param,dJ ins,.dead,l6 (cG aa (Vv l ins fuel (hq,p)).1)]) (ag 21 6) (Hy l p ins aa fuel param hq):=by
 refine bA (X:=Ok l) (stop:=xE) (VE _ _ l p ins aa fuel param hq ?_)
 rw [ir (k:=fuel+1) (by omega) (by omega)]
 refine ⟨fa l _ _ hl rfl,fa l _ _ hl rfl,?_⟩
 exact af.rename [0,1,2,3,7,5] rfl (af.le (Gg l (nx l p (fuel+1)).2 ins aa fuel param ⟨0,0,hq⟩ (nx l p (fuel+1)).1) (by repeat' (first|exact trivial|refine bV rfl ?_)) (rc (rc (rc (rc (rc (.cons (aJ.row (Tb ⟨0,0,hq⟩)) .nil)))))) rfl (V5 l (nx l p (fuel+1)).2 ins aa fuel param p0 hl hI hE hF ⟨0,0,hq⟩ (nx l p (fuel+1)).1))
theorem Vs (l:Sq Int) (ins:Sq aj) (aa:Sq ai) (fuel:Int) (param:Nat) (p0:Nat) (hl:l.n≤maxLen) (hI:ins.n≤1000) (hE:aa.n≤1000) (hF:0≤fuel∧fuel≤1000) (hP:param≤1000) (o:ai×Nat):∀ k,k≤param→∀ (p:Nat) (hq:Sq Int),hq.n≤k→Vv l ins fuel (U4 l ins (param-k) p hq)=o→af 21 4 (lF [aE l p0,bf 0 2 ins.n 3 aa.n fuel param,dJ ins,l6 aa] (int aa.n) [aE l (o).2,bf 0 2 ins.n 4 (cG aa (o).1).n fuel param,dJ ins,.dead,l6 (cG aa (o).1)]) (ag 21 3) (BT l p ins aa fuel param hq k):=by
 refine aL (fun k hk ih p hq hh ho=>?_) (fun p hq hh ho=>?_)
 ·have q:param-k=(param-(k+1))+1:=by omega
  rw [q] at ho
  refine bA (X:=Ok l) (stop:=xE) (L4 _ _ l p ins aa fuel param hq k ?_)
  rw [bR hk (cM hP (by decide))]
  refine ak (fun h3=>?_) (fun h3=>(dec_lt h3 hk).elim)
  refine ⟨gw l _ ins hl hI rfl rfl rfl rfl (bg rfl),aw (cj (by omega) (by omega)) (aw (cf _) ⟨gw l _ ins hl hI rfl rfl rfl rfl (bg rfl),aw (cj (by omega) (by omega)) (aw (cf _) ?_)⟩)⟩
  exact af.rename [0,1,2,3,4,8] rfl (af.le (BT l (vl l p ins).2 ins aa fuel param (dK hq ⟨1,fun _=>(vl l p ins).1⟩) (k+1)) (by repeat' (first|exact trivial|refine bV rfl ?_)) (rc (rc (rc (rc (rc (.cons (Bc hq _) .nil)))))) rfl (ih _ _ (by show hq.n+1≤_; omega) ho))
 ·rw [Nat.sub_self] at ho
  refine bA (X:=Ok l) (stop:=xE) (L4 _ _ l p ins aa fuel param hq _ ?_)
  refine ak (fun h3=>bJ h3) (fun h3=>?_)
  have ho:Vv l ins fuel (hq,p)=o:=ho
  subst ho
  exact af.freeze 5 rfl (af.rename [0,1,2,3,4] rfl (af.le (Hy l p ins aa fuel param hq) (by repeat' (first|exact trivial|refine bV rfl ?_)) (rc (rc (rc (rc (rc .nil))))) rfl (VD l p ins aa fuel param p0 hl hI hE hF hq)))
theorem ZL (l:Sq Int) (p:Nat) (ins:Sq aj) (aa:Sq ai) (fuel:Int) (param:Nat) (hl:l.n≤maxLen) (hI:ins.n≤1000) (hE:aa.n≤1000) (hF:0≤fuel∧fuel≤1000) (hP:param≤1000):LC 21 [.c (.rt 1 0 0)] [aE l p,bf 0 2 ins.n 3 aa.n fuel param,dJ ins,l6 aa] (int aa.n) [aE l (lv l p ins fuel param).2,bf 0 2 ins.n 4 (cG aa (lv l p ins fuel param).1).n fuel param,dJ ins,.dead,l6 (cG aa (lv l p ins fuel param).1)]:=by
 refine jA ar6 (bg (by kernel_rfl)) (ig (X:=Ok l) (stop:=xE) (as3 _ _ l p ins aa fuel param ?_))
 exact af.iz 4 2 3 1 _ rfl rfl (af.le (BT l p ins aa fuel param (dx 0) 0) (by repeat' (first|exact trivial|refine bV rfl ?_)) (rc (rc (rc (rc (rc (.cons (tO 3 1 _ _) .nil)))))) rfl (Vs l ins aa fuel param p hl hI hE hF hP _ 0 (bu _) p (dx 0) (bu _) rfl))
theorem nH (l:Sq Int) (p:Nat) (ins:Sq aj) (aa:Sq ai) {fuel:Int} {param:Nat} {m q i j:Nat} {RS:List ah} (hl:l.n≤maxLen) (hI:ins.n≤1000) (hE:aa.n≤1000) (hF:0≤fuel∧fuel≤1000) (hP:param≤1000) (hd:iF [m,q,i,j]=true) (h0:aV RS m=some (aE l p)) (h1:aV RS q=some (bf m i ins.n j aa.n fuel param)) (h2:aV RS i=some (dJ ins)) (h3:aV RS j=some (l6 aa)) :
  LC 21 [.c (.rt q 0 0)] RS (int aa.n) (setAt (setAt (setAt (setAt RS m (aE l (lv l p ins fuel param).2)) q (bf m i ins.n RS.length (cG aa (lv l p ins fuel param).1).n fuel param)) i (dJ ins)) j .dead++[l6 (cG aa (lv l p ins fuel param).1)]):=
 cu.E7 (ZL l p ins aa fuel param hl hI hE hF hP) [m,q,i,j] RS hd ⟨h0,fk h0,h1,fk h1,h2,fk h2,h3,fk h3,rfl⟩
open Go Go.V
def F35 (l:Sq Int) (sx:Sq ai→ai→Sq ai) (ds:List D) (rs:List ah):Out:=match ds with
 | [.c (.rt q _ _)]=>match aV rs q with
   | some (.box [.rt m a b,c,d,.sa i n,.sa j ne,.im (.v (.int .i64 fu)),.im (.v (.int .i64 pa))])=>match aV rs m,aV rs i,aV rs j with
     | some (.box [y,.im (.v (.int .i64 p))]),some (.arr _ _ k get),some (.arr _ _ ke ge)=>
       (int (ne:Int),[(m,.box [y,.im (iI (lv l p.toNat ⟨k,fun t=>jo (get t)⟩ fu pa.toNat).2)]),(q,.box [.rt m a b,c,d,.sa i n,.sa rs.length (sx ⟨ke,fun t=>o6 (ge t)⟩ (lv l p.toNat ⟨k,fun t=>jo (get t)⟩ fu pa.toNat).1).n,.im (iI fu),.im (iI pa)]),(j,.dead)],
        [l6 (sx ⟨ke,fun t=>o6 (ge t)⟩ (lv l p.toNat ⟨k,fun t=>jo (get t)⟩ fu pa.toNat).1)])
     | _,_,_=>uX
   | _=>uX
 | _=>uX
def yt:Sq ByteArray:=⟨2,fun i=>bif Nat.beq i 0 then ⟨⟨[120]⟩⟩ else ⟨⟨[121]⟩⟩⟩
def TA:List Nat:=[0,1,2,3,4,5,6,7,8,9,10,11,12,13,14,15,16,17,18,19,20,21,22,23,24,25,26,27,28,29,30]
def X48:hX:={ F:=Qr }
def W67 (l:Sq Int) (f:FuncId) (ds:List D):Rd:=match f with
 | 19=>W33 l ds
 | _=>W37 l ds
def F67 (l:Sq Int) (sn:Sq aj→aj→Sq aj) (sx:Sq ai→ai→Sq ai) (f:FuncId) (ds:List D) (rs:List ah):Out:=match f with
 | 20=>F34 sn ds rs
 | 21=>F35 l sx ds rs
 | 26=>(eT 1 eD yt,[],[])
 | f=>Qr f ds rs
def X67 (l:Sq Int) (sn:Sq aj→aj→Sq aj) (sx:Sq ai→ai→Sq ai):hX:={ F:=F67 l sn sx,W:=W67 l,S:=TA }
def zI:aj:=⟨0,0,0,0,0,dx 0,⟨0,0,⟨⟨[]⟩⟩⟩,dx ⟨⟨[]⟩⟩,⟨0,0⟩,0,false⟩
def iO (l:Sq Int) (p:Nat) (ins:Sq aj) (param:Nat):Int×Nat:=bif (nx l (vl l p ins).2 2).1==0 then nx l (nx l (vl l p ins).2 2).2 (param:Int) else ((vl l p ins).1,(nx l (vl l p ins).2 2).2)
def yn (A e:Int):aj:={ zI with op:=7,a:=A,names:=yt,exit:=e }
def fJ (l:Sq Int) (p:Nat) (ins:Sq aj) (fuel:Int) (param:Nat):ai×Nat:=lv l (iO l p ins param).2 ins fuel param
def ji (l:Sq Int) (p:Nat) (ins:Sq aj) (param:Nat) (ne:Nat):aj:=yn (iO l p ins param).1 (ne:Int)
theorem jq {l l':List C} (h:aB ei l l'):aX (.a l) (.a l'):=by
 rintro E av w v ⟨cs,rfl,hv⟩
 exact ⟨cs,rfl,aB.cle h hv⟩
def YG:Nat→Bool:=cw
theorem ak7:Fn 26:=⟨by kernel_rfl,by kernel_rfl⟩
theorem au1 (L:LP) (QD:D→Prop)  (h:QD (.c (.im (.sl 1 2 (flat 1 [I.v (Value.string { data := #[120] }),I.v (Value.string { data := #[121] })]))))):fS X48 26 YG L (aZ QD) [] []:=Eq.mp (by kernel_rfl) h
theorem JI:LC 26 [] [] (eT 1 eD yt) []:=by
 refine aU (X:=X48) (stop:=YG) ak7 (bg (by kernel_rfl)) (au1 _ _ ?_)
 exact fun E av w v h=>dr.sl (fun i hi j hj=>by
  have hj:j=0:=by omega
  subst hj
  match i,hi with
  | 0,_=>exact dr.refl _
  | 1,_=>exact dr.refl _) av w v h
def Rt:Nat→Bool:=fun i=>Nat.beq i 4
theorem ak0:Fn 34:=⟨by kernel_rfl,by kernel_rfl⟩
abbrev nc (ax:Sq Int) (aF:Nat) (aR:Sq aj) (bZ:Sq ai) (ct:Int) (dX:Nat):List ah:=[(aE ax aF),(da aR bZ ct dX),(bD aR),(bU bZ)]
abbrev sy:C:=.im (.sl 1 2 (fun i=>eD (yt.get i)))
abbrev JX (ax:Sq Int) (aF:Nat) (aR:Sq aj):ah:=.box [(ci 7),(ci ((vl ax aF aR).1)),(ci 0),(ci 0),(ci 0),b6,(ci 0),(ci 0),dk,sy,(ci 0),(ci 0),(ci 0),fK]
abbrev vU (ax:Sq Int) (aF:Nat) (aR:Sq aj):ah:=aE ax ((nx ax (vl ax aF aR).2 2).2)
theorem al7 (L:LP) (QE:D→List ah→Prop) (sn:Sq aj→aj→Sq aj) (sx:Sq ai→ai→Sq ai) (l:Sq Int) (p:Nat) (ins:Sq aj) (aa:Sq ai) (fuel:Int) (param:Nat) (h:(WC 23 dO (nc l p ins aa fuel param) (int ((vl l p ins).1)) 0 (aE l ((vl l p ins).2))∧(LC 26 [] [] (.c sy) []∧(WC 19 kf [(aE l ((vl l p ins).2)),(da ins aa fuel param),(bD ins),(bU aa),(JX l p ins)] (int ((nx l (vl l p ins).2 2).1)) 0 (aE l ((nx l (vl l p ins).2 2).2))∧br ((nx l (vl l p ins).2 2).1==0) ((WC 19 [(.c (.rt 0 0 0)),(oA param)] [(vU l p ins),(da ins aa fuel param),(bD ins),(bU aa),(JX l p ins),.dead] (int ((nx l (nx l (vl l p ins).2 2).2 (↑param:Int)).1)) 0 (aE l ((nx l (nx l (vl l p ins).2 2).2 (↑param:Int)).2))∧(WC 19 [(.c (.rt 0 0 0)),(oA param)] [(vU l p ins),(da ins aa fuel param),(bD ins),(bU aa),(JX l p ins),.dead] (int ((nx l (nx l (vl l p ins).2 2).2 (↑param:Int)).1)) 0 (aE l ((nx l (nx l (vl l p ins).2 2).2 (↑param:Int)).2))∧L (ag 34 4) ⟨[eC,w9],[(aE l ((nx l (nx l (vl l p ins).2 2).2 (↑param:Int)).2)),(da ins aa fuel param),(bD ins),(bU aa),(.box [(ci 7),(ci ((nx l (nx l (vl l p ins).2 2).2 (↑param:Int)).1)),(ci 0),(ci 0),(ci 0),b6,(ci 0),(ci 0),dk,sy,(ci 0),(ci 0),(ci 0),fK]),.dead],[]⟩))) (L (ag 34 4) ⟨[eC,w9,(13,((bool false),[]))],[(vU l p ins),(da ins aa fuel param),(bD ins),(bU aa),(JX l p ins)],[]⟩))))):fS (X67 l sn sx) 34 Rt L QE [.c (.rt 1 0 0)] [aE l p,bf 0 2 ins.n 3 aa.n fuel param,dJ ins,l6 aa]:=Eq.mp (by kernel_rfl) h
def AB (sn:Sq aj→aj→Sq aj) (sx:Sq ai→ai→Sq ai) (l:Sq Int) (p:Nat) (ins:Sq aj) (aa:Sq ai) (fuel:Int) (param:Nat) (x:aj):VS:=⟨[rq,(3,.c (.rt 4 0 0),[])],[aE l p,(da ins aa fuel param),(bD ins),(bU aa),.box (lift (aT x))],[]⟩
abbrev iY (ax:Sq ai):D:=int (↑ax.1:Int)
abbrev zc (ax:Sq ai→ai→Sq ai) (aF:Sq ai) (aR:Sq Int) (bZ:Nat) (ct:Sq aj) (dX:Int) (eR:Nat):ah:=.arr 73 3 ((ax aF (lv aR bZ ct dX eR).1).1) (fun i=>dS ((ax aF (lv aR bZ ct dX eR).1).2 i))
abbrev GH (ax:aj) (aF:Sq ai):List C:=lift (aT ({ op:=ax.1,a:=ax.2,b:=ax.3,c:=ax.4,n:=ax.5,args:=ax.6,k:=ax.7,names:=ax.8,place:=ax.9,exit:=Int.ofNat aF.1,once:=ax.11 }))
theorem W6 (L:LP) (QE:D→List ah→Prop) (sn:Sq aj→aj→Sq aj) (sx:Sq ai→ai→Sq ai) (l:Sq Int) (p:Nat) (ins:Sq aj) (aa:Sq ai) (fuel:Int) (param:Nat) (x:aj) (h:(LC 21 dO [(aE l p),(da ins aa fuel param),(bD ins),(bU aa),(b4 x)] (iY aa) [(aE l ((lv l p ins fuel param).2)),(bf 0 2 ins.1 5 ((sx aa (lv l p ins fuel param).1).1) fuel (↑param:Int)),(bD ins),.dead,(b4 x),(zc sx aa l p ins fuel param)]∧(LC 20 [(.c (.rt 1 0 0)),(.a (GH x aa))] [(aE l ((lv l p ins fuel param).2)),(bf 0 2 ins.1 5 ((sx aa (lv l p ins fuel param).1).1) fuel (↑param:Int)),(bD ins),.dead,(.box (GH x aa)),(zc sx aa l p ins fuel param)] (ep ins) [(aE l ((lv l p ins fuel param).2)),(bf 0 6 ((sn ins { op:=x.1,a:=x.2,b:=x.3,c:=x.4,n:=x.5,args:=x.6,k:=x.7,names:=x.8,place:=x.9,exit:=Int.ofNat aa.1,once:=x.11 }).1) 5 ((sx aa (lv l p ins fuel param).1).1) fuel (↑param:Int)),.dead,.dead,(.box (GH x aa)),(zc sx aa l p ins fuel param),(.arr 40 14 ((sn ins { op:=x.1,a:=x.2,b:=x.3,c:=x.4,n:=x.5,args:=x.6,k:=x.7,names:=x.8,place:=x.9,exit:=Int.ofNat aa.1,once:=x.11 }).1) (fun i=>cy ((sn ins { op:=x.1,a:=x.2,b:=x.3,c:=x.4,n:=x.5,args:=x.6,k:=x.7,names:=x.8,place:=x.9,exit:=Int.ofNat aa.1,once:=x.11 }).2 i)))]∧QE (int x.2) [(aE l ((lv l p ins fuel param).2)),(bf 0 6 ((sn ins { op:=x.1,a:=x.2,b:=x.3,c:=x.4,n:=x.5,args:=x.6,k:=x.7,names:=x.8,place:=x.9,exit:=Int.ofNat aa.1,once:=x.11 }).1) 5 ((sx aa (lv l p ins fuel param).1).1) fuel (↑param:Int)),.dead,.dead,(.box (lift (aT ({ op:=x.1,a:=x.2,b:=x.3,c:=x.4,n:=x.5,args:=x.6,k:=x.7,names:=x.8,place:=x.9,exit:=Int.ofNat aa.1,once:=x.11 })))),(.arr 73 3 ((sx aa (lv l p ins fuel param).1).1) (fun i=>dS ((sx aa (lv l p ins fuel param).1).2 i))),(.arr 40 14 ((sn ins { op:=x.1,a:=x.2,b:=x.3,c:=x.4,n:=x.5,args:=x.6,k:=x.7,names:=x.8,place:=x.9,exit:=Int.ofNat aa.1,once:=x.11 }).1) (fun i=>cy ((sn ins { op:=x.1,a:=x.2,b:=x.3,c:=x.4,n:=x.5,args:=x.6,k:=x.7,names:=x.8,place:=x.9,exit:=Int.ofNat aa.1,once:=x.11 }).2 i)))]))):dq (X67 l sn sx) 34 Rt L QE 4 (AB sn sx l p ins aa fuel param x):=Eq.mp (by kernel_rfl) h
theorem PC (l:Sq Int) (p:Nat) (ins:Sq aj) (aa:Sq ai) (fuel:Int) (param:Nat) (p0:Nat) (hl:l.n≤maxLen) (hI:ins.n≤900) (hE:aa.n≤900) (hF:0≤fuel∧fuel≤1000) (hP:param≤1000) (x:aj) (A:Int) (q:Nat) (hx:(A,q)=iO l p0 ins param) (hx1:x=yn A 0) (hq:p=q):af 34 4 (lF [aE l p0,bf 0 2 ins.n 3 aa.n fuel param,dJ ins,l6 aa] (int (ji l p0 ins param aa.n).a) [aE l (fJ l p0 ins fuel param).2,bf 0 5 (cx ins (ji l p0 ins param aa.n)).n 4 (cG aa (fJ l p0 ins fuel param).1).n fuel param,.dead,.dead,l6 (cG aa (fJ l p0 ins fuel param).1),dJ (cx ins (ji l p0 ins param aa.n))]) (ag 34 4) (AB cx cG l p ins aa fuel param x):=by
 subst hq
 subst hx1
 refine bA (X:=X67 l cx cG) (stop:=Rt) (W6 _ _ cx cG l p ins aa fuel param (yn A 0) ⟨nH (m:=0) (q:=1) (i:=2) (j:=3) l _ ins aa hl (by omega) (by omega) hF hP rfl rfl rfl rfl rfl,fD (m:=0) (q:=1) (i:=2) (j:=5) ins (yn A aa.n) (by omega) (aX.refl _) rfl (bg rfl) rfl rfl (bg rfl),?_⟩)
 rw [show fJ l p0 ins fuel param=lv l p ins fuel param from by unfold fJ; rw [← hx],show ji l p0 ins param aa.n=yn A aa.n from by unfold ji; rw [← hx]]
 exact ⟨[0,1,2,3,5,6],int A,_,_,rfl,(rc (rc (rc (rc (rc (rc .nil)))))),⟨6,bg rfl,bg rfl,rfl,rfl,aX.refl _,⟨.inr rfl,⟨.inr rfl,⟨.inr rfl,⟨.inr rfl,⟨rfl,⟨rfl,trivial⟩⟩⟩⟩⟩⟩⟩⟩
theorem ae0 (l:Sq Int) (p:Nat) (ins:Sq aj) (aa:Sq ai) (fuel:Int) (param:Nat) (hl:l.n≤maxLen) (hI:ins.n≤900) (hE:aa.n≤900) (hF:0≤fuel∧fuel≤1000) (hP:param≤1000):LC 34 [.c (.rt 1 0 0)] [aE l p,bf 0 2 ins.n 3 aa.n fuel param,dJ ins,l6 aa] (int (iO l p ins param).1) [aE l (fJ l p ins fuel param).2,bf 0 5 (cx ins (ji l p ins param aa.n)).n 4 (cG aa (fJ l p ins fuel param).1).n fuel param,.dead,.dead,l6 (cG aa (fJ l p ins fuel param).1),dJ (cx ins (ji l p ins param aa.n))]:=by
 refine jA ak0 (bg (by kernel_rfl)) (ig (X:=X67 l cx cG) (stop:=Rt) (al7 _ _ cx cG l p ins aa fuel param ⟨gw l _ ins hl (by omega) rfl rfl rfl rfl (bg rfl),JI,fa l _ _ hl rfl,?_⟩))
 refine ak (fun h=>?_) (fun h=>?_)
 ·have e:iO l p ins param=nx l (nx l (vl l p ins).2 2).2 (param:Int):=by unfold iO; rw [show ((nx l (vl l p ins).2 2).1==0)=true from h]; rfl
  refine ⟨fa l _ _ hl rfl,fa l _ _ hl rfl,?_⟩
  exact af.rename [0,1,2,3,4] rfl (af.le (AB cx cG l (nx l (nx l (vl l p ins).2 2).2 (param:Int)).2 ins aa fuel param (yn (nx l (nx l (vl l p ins).2 2).2 (param:Int)).1 0)) (by repeat' (first|exact trivial|refine bV rfl ?_)) (rc (rc (rc (rc (.cons (aJ.box (by repeat' (first|exact aB.nil|refine aB.cons ?_ ?_|exact ei.refl _|exact ei.nil _ _))) .nil))))) rfl (PC l _ ins aa fuel param p hl hI hE hF hP _ _ _ e.symm rfl rfl))
 ·have e:iO l p ins param=((vl l p ins).1,(nx l (vl l p ins).2 2).2):=by unfold iO; rw [show ((nx l (vl l p ins).2 2).1==0)=false from h]; rfl
  exact af.le (AB cx cG l (nx l (vl l p ins).2 2).2 ins aa fuel param (yn (vl l p ins).1 0)) (by repeat' (first|exact trivial|refine bV rfl ?_)) (rc (rc (rc (rc (.cons (aJ.box (by repeat' (first|exact aB.nil|refine aB.cons ?_ ?_|exact ei.refl _|exact ei.nil _ _))) .nil))))) rfl (PC l _ ins aa fuel param p hl hI hE hF hP _ _ _ e.symm rfl rfl)
theorem Uf (l:Sq Int) (p:Nat) (ins:Sq aj) (aa:Sq ai) (fuel:Int) (param:Nat) {m q i j:Nat} {RS:List ah} (hl:l.n≤maxLen) (hI:ins.n≤900) (hE:aa.n≤900) (hF:0≤fuel∧fuel≤1000) (hP:param≤1000) (hd:iF [m,q,i,j]=true) (h0:aV RS m=some (aE l p)) (h1:aV RS q=some (bf m i ins.n j aa.n fuel param)) (h2:aV RS i=some (dJ ins)) (h3:aV RS j=some (l6 aa)) :
  LC 34 [.c (.rt q 0 0)] RS (int (iO l p ins param).1) (setAt (setAt (setAt (setAt RS m (aE l (fJ l p ins fuel param).2)) q (bf m (RS.length+1) (cx ins (ji l p ins param aa.n)).n RS.length (cG aa (fJ l p ins fuel param).1).n fuel param)) i .dead) j .dead++[l6 (cG aa (fJ l p ins fuel param).1),dJ (cx ins (ji l p ins param aa.n))]):=
 cu.E7 (ae0 l p ins aa fuel param hl hI hE hF hP) [m,q,i,j] RS hd ⟨h0,fk h0,h1,fk h1,h2,fk h2,h3,fk h3,rfl⟩
end
end Go.Proofs.YtghfgcfabbbbbaaDoor
