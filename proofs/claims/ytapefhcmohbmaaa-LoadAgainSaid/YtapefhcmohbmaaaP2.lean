/- The executor's operations that only compute: the machine does them. -/
import Derived.Test.YtapefhcmohbmaaaP1
set_option linter.unusedSimpArgs false
set_option linter.unusedVariables false
namespace Go.V
open Go.RowKit
theorem Bool.aw {α:Type} {x:Option α} {b:Bool} {y:α} (h:(Bool.rec none x b:Option α)=some y):b=true/\x=some y:=by
 cases b with
 | false=>simp at h
 | true=>exact ⟨rfl,h⟩
def bw (sl:aL):Prop:=∀ x∈sl,x.2.2=[]
theorem bw.cons {sl:aL} (h:bw sl) (t:Tmp) (d:D):bw ((t,d,[])::sl):=λx hx=>by
 cases hx with
 | head=>rfl
 | tail _ hx=>exact h x hx
theorem bV {α:Type}:∀ (l:List α) (i:Nat),aR l i=nth l i
 | [],_=>rfl
 | _::_,0=>rfl
 | _::l,i+1=>bV l i
theorem ft:∀ {sl:aL} {t:Tmp} {d:D},bw sl->dW sl t=some d->look sl t=some (d,[])
 | [],t,d,_,h=>by simp [dW] at h
 | x::sl,t,d,hn,h=>by
   have hs:bw sl:=λy hy=>hn y (fL _ hy)
   obtain ⟨k,e,c⟩:=x
   have hc:c=[]:=hn _ (jl ..)
   subst hc
   simp only [look]
   have h:(Bool.rec (dW sl t) (some e) (Nat.beq k t):Option D)=some d:=h
   cases hk:Nat.beq k t with
   | true=>simp_all
   | false=>rw [hk] at h; exact ft hs h
section
variable {P:Program} {T:dk} {N:Nat} {ax:Nat->Prop} {w0:Kp} {sp:List (D×Value)} {s:VS} {a:Act} {w:World} {E:Env}
theorem de (hn:bw s.sl) {x:Operand} {d:D} (e:ch s.sl x=some d):s.ev [] x=some d:=by
 cases x with
 | tmp t=>simp only [ch] at e; simp [VS.ev,ft hn e,sub]
 | const v=>exact e
 | func f=>exact e
 | global g=>exact e
theorem bu.nil (a:Act):bu a []:=λp hp=>by cases hp
theorem R.ch (h:R T N ax w0 sp s a w E) (hn:bw s.sl) {x:Operand} {d:D} (e:ch s.sl x=some d):aQ E (AV ax s.rs E) w d (a.eval x):=
 h.ev (bu.nil a) (de hn e)
theorem lR (hn:bw s.sl):∀ {l:List Operand} {ds:List D},yF s.sl l=some ds->Fg s [] l=some ds
 | [],ds,e=>e
 | x::l,ds,e=>by
   have e:(match Go.V.ch s.sl x with
    | some d=>match yF s.sl l with
      | some r=>some (d::r)
      | none=>none
    | none=>none)=some ds:=e
   split at e
   .rename_i d hd
    split at e
    .rename_i r hr
     simp only [Fg,de hn hd,lR hn hr]
     exact e
    .simp at e
   .simp at e
theorem lF {d:Option D} {v:Value} (e:DC d=some v):d=some (.c (.im (.v v))):=by
 unfold DC at e
 split at e
 .rename_i x
  unfold U9 at e
  split at e
  .rename_i i
   unfold UU at e
   grind
  .simp at e
 .simp at e
theorem dA {d:Option D} {n:Int} (e:gU d=some n):d=some (int n):=by
 unfold gU at e
 split at e
 .rename_i v hv
  unfold Hi at e
  grind [lF]
 .simp at e
theorem eB {d:Option D} {b:Bool} (e:iQ d=some b):d=some (bool b):=by
 unfold iQ at e
 split at e
 .rename_i v hv
  unfold zF at e
  grind [lF]
 .simp at e
theorem bT {d:Option D} {c:C} (e:cR d=some c):d=some (.c c):=by
 unfold cR at e
 grind
theorem zM {d:Option D} {l:List C} (e:TH d=some l):d=some (.a l):=by
 unfold TH at e
 grind
theorem Kl {d:Option D} {l:List (Bool×List C)} (e:V4 d=some l):d=some (.t l):=by
 unfold V4 at e
 grind
def cq (P:Program) (ax:Nat->Prop) (s:VS) (a:Act) (w:World) (E:Env) (o:Oper) (d:D):Prop:=
 ∃ v,(execOp a.eval o).run P w=.ok (.value v) w/\aQ E (AV ax s.rs E) w d v
theorem cq.cx (bC:cZ P T) (h:R T N ax w0 sp s a w E) {o:Oper} {p:Option Prop} {d:D} (e:aZ T s [] o.op=some (p,d)) (hp:need p):cq P ax s a w E o d:=by
 obtain ⟨v,h1,h2⟩:=Bz bC h (bu.nil a) e hp
 exact ⟨v,h1 w (Below.refl _ _),h2⟩
theorem Eo (h:R T N ax w0 sp s a w E) (hn:bw s.sl) {o:Oper} {c x y:Operand} (ho:o.op=.pick c x y) {d:D} (e:yT s c x y=some d):cq P ax s a w E o d:=by
 unfold yT at e
 split at e
 case h_2=>simp at e
 rename_i b hb
 have hb:=eB hb
 split at e
 case h_2=>simp at e
 rename_i z hz
 simp only [au] at e
 subst e
 have hb:=(h.ch hn hb).1
 cases b with
 | true=>
   have hz:iQ (ch s.sl x)=some z:=hz
   have hx:=(h.ch hn (eB hz)).1
   exact ⟨.bool z,by simp [execOp,ho,hb,asBool,hx],rfl,rfl⟩
 | false=>
   have hz:iQ (ch s.sl y)=some z:=hz
   have hx:=(h.ch hn (eB hz)).1
   exact ⟨.bool z,by simp [execOp,ho,hb,asBool,hx],rfl,rfl⟩
theorem Fm (h:R T N ax w0 sp s a w E) {c:C} {v:Value} {b:Bool} (hc:a7 E (AV ax s.rs E) w c v) (e:Ls s.rs c=some b) :
  (b=true/\∃ n k,v=.slice none n k)∨(b=false/\∃ ad n k,v=.slice (some ad) n k):=by
 unfold Ls at e
 split at e
 .rename_i x
  unfold gb at e
  split at e
  .obtain ⟨rfl,_⟩:=hc
   grind
  .obtain ⟨rfl,_⟩:=hc
   grind
  .rename_i sz n get
   simp only [au] at e
   obtain ⟨ao,cap,rfl,_,_,h3⟩:=hc
   obtain ⟨ad,rfl,_⟩:=h3 (by omega)
   grind
  .simp at e
 .rename_i r m
  split at e
  case h_4=>simp at e
  .rename_i el sz n l hl
   simp only [au] at e
   rw [bV,bg] at hl
   obtain ⟨e',ao,n',cap,h1,h2,h3,rfl⟩:=hc
   obtain ⟨q1,q2,xs,⟨_,q3⟩,q4⟩:=h.roots r _ _ hl h1
   grind
  .rename_i el sz n l hl
   simp only [au] at e
   rw [bV,bg] at hl
   obtain ⟨e',ao,n',cap,h1,h2,h3,rfl⟩:=hc
   obtain ⟨q1,q2,xs,⟨_,q3⟩,q4⟩:=h.roots r _ _ hl h1
   grind
  .rename_i el sz n get dJ hl
   simp only [au] at e
   rw [bV,bg] at hl
   obtain ⟨e',ao,n',cap,h1,h2,h3,rfl⟩:=hc
   obtain ⟨q1,q2,xs,⟨_,q3⟩,q4⟩:=h.roots r _ _ hl h1
   grind
 .simp at e
theorem SA {t el:TypeId} (hu:P.underlying t=some (.slice el)) (b:Bool) {ao:Option Addr} {n k:Nat} (hb:ao.isNone=b) (x y:Operand) :
  (do eqGuard .eql t x y (.slice ao n k) (.slice none 0 0); binOp .eql t (.slice ao n k) (.slice none 0 0)).run P w=.ok (.bool b) w/\
  (do eqGuard .neq t x y (.slice ao n k) (.slice none 0 0); binOp .neq t (.slice ao n k) (.slice none 0 0)).run P w=.ok (.bool (!b)) w:=by
 have he:∀ d,(Op.equalIn (d+1) t (.slice ao n k) (.slice none 0 0)).run P w=.ok b w:=λd=>by
  unfold Op.equalIn
  cases ao<;>simp [run_underlying hu,<- hb]
 have h0:(Op.equal t (.slice ao n k) (.slice none 0 0)).run P w=.ok b w:=he 9999
 constructor
 .show ((do eqGuard .eql t x y (.slice ao n k) (.slice none 0 0); (do pure (.bool (<- Op.equal t (.slice ao n k) (.slice none 0 0)))):Sem Value)).run P w=_
  rw [Sem.run_bind]
  simp [eqGuard,h0]
 .show ((do eqGuard .neq t x y (.slice ao n k) (.slice none 0 0); (do pure (.bool !(<- Op.equal t (.slice ao n k) (.slice none 0 0)))):Sem Value)).run P w=_
  rw [Sem.run_bind]
  simp [eqGuard,h0]
theorem Ew (bC:cZ P T) (h:R T N ax w0 sp s a w E) (hn:bw s.sl) {o:Oper} {op:BinOp} {t t2:TypeId} {x y:Operand} (ho:o.op=.binOp op t x y t2) (hy:isNil y=true) {d:D} (e:uE T s op t x=some d):cq P ax s a w E o d:=by
 have hy':y=.const (.slice none 0 0):=by
  grind [isNil]
 subst hy'
 unfold uE at e
 split at e
 case h_2=>simp at e
 rename_i Cf ie z0 el oG
 have hu:=(bC.ty _ _ oG).slice rfl
 split at e
 case h_2=>simp at e
 rename_i c hc
 have hc:=h.ch hn (bT hc)
 split at e
 case h_2=>simp at e
 rename_i b hb
 have hv:∃ ao n k,a.eval x=.slice ao n k/\ao.isNone=b:=by
  rcases Fm h hc hb with ⟨rfl,n,k,hv⟩|⟨rfl,ad,n,k,hv⟩
  all_goals grind
 obtain ⟨ao,n,k,hv,hb⟩:=hv
 have hr:=SA (P:=P) (w:=w) hu b (n:=n) (k:=k) hb x (.const (.slice none 0 0))
 have hce:a.eval (.const (.slice none 0 0))=.slice none 0 0:=rfl
 split at e
 .simp only [au] at e
  subst e
  exact ⟨.bool b,by simp only [execOp,ho,hv,hce]; exact bJ hr.1,rfl,rfl⟩
 .simp only [au] at e
  subst e
  exact ⟨.bool (!b),by simp only [execOp,ho,hv,hce]; exact bJ hr.2,rfl,rfl⟩
 .simp at e
theorem b6.ptr {P:Program} {t:TypeId} {y:Ty} (h:b6 P t y) {e:Nat} (hk:y.kd=.ptr e):∃ e',P.underlying t=some (.pointer e'):=by
 have:=h.kd
 grind [tu]
theorem MG {t e:TypeId} (hu:P.underlying t=some (.pointer e)) (b:Bool) {ao:Option Addr} (hb:ao.isNone=b) (x y:Operand) :
  (do eqGuard .eql t x y (.pointer ao) (.pointer none); binOp .eql t (.pointer ao) (.pointer none)).run P w=.ok (.bool b) w/\
  (do eqGuard .neq t x y (.pointer ao) (.pointer none); binOp .neq t (.pointer ao) (.pointer none)).run P w=.ok (.bool (!b)) w:=by
 have he:∀ d,(Op.equalIn (d+1) t (.pointer ao) (.pointer none)).run P w=.ok b w:=λd=>by
  unfold Op.equalIn
  cases ao<;>simp [run_underlying hu,<- hb]
 have h0:(Op.equal t (.pointer ao) (.pointer none)).run P w=.ok b w:=he 9999
 constructor
 .show ((do eqGuard .eql t x y (.pointer ao) (.pointer none); (do pure (.bool (<- Op.equal t (.pointer ao) (.pointer none)))):Sem Value)).run P w=_
  rw [Sem.run_bind]
  simp [eqGuard,h0]
 .show ((do eqGuard .neq t x y (.pointer ao) (.pointer none); (do pure (.bool !(<- Op.equal t (.pointer ao) (.pointer none)))):Sem Value)).run P w=_
  rw [Sem.run_bind]
  simp [eqGuard,h0]
theorem b6.func {P:Program} {t:TypeId} {y:Ty} (h:b6 P t y) (hk:y.kd=.func):∃ a b c,P.underlying t=some (.func a b c):=by
 have:=h.kd
 grind [tu]
theorem LZ {t:TypeId} (hu:∃ a b c,P.underlying t=some (.func a b c)) (b:Bool) {v:Value} (hv:(b=true/\v=.nilFunc)∨(b=false/\∃ f m vs,v=.func f m vs)) (x y:Operand) :
  (do eqGuard .eql t x y v .nilFunc; binOp .eql t v .nilFunc).run P w=.ok (.bool b) w/\
  (do eqGuard .neq t x y v .nilFunc; binOp .neq t v .nilFunc).run P w=.ok (.bool (!b)) w:=by
 obtain ⟨_,_,_,hu⟩:=hu
 have he:∀ d,(Op.equalIn (d+1) t v .nilFunc).run P w=.ok b w:=λd=>by
  unfold Op.equalIn
  rcases hv with ⟨rfl,rfl⟩|⟨rfl,f,m,vs,rfl⟩<;>simp [run_underlying hu]
 have h0:(Op.equal t v .nilFunc).run P w=.ok b w:=he 9999
 rcases hv with ⟨_,rfl⟩|⟨_,f,m,vs,rfl⟩
 .constructor
  .show ((do eqGuard .eql t x y .nilFunc .nilFunc; (do pure (.bool (<- Op.equal t .nilFunc .nilFunc))):Sem Value)).run P w=_
   rw [Sem.run_bind]
   simp [eqGuard,h0]
  .show ((do eqGuard .neq t x y .nilFunc .nilFunc; (do pure (.bool !(<- Op.equal t .nilFunc .nilFunc))):Sem Value)).run P w=_
   rw [Sem.run_bind]
   simp [eqGuard,h0]
 .constructor
  .show ((do eqGuard .eql t x y (.func f m vs) .nilFunc; (do pure (.bool (<- Op.equal t (.func f m vs) .nilFunc))):Sem Value)).run P w=_
   rw [Sem.run_bind]
   simp [eqGuard,h0]
  .show ((do eqGuard .neq t x y (.func f m vs) .nilFunc; (do pure (.bool !(<- Op.equal t (.func f m vs) .nilFunc))):Sem Value)).run P w=_
   rw [Sem.run_bind]
   simp [eqGuard,h0]
theorem E7 (bC:cZ P T) (h:R T N ax w0 sp s a w E) (hn:bw s.sl) {o:Oper} {op:BinOp} {t t2:TypeId} {x y:Operand} (ho:o.op=.binOp op t x y t2) {d:D} (e:Jp T s op t x y=some d):cq P ax s a w E o d:=by
 unfold Jp at e
 split at e
 case h_2=>simp at e
 rename_i ty oG
 have oG:=bC.ty _ _ oG
 split at e
 case h_2=>simp at e
 rename_i c hc
 have hc:=h.ch hn (bT hc)
 split at e
 case h_2=>simp at e
 rename_i b hb
 unfold ae8 at hb
 split at hb
 .split at hb
  case h_2=>simp at hb
  rename_i el hk
  obtain ⟨e',hu⟩:=oG.ptr hk
  have hv:∃ ao,a.eval x=.pointer ao/\ao.isNone=b:=by
   unfold ac7 at hb
   split at hb
   .simp only [au] at hb
    obtain ⟨_,_,_,q⟩:=hc
    grind
   .simp only [au] at hb
    obtain ⟨_,q,_⟩:=hc
    grind
   .simp only [au] at hb
    obtain ⟨q,_⟩:=hc
    grind
   .simp at hb
  obtain ⟨ao,hv,hb⟩:=hv
  have hr:=MG (P:=P) (w:=w) hu b hb x (.const (.pointer none))
  have hce:a.eval (.const (.pointer none))=.pointer none:=rfl
  split at e
  .simp only [au] at e
   subst e
   exact ⟨.bool b,by simp only [execOp,ho,hv,hce]; exact bJ hr.1,rfl,rfl⟩
  .simp only [au] at e
   subst e
   exact ⟨.bool (!b),by simp only [execOp,ho,hv,hce]; exact bJ hr.2,rfl,rfl⟩
  .simp at e
 .split at hb
  case h_2=>simp at hb
  rename_i hk
  have hu:=oG.func hk
  have hv:(b=true/\a.eval x=.nilFunc)∨(b=false/\∃ f m vs,a.eval x=.func f m vs):=by
   unfold Ud at hb
   split at hb
   .simp only [au] at hb
    obtain ⟨vs,q,_⟩:=hc
    grind
   .simp only [au] at hb
    obtain ⟨vs,q,_⟩:=hc
    grind
   .simp only [au] at hb
    obtain ⟨q,_⟩:=hc
    grind
   .simp at hb
  have hr:=LZ (P:=P) (w:=w) hu b hv x (.const .nilFunc)
  have hce:a.eval (.const .nilFunc)=.nilFunc:=rfl
  split at e
  .simp only [au] at e
   subst e
   exact ⟨.bool b,by simp only [execOp,ho,hce]; exact bJ hr.1,rfl,rfl⟩
  .simp only [au] at e
   subst e
   exact ⟨.bool (!b),by simp only [execOp,ho,hce]; exact bJ hr.2,rfl,rfl⟩
  .simp at e
 .simp at hb
theorem DB {b:Int} (h:geB b=true):0<=b:=by
 cases b with
 | ofNat k=>grind
 | negSucc k=>simp [geB] at h
theorem Kg {op:BinOp} {a b:Int} {z:Value} (e:xl op a b=some z):BN op (.int .i64 a) (.int .i64 b)=some z∨(BN op (.int .i64 a) (.int .i64 b)=none/\∃ p,yB op (.int .i64 a) (.int .i64 b)=some (p,z)/\p):=by
 cases op
 case quo=>
  right
  refine ⟨rfl,b≠0,?_,?_⟩<;>(simp only [xl] at e; cases hb:b==0<;>rw [hb] at e<;>simp_all [yB])
 case rem=>
  right
  refine ⟨rfl,b≠0,?_,?_⟩<;>(simp only [xl] at e; cases hb:b==0<;>rw [hb] at e<;>simp_all [yB])
 case shl=>
  right
  simp only [xl] at e
  obtain ⟨h1,e⟩:=Bool.aw e
  exact ⟨rfl,0<=b,by simp only [yB,au] at e ⊢; rw [e],DB h1⟩
 case shr=>
  right
  simp only [xl] at e
  obtain ⟨h1,e⟩:=Bool.aw e
  exact ⟨rfl,0<=b,by simp only [yB,au] at e ⊢; rw [e],DB h1⟩
 case and=>left; exact e
 case andNot=>left; exact e
 all_goals grind [xl,BN]
theorem yL {v:Value} {n:Int} (e:Hi v=some n):v=.int .i64 n:=by
 unfold Hi at e
 grind
theorem xp {v:Value} {b:Bool} (e:zF v=some b):v=.bool b:=by
 unfold zF at e
 grind
theorem HW (bC:cZ P T) (h:R T N ax w0 sp s a w E) (hn:bw s.sl) {o:Oper} {op:BinOp} {t t2:TypeId} {x y:Operand} (ho:o.op=.binOp op t x y t2) {d:D} (e:wO T s op t x y=some d):cq P ax s a w E o d:=by
 unfold wO at e
 split at e
 .rename_i hy; exact Ew bC h hn ho hy e
 split at e
 .exact E7 bC h hn ho e
 rename_i hy
 split at e
 .rename_i u v hu hv
  have hu:=de hn (lF hu)
  have hv:=de hn (lF hv)
  split at e
  case h_2=>simp at e
  rename_i z hz
  simp only [au] at e
  subst e
  unfold HZ at hz
  split at hz
  .rename_i n m nr hm'
   have nr:=yL nr
   have hm':=yL hm'
   subst nr hm'
   rcases Kg hz with hz|⟨hz,p,hz2,hp⟩
   .exact cq.cx (p:=none) bC h (by simp only [ho,aZ,hu,hv,hz]) trivial
   .exact cq.cx (p:=some p) bC h (by simp only [ho,aZ,hu,hv,hz,hz2]) hp
  .split at hz
   .rename_i b c hb hc
    have hb:=xp hb
    have hc:=xp hc
    subst hb hc
    unfold YL at hz
    split at hz
    case h_2=>simp at hz
    rename_i Cf ie z0 oG
    split at hz
    .simp only [au] at hz; subst hz
     exact cq.cx (p:=none) bC h (by simp only [ho,aZ,hu,hv,oG]) trivial
    .simp only [au] at hz; subst hz
     exact cq.cx (p:=none) bC h (by simp only [ho,aZ,hu,hv,oG]) trivial
    .simp at hz
   .rename_i hnb
    refine cq.cx (p:=none) bC h ?_ trivial
    simp only [ho,aZ,hu,hv]
    split
    .rename_i b c hb hc
     simp only [au,D.c.injEq,C.im.injEq,I.v.injEq] at hb hc
     subst hb hc
     exact (hnb _ _ rfl rfl).elim
    all_goals grind
 .split at e
  case h_2=>simp at e
  rename_i l m hl hm
  have hl:=de hn (zM hl)
  have hm:=de hn (zM hm)
  unfold eqF at e
  split at e
  case h_2=>simp at e
  rename_i ks hks
  split at e
  case h_2=>simp at e
  rename_i b hb
  split at e
  .simp only [au] at e; subst e
   exact cq.cx (p:=none) bC h (by simp only [ho,aZ,hl,hm,hks,hb]) trivial
  .simp only [au] at e; subst e
   exact cq.cx (p:=none) bC h (by simp only [ho,aZ,hl,hm,hks,hb]) trivial
  .simp at e
theorem Kr (bC:cZ P T) (h:R T N ax w0 sp s a w E) (hn:bw s.sl) {o:Oper} {op:UnOp} {t:TypeId} {x:Operand} (ho:o.op=.unOp op t x) {d:D} (e:unF s op x=some d):cq P ax s a w E o d:=by
 unfold unF at e
 split at e
 .split at e
  case h_2=>simp at e
  rename_i b hb
  simp only [au] at e; subst e
  exact cq.cx (p:=none) bC h (by simp only [ho,aZ,de hn (eB hb)]) trivial
 .split at e
  case h_2=>simp at e
  rename_i b hb
  simp only [au] at e; subst e
  exact cq.cx (p:=none) bC h (by simp only [ho,aZ,de hn (dA hb)]) trivial
 .simp at e
theorem yn (bC:cZ P T) (h:R T N ax w0 sp s a w E) (hn:bw s.sl) {o:Oper} {x:Operand} (ho:o.op=.nilCheck x) {d:D} (e:vq s x=some d):cq P ax s a w E o d:=by
 unfold vq at e
 split at e
 case h_2=>simp at e
 rename_i c hc
 have hc:=de hn (bT hc)
 split at e<;>first|(simp at e; done)|(simp only [au] at e; subst e; exact cq.cx (p:=none) bC h (by simp only [ho,aZ,hc]) trivial)
theorem A4 (bC:cZ P T) (h:R T N ax w0 sp s a w E) (hn:bw s.sl) {o:Oper} {t:TypeId} {x:Operand} {f:Nat} (ho:o.op=.fieldAddr t x f) {d:D} (e:B0 T s t x f=some d):cq P ax s a w E o d:=by
 unfold B0 at e
 split at e
 case h_2=>simp at e
 rename_i Cf ie z0 fs hy
 split at e
 case h_2=>simp at e
 rename_i p hp
 rw [bV] at hp
 obtain ⟨o1,sz⟩:=p
 split at e
 case h_2=>simp at e
 rename_i c hc
 have hc:=de hn (bT hc)
 obtain ⟨fw,e⟩:=Bool.aw e
 unfold QM at e
 split at e
 .simp only [au] at e; subst e
  exact cq.cx (p:=none) bC h (by simp only [ho,aZ,hy,hp,fw,hc]) trivial
 .obtain ⟨hle,e⟩:=Bool.aw e
  simp only [au] at e; subst e
  exact cq.cx (p:=none) bC h (by simp only [ho,aZ,hy,hp,fw,hc,hle]) trivial
 .simp at e
theorem rq {i:Int} {n:Nat} (h:dm i n=true):0<=i/\i<(n:Int):=by
 unfold dm at h
 split at h
 all_goals simp_all
theorem wS {i:Int} {n:Nat} (h:Li i n=true):0<=i/\i<=(n:Int):=by
 unfold Li at h
 split at h
 all_goals simp_all
theorem pT {t:Nat} {y:Ty} (e:sv T t=some y):∃ Cf ie z0 el,T.ty t=some ⟨Cf,ie,z0,.slice el⟩/\T.ty el=some y:=by
 grind [sv]
theorem b6.array {P:Program} {t:TypeId} {y:Ty} (h:b6 P t y) {n e:Nat} (hk:y.kd=.array n e):P.underlying t=some (.array n e):=by
 have:=h.kd
 grind [tu]
theorem zb {t:Nat} {n:Nat} {y:Ty} (e:JV T t=some (n,y)):∃ Cf ie z0 el,T.ty t=some ⟨Cf,ie,z0,.array n el⟩/\T.ty el=some y:=by
 grind [JV]
theorem Am (bC:cZ P T) (h:R T N ax w0 sp s a w E) (hn:bw s.sl) {o:Oper} {t:TypeId} {x ix:Operand} (ho:o.op=.indexAddr t x ix) {n:Nat} {y:Ty} (hy:JV T t=some (n,y)) {i:Int} (hi:gU (ch s.sl ix)=some i) {c:C} (hc:cR (ch s.sl x)=some c) {d:D} (e:AA n y.size i c=some d):cq P ax s a w E o d:=by
 obtain ⟨Cf,ie,z0,el,hy1,hy2⟩:=zb hy
 have hu:=(bC.ty _ _ hy1).array rfl
 have hye:=bC.ty _ _ hy2
 replace hi:=(h.ch hn (dA hi)).1
 replace hc:=h.ch hn (bT hc)
 unfold AA at e
 split at e
 .rename_i r k j
  obtain ⟨h1,e⟩:=Bool.aw e
  simp only [au] at e
  subst e
  obtain ⟨h2,h3⟩:=rq h1
  obtain ⟨b,sz,iL,hv⟩:=hc
  refine ⟨.pointer (some ((⟨b,k*sz+j,none⟩:Addr).add (i.toNat*y.size))),?_,b,sz,iL,?_⟩
  .simp only [execOp,ho,hv,hi]
   refine bJ ?_
   simp [Instr.indexAt,run_underlying hu,asIntOf,Instr.sureAddr,h2,h3,run_sizeOf hye.sz]
  grind [Addr.add_mid]
 .simp at e
theorem BO (bC:cZ P T) (h:R T N ax w0 sp s a w E) (hn:bw s.sl) {o:Oper} {t:TypeId} {x ix:Operand} (ho:o.op=.indexAddr t x ix) {n:Nat} {y:Ty} (hy:JV T t=some (n,y)) {i:Int} (hi:gU (ch s.sl ix)=some i) {c:C} (hc:cR (ch s.sl x)=some c) {d:D} (e:wC T n y.size i c=some d):cq P ax s a w E o d:=by
 unfold wC at e
 split at e
 case h_2=>exact Am bC h hn ho hy hi hc e
 rename_i q
 obtain ⟨Cf,ie,z0,el,hy1,hy2⟩:=zb hy
 have hu:=(bC.ty _ _ hy1).array rfl
 have hye:=bC.ty _ _ hy2
 replace hi:=(h.ch hn (dA hi)).1
 replace hc:=h.ch hn (bT hc)
 unfold FM at e
 split at e
 case h_2=>simp at e
 rename_i g hg
 obtain ⟨h0,e⟩:=Bool.aw e
 obtain ⟨h1,e⟩:=Bool.aw e
 simp only [au] at e
 subst e
 have h0:=cg h0
 obtain ⟨h2,h3⟩:=rq h1
 obtain ⟨ad,g1,g2,g3,g4,g5⟩:=h.fS q g hg
 simp only [Value.pointer.injEq,au] at g1
 subst g1
 have hv:a.eval x=.pointer (some ⟨q,0,none⟩):=hc
 have eG:i.toNat*y.size+y.size<=n*y.size:=by
  have:i.toNat+1<=n:=by omega
  have:=gP y.size this
  grind
 refine ⟨.pointer (some ((⟨q,0,none⟩:Addr).add (i.toNat*y.size))),?_,_,rfl,?_,?_,?_,λj hj=>?_⟩
 .simp only [execOp,ho,hv,hi]
  refine bJ ?_
  simp [Instr.indexAt,run_underlying hu,asIntOf,Instr.sureAddr,h2,h3,run_sizeOf hye.sz]
 .rw [Addr.add_mid]
 .rw [Addr.add_mid]; exact g3
 .rw [Addr.add_mid]; exact g4
 .obtain ⟨z,q1,q2⟩:=g5 (i.toNat*y.size+j) (by rw [<- h0]; omega)
  grind [Addr.add_mid]
theorem CI (bC:cZ P T) (h:R T N ax w0 sp s a w E) (hn:bw s.sl) {o:Oper} {t:TypeId} {x ix:Operand} (ho:o.op=.indexAddr t x ix) {d:D} (e:mU T s t x ix=some d):cq P ax s a w E o d:=by
 unfold mU at e
 split at e
 .grind [BO]
 split at e
 case h_2=>simp at e
 rename_i y hy
 obtain ⟨Cf,ie,z0,el,hy1,hy2⟩:=pT hy
 split at e
 case h_2=>simp at e
 rename_i i hi
 have hi:=de hn (dA hi)
 split at e
 case h_2=>simp at e
 rename_i c hc
 have hc:=de hn (bT hc)
 unfold qg at e
 split at e
 .obtain ⟨h1,e⟩:=Bool.aw e
  obtain ⟨h2,e⟩:=Bool.aw e
  simp only [au] at e; subst e
  refine cq.cx (p:=some _) bC h (by simp only [ho,aZ,hy1,hy2,hi,hc,h1]) (rq h2)
 .split at e
  case h_4=>simp at e
  all_goals
   rename_i hl
   rw [bV] at hl
   obtain ⟨h1,e⟩:=Bool.aw e
   obtain ⟨h2,e⟩:=Bool.aw e
   simp only [au] at e; subst e
   refine cq.cx (p:=some _) bC h (by simp only [ho,aZ,hy1,hy2,hi,hc,hl,h1]) (rq h2)
 .simp at e
theorem xB (hn:bw s.sl) {t:TypeId} {x:Operand} {d:D} (e:ki T s t x=some d):∃ p,aZ T s [] (.load t x)=some (p,d)/\need p:=by
 unfold ki at e
 split at e
 case h_2=>simp at e
 rename_i y hy
 split at e
 case h_2=>simp at e
 rename_i c hc
 have hc:=de hn (bT hc)
 have box:∀ {l:List C} {j:Nat},sc y l j=some d->(match y.kd.agg with
   | true=>match takeN y.size (yc j l) with
     | some cs=>some (none,D.a cs)
     | none=>none
   | false=>match nth l j with
     | some c=>some (none,.c c)
     | none=>none)=some ((none:Option Prop),d):=by
  grind [sc,bV]
 unfold rp at e
 split at e
 .rename_i r i j
  unfold wX at e
  split at e
  .rename_i l hl
   rw [bV] at hl
   split at e
   .simp only [aZ,hy,hc,hl]
    exact ⟨_,box e,trivial⟩
   .simp at e
  .rename_i sz n l hl
   rw [bV] at hl
   simp only [aZ,hy,hc,hl]
   exact ⟨_,box e,trivial⟩
  .rename_i el sz n get hl
   rw [bV] at hl
   unfold Ie at e
   split at e
   .rename_i hagg
    obtain ⟨h1,e⟩:=Bool.aw e
    obtain ⟨h2,e⟩:=Bool.aw e
    simp only [au] at e; subst e
    exact ⟨some (_<n),by simp only [aZ,hy,hc,hl,hagg,h1],aM h2⟩
   .rename_i hagg
    obtain ⟨h1,e⟩:=Bool.aw e
    obtain ⟨h2,e⟩:=Bool.aw e
    simp only [au] at e; subst e
    exact ⟨some (_<n),by simp only [aZ,hy,hc,hl,hagg,h1],aM h2⟩
  .rename_i el sz n get dJ hl
   rw [bV] at hl
   unfold Ds at e
   split at e
   .rename_i hagg
    obtain ⟨h1,e⟩:=Bool.aw e
    obtain ⟨h2,e⟩:=Bool.aw e
    split at e
    case h_2=>simp at e
    rename_i hg
    simp only [au] at e; subst e
    exact ⟨some (_<n),by simp only [aZ,hy,hc,hl,hagg,h1,hg],aM h2⟩
   .rename_i hagg
    obtain ⟨h1,e⟩:=Bool.aw e
    obtain ⟨h2,e⟩:=Bool.aw e
    split at e
    case h_2=>simp at e
    rename_i hg
    simp only [au] at e; subst e
    exact ⟨some (_<n),by simp only [aZ,hy,hc,hl,hagg,h1,hg],aM h2⟩
  .simp at e
 .rename_i q
  unfold UH at e
  split at e
  case h_2=>simp at e
  rename_i z hz
  split at e
  .simp at e
  .rename_i hagg
   simp only [au] at e; subst e
   exact ⟨none,by simp only [aZ,hy,hc,hagg,hz],trivial⟩
 .rename_i n get
  unfold NV at e
  split at e
  .rename_i hagg
   obtain ⟨h1,e⟩:=Bool.aw e
   simp only [au] at e; subst e
   exact ⟨none,by simp only [aZ,hy,hc,hagg,h1],trivial⟩
  .rename_i hagg
   obtain ⟨h1,e⟩:=Bool.aw e
   simp only [au] at e; subst e
   exact ⟨none,by simp only [aZ,hy,hc,hagg,h1],trivial⟩
 .simp at e
theorem xV (bC:cZ P T) (h:R T N ax w0 sp s a w E) (hn:bw s.sl) {o:Oper} {x:Operand} {k:Nat} (ho:o.op=.extract x k) {d:D} (e:rL s x k=some d):cq P ax s a w E o d:=by
 unfold rL at e
 split at e
 case h_2=>simp at e
 rename_i l hl
 have hl:=de hn (Kl hl)
 rw [bV] at e
 split at e
 .rename_i cs hc
  simp only [au] at e; subst e
  exact cq.cx (p:=none) bC h (by simp only [ho,aZ,hl,hc]) trivial
 .rename_i cs hc
  simp only [au] at e; subst e
  exact cq.cx (p:=none) bC h (by simp only [ho,aZ,hl,hc]) trivial
 .simp at e
theorem ui (hn:bw s.sl) {fs:List (Nat×Nat)}:∀ {ps:List (Nat×Operand)} {l r:List C},uo fs s.sl ps l=some r->xY fs s [] ps l=some r
 | [],l,r,e=>e
 | p::ps,l,r,e=>by
   obtain ⟨k,x⟩:=p
   have e:(match aR fs k with
    | some o=>match Go.V.ch s.sl x with
      | some d=>match d.cells with
        | some cs=>(Bool.rec none (match put l o.1 cs with
          | some l'=>uo fs s.sl ps l'
          | none=>none) (Nat.beq cs.length o.2&&Nat.blt 0 o.2):Option (List C))
        | none=>none
      | none=>none
    | none=>none)=some r:=e
   split at e
   case h_2=>simp at e
   rename_i o ho
   rw [bV] at ho
   obtain ⟨o1,o2⟩:=o
   split at e
   case h_2=>simp at e
   rename_i d hd
   split at e
   case h_2=>simp at e
   rename_i cs hcs
   obtain ⟨h1,e⟩:=Bool.aw e
   split at e
   case h_2=>simp at e
   rename_i l' uR
   simp only at h1 uR
   simp only [xY,ho,de hn hd,hcs,h1,uR]
   exact ui hn e
theorem AO (bC:cZ P T) (h:R T N ax w0 sp s a w E) (hn:bw s.sl) {o:Oper} {t:TypeId} {ps:Array (Nat×Operand)} (ho:o.op=.build t ps) {d:D} (e:Cz T s t ps.toList=some d):cq P ax s a w E o d:=by
 unfold Cz at e
 split at e
 case h_2=>simp at e
 rename_i y hy
 split at e
 case h_2=>simp at e
 rename_i fs hk
 split at e
 case h_2=>simp at e
 rename_i z hz
 split at e
 case h_2=>simp at e
 rename_i l hl
 simp only [au] at e; subst e
 exact cq.cx (p:=none) bC h (by simp only [ho,aZ,hy,hk,hz,ui hn hl]) trivial
theorem DN (bC:cZ P T) (h:R T N ax w0 sp s a w E) (hn:bw s.sl) {o:Oper} {fn:Fn} {first dQ:Array Operand} (ho:o.op=.makeFunc fn first dQ) {d:D} (e:IB s fn first.toList dQ.toList=some d):cq P ax s a w E o d:=by
 unfold IB at e
 split at e
 case h_2=>simp at e
 split at e
 case h_2=>simp at e
 rename_i hf
 split at e
 .rename_i hc
  simp only [au] at e; subst e
  exact cq.cx (p:=none) bC h (by simp only [ho,aZ,hf,lR hn hc]) trivial
 .rename_i hc
  simp only [au] at e; subst e
  exact cq.cx (p:=none) bC h (by simp only [ho,aZ,hf,lR hn hc]) trivial
 .rename_i hc
  simp only [au] at e; subst e
  exact cq.cx (p:=none) bC h (by simp only [ho,aZ,hf,lR hn hc]) trivial
 .rename_i hc
  simp only [au] at e; subst e
  exact cq.cx (p:=none) bC h (by simp only [ho,aZ,hf,lR hn hc]) trivial
 .simp at e
theorem FA (bC:cZ P T) (h:R T N ax w0 sp s a w E) (hn:bw s.sl) {o:Oper} {c:Call} (ho:o.op=.call c) {d:D} (e:Fp T s c=some d):cq P ax s a w E o d:=by
 unfold Fp at e
 split at e
 case h_2=>simp at e
 rename_i b hb
 have go:fY T b c.argTypes.toList (Fg s [] c.args.toList)=some (none,d)->cq P ax s a w E o d:=λq=>
  cq.cx (p:=none) bC h (by simp only [ho,aZ,hb]; exact q) trivial
 unfold GX at e
 split at e
 .apply go
  unfold O9 at e
  split at e
  case h_2=>simp at e
  rename_i t x hts hxs
  rw [hts,hxs]
  split at e
  .rename_i hy
   split at e
   case h_2=>simp at e
   rename_i cc hc
   have hc:=de hn (bT hc)
   unfold ai0 at e
   grind [fY,Fg]
  .rename_i hy
   split at e
   case h_2=>simp at e
   rename_i b hc
   have hc:=de hn (lF hc)
   grind [fY,Fg]
  .simp at e
 .apply go
  unfold MF at e
  split at e
  case h_2=>simp at e
  rename_i x y hxs
  split at e
  case h_2=>simp at e
  rename_i n m h1 h2
  simp only [au] at e; subst e
  rw [hxs]
  simp only [fY,Fg,de hn (dA h1),de hn (dA h2)]
 .apply go
  unfold OL at e
  split at e
  case h_2=>simp at e
  rename_i x y hxs
  split at e
  case h_2=>simp at e
  rename_i n m h1 h2
  simp only [au] at e; subst e
  rw [hxs]
  simp only [fY,Fg,de hn (dA h1),de hn (dA h2)]
 .simp at e
theorem E8 (n:Int):∀ l:List (Int×FuncId),Pm n l=Ad n l
 | []=>rfl
 | x::l=>by
   show (Bool.rec (Pm n l) (some x.2) (n==x.1):Option FuncId)=Ad n (x::l)
   unfold Ad
   cases n==x.1 with
   | true=>rfl
   | false=>exact E8 n l
theorem zL (bC:cZ P T) (h:R T N ax w0 sp s a w E) (hn:bw s.sl) {o:Oper} {t:TypeId} {x i:Operand} {ok:Bool} (ho:o.op=.lookup t x i ok) {d:D} (e:ZH T s t x i ok=some d):cq P ax s a w E o d:=by
 unfold ZH at e
 obtain ⟨hk,e⟩:=Bool.aw e
 unfold fmK at hk
 split at hk
 case h_2=>simp at hk
 rename_i k el oG
 split at hk
 case h_2=>simp at hk
 rename_i zk hye
 have oG:=(bC.ty _ _ oG).map rfl
 have zk:=(bC.ty _ _ zk).int rfl
 have hye:=bC.ty _ _ hye
 obtain ⟨inf,hin,_,_,hz⟩:=hye.full
 split at e
 case h_2=>simp at e
 rename_i l n hx hi
 simp only [au] at e
 subst e
 obtain ⟨b,es,clock,hx,_,h2,h3⟩:=h.ch hn (bT hx)
 have hi:=(h.ch hn (dA hi)).1
 rw [E8]
 have hu:(Go.underlying t).run P w=.ok (.map k el) w:=by simp [Go.underlying,Go.program,Sem.run,oG]
 have huk:(Go.underlying k).run P w=.ok (.int .i64) w:=by simp [Go.underlying,Go.program,Sem.run,zk]
 have hg':(getObj b).run P w=.ok (.map es clock) w:=by simp [getObj,Sem.run,h2]
 have hz0:(zeroValue el).run P w=.ok .nilFunc w:=by simp [zeroValue,typeInfo,hin,hz]
 rcases h3 n with ⟨h4,h5⟩|⟨q,f,h4,h5⟩
 .have hf:(Instr.findKey k (.int .i64 n) es.toList).run P w=.ok none w:=by simp [Instr.findKey,huk,h4]
  rw [h5]
  cases ok with
  | true=>
    refine ⟨.tuple #[.nilFunc,.bool false],?_,_,rfl,.cons ⟨_,rfl,rfl,rfl⟩ (.cons ⟨_,rfl,rfl,rfl⟩ .nil)⟩
    simp only [execOp,ho,hx,hi]
    refine bJ ?_
    unfold Instr.lookup
    simp [Sem.run_bind,hu,hg',Result.andThen_ok,fq zk,hf,hz0]
  | false=>
    refine ⟨.nilFunc,?_,rfl,rfl⟩
    simp only [execOp,ho,hx,hi]
    refine bJ ?_
    unfold Instr.lookup
    simp [Sem.run_bind,hu,hg',Result.andThen_ok,fq zk,hf,hz0]
 .have hf:(Instr.findKey k (.int .i64 n) es.toList).run P w=.ok (some (q,.func (.func f) #[] #[])) w:=by simp [Instr.findKey,huk,h4]
  rw [h5]
  have hrel:cF (AV ax s.rs E) w (.fn f 0 λ_=>.v (.bool false)) (.func (.func f) #[] #[]):=⟨#[],rfl,rfl,λj hj=>by omega⟩
  cases ok with
  | true=>
    refine ⟨.tuple #[.func (.func f) #[] #[],.bool true],?_,_,rfl,.cons ⟨_,rfl,hrel⟩ (.cons ⟨_,rfl,rfl,rfl⟩ .nil)⟩
    simp only [execOp,ho,hx,hi]
    refine bJ ?_
    unfold Instr.lookup
    simp [Sem.run_bind,hu,hg',Result.andThen_ok,fq zk,hf]
  | false=>
    refine ⟨.func (.func f) #[] #[],?_,hrel⟩
    simp only [execOp,ho,hx,hi]
    refine bJ ?_
    unfold Instr.lookup
    simp [Sem.run_bind,hu,hg',Result.andThen_ok,fq zk,hf]
theorem yv (bC:cZ P T) (h:R T N ax w0 sp s a w E) (hn:bw s.sl) {o:Oper} {t:TypeId} {x i:Operand} {ok:Bool} (ho:o.op=.lookup t x i ok) {d:D} (e:mZ T s t x i ok=some d):cq P ax s a w E o d:=by
 unfold mZ at e
 split at e
 .exact zL bC h hn ho e
 cases hk:KA T t with
 | false=>rw [hk] at e; exact zL bC h hn ho e
 | true=>
 rw [hk] at e
 simp only at e
 unfold KA at hk
 split at hk
 case h_2=>simp at hk
 rename_i hy
 split at hk
 case h_2=>simp at hk
 rename_i hy1 hy2
 split at e
 case h_2=>simp at e
 rename_i c n hc hi
 have hc:=de hn (bT hc)
 have hi:=de hn (dA hi)
 split at e
 case h_2=>simp at e
 rename_i l hl
 simp only [au] at e; subst e
 unfold NH at hl
 split at hl
 .split at hl
  case h_2=>simp at hl
  rename_i hr
  rw [bV] at hr
  simp only [au] at hl; subst hl
  exact cq.cx (p:=none) bC h (by simp only [ho,aZ,hy,hy1,hy2,hc,hi,hr]) trivial
 .simp only [au] at hl; subst hl
  exact cq.cx (p:=none) bC h (by simp only [ho,aZ,hy,hy1,hy2,hc,hi]) trivial
 .simp at hl
theorem A5 (bC:cZ P T) (h:R T N ax w0 sp s a w E) (hn:bw s.sl) {o:Oper} {t:TypeId} {x l:Operand} (ho:o.op=.slice t x (some l) none none) {y:Ty} (hy:sv T t=some y) {c:C} (hc:cR (ch s.sl x)=some c) {q:Int} (hl:gU (ch s.sl l)=some q) {d:D} (e:vK y.size c q=some d):cq P ax s a w E o d:=by
 obtain ⟨Cf,ie,z0,el,hy1,hy2⟩:=pT hy
 have oG:=(bC.ty _ _ hy1).slice rfl
 replace hc:=h.ch hn (bT hc)
 replace hl:=(h.ch hn (dA hl)).1
 unfold vK at e
 split at e
 case h_2=>simp at e
 rename_i sz n get
 obtain ⟨h1,e⟩:=Bool.aw e
 simp only [di] at h1
 obtain ⟨h2,h3⟩:=wS h1.1
 have h4:=cg h1.2
 subst h4
 simp only [au] at e
 subst e
 obtain ⟨ao,cap,hv,g1,g2,g3⟩:=hc
 have he:P.elem t=el:=by simp [Program.elem,oG]
 have ht:P.underlying t=some (.slice (P.elem t)):=by rw [he]; exact oG
 have hqn:q.toNat<=n:=by omega
 have e1:n-q.toNat<=cap-q.toNat:=Nat.sub_le_sub_right g1 _
 have e2:n-q.toNat<=maxLen:=eA (Nat.sub_le _ _) g2
 have e3:0<n-q.toNat->0<n/\cap≠q.toNat:=λh0=>⟨by omega,by omega⟩
 have e4:∀ i,i<n-q.toNat->q.toNat+i<n:=λi hi=>by omega
 refine ⟨sliced ao q.toNat n cap y.size,?_,_,_,rfl,e1,e2,λh0=>?_⟩
 .simp only [execOp,ho,hv,hl,Option.map_some,Option.map_none]
  refine bJ ?_
  rw [run_sliceAt_slice w t _ _ _ _ ht,run_slice_l w t ao n cap ht .i64 q h2 h3,he,run_sizeOf (bC.ty _ _ hy2).sz,Result.andThen_ok]
 grind [xj,block_add,add_add]
theorem AH (bC:cZ P T) (h:R T N ax w0 sp s a w E) (hn:bw s.sl) {o:Oper} {t:TypeId} {x:Operand} {lo hi mx:Option Operand} (ho:o.op=.slice t x lo hi mx) {d:D} (e:kb T s t x lo hi mx=some d):cq P ax s a w E o d:=by
 unfold kb at e
 split at e
 case h_3=>simp at e
 case h_2=>
  grind [A5]
 rename_i hi
 split at e
 case h_2=>simp at e
 rename_i y hy
 obtain ⟨Cf,ie,z0,el,hy1,hy2⟩:=pT hy
 split at e
 case h_2=>simp at e
 rename_i c n hc hh
 have hc:=de hn (bT hc)
 have hh:=de hn (dA hh)
 unfold mW at e
 split at e
 .obtain ⟨h1,e⟩:=Bool.aw e
  simp only [au] at e; subst e
  exact cq.cx (p:=some _) bC h (by simp only [ho,aZ,hy1,hy2,hc,hh]) (wS h1)
 .split at e
  case h_4=>simp at e
  all_goals
   rename_i hl
   rw [bV] at hl
   obtain ⟨h1,e⟩:=Bool.aw e
   simp only [au] at e; subst e
   exact cq.cx (p:=some _) bC h (by simp only [ho,aZ,hy1,hy2,hc,hh,hl]) (wS h1)
 .obtain ⟨h1,e⟩:=Bool.aw e
  simp only [au] at e; subst e
  exact cq.cx (p:=some _) bC h (by simp only [ho,aZ,hy1,hy2,hc,hh]) (show n=0 by simpa using h1)
 .simp at e
theorem Gv (bC:cZ P T) (h:R T N ax w0 sp s a w E) (hn:bw s.sl) {o:Oper} {t t':TypeId} {x:Operand} (ho:o.op=.convert t t' x) {d:D} (e:Tj T s t t' x=some d):cq P ax s a w E o d:=by
 unfold Tj at e
 split at e
 case h_2=>simp at e
 rename_i y z b v hy hz
 split at e
 case h_2=>simp at e
 rename_i n hx
 simp only [au] at e
 subst e
 have hx:=(h.ch hn (bT hx)).1
 obtain ⟨u,hu,_⟩:=(bC.ty _ _ hy).und
 have hu':=(bC.ty _ _ hz).int rfl
 refine ⟨.int .i64 (IntKind.i64.wrap n),?_,rfl,rfl⟩
 simp only [execOp,ho,hx]
 simp [convert,run_underlying hu,run_underlying hu',Sem.run_bind,Conv.intToInt]
theorem E5 (bC:cZ P T) (h:R T N ax w0 sp s a w E) (hn:bw s.sl) {o:Oper} {d:D} (e:eN T s o.op=some d):cq P ax s a w E o d:=by
 generalize hop:o.op=op at e
 cases op with
 | move x=>exact cq.cx (p:=none) bC h (by simp only [hop,aZ,de hn (show Go.V.ch s.sl x=some d from e)]) trivial
 | assign x=>exact cq.cx (p:=none) bC h (by simp only [hop,aZ,de hn (show Go.V.ch s.sl x=some d from e)]) trivial
 | pick c x y=>exact Eo h hn hop e
 | binOp op t x y t2=>exact HW bC h hn hop e
 | unOp op t x=>exact Kr bC h hn hop e
 | nilCheck x=>exact yn bC h hn hop e
 | fieldAddr t x f=>exact A4 bC h hn hop e
 | indexAddr t x i=>exact CI bC h hn hop e
 | load t x=>
   obtain ⟨p,h1,h2⟩:=xB hn e
   grind [cq.cx]
 | extract x k=>exact xV bC h hn hop e
 | build t ps=>exact AO bC h hn hop e
 | makeFunc fn first dQ=>exact DN bC h hn hop e
 | call c=>exact FA bC h hn hop e
 | lookup t x i ok=>exact yv bC h hn hop e
 | slice t x lo hi mx=>exact AH bC h hn hop e
 | convert t t2 x=>exact Gv bC h hn hop e
 | _=>exact absurd e (by simp [eN])
end
open Go.RowKit
theorem Kz (x:ae) (rs:List ae):place rs.length x rs=rs++[x]:=by simp [place,gu]
theorem gJ {b:Nat} (x:ae) {rs:List ae} (h:b<rs.length):place b x rs=rs.set b x:=by
 have:Nat.beq b rs.length=false:=by
  grind [Nat.eq_of_beq_eq_true]
 simp [place,this,ba]
section
variable {P:Program} {T:dk} {N:Nat} {ax:Nat->Prop} {w0:Kp} {sp:List (D×Value)} {s:VS} {a:Act} {w:World} {E:Env}
def kG (s:VS) (E:Env) (b:Nat):Prop:=(s.rs[b]?=some .dead/\E[b]?=some hole)∨b=s.rs.length
structure lN (b:Nat) (E E':Env):Prop where
 le:Env.le E E'
 free:∀ q,q≠b->E[q]?=some hole->E'[q]?=some hole
theorem lN.refl (b:Nat) (E:Env):lN b E E:=⟨Env.le_refl E,λ_ _ h=>h⟩
theorem R.make (h:R T N ax w0 sp s a w E) {b:Nat} (hf:kG s E b) {dead:Option Nat} {x:ae} {e:fJ} {w':World} {row:Option Nat}
  (hg:w.grownBy w' row)
  (mA:∀ k,row=some k->∃ r y q,dead=some r/\s.rs[r]?=some y/\y.live/\bh E r k q)
  (jg:∀ k,e.1=some k->some k=row∨w.heap.size<=k) (eG:∀ k,e.1=some k->k<w'.heap.size)
  (hx:∀ E' cG,Env.le E E'->(∀ k,k<w.heap.size->cG k->AV ax s.rs E k)->(∀ k,cG k->AV ax s.rs E k∨e.has k)->aW (AV ax s.rs E) w w'->aO E' cG w0.base w' e x)
  (sZ:∀ k,e.2.1.2 k->(∃ r y q,dead=some r/\s.rs[r]?=some y/\y.live/\cM E r k q)∨(w.heap.size<=k/\k<w'.heap.size):=by intro k hk; exact hk.elim) :
  ∃ E',R T N ax w0 sp { s with rs:=place b x (kill dead s.rs) } a w' E'/\E'[b]?=some e/\lN b E E'/\(∀ k,k<w.heap.size->AV ax (place b x (kill dead s.rs)) E' k->AV ax s.rs E k)/\∀ k,AV ax (place b x (kill dead s.rs)) E' k->AV ax s.rs E k∨e.has k:=by
 have hkl:(kill dead s.rs).length=s.rs.length:=by cases dead<;>simp [kill]
 rcases hf with ⟨hb,hE⟩|rfl
 .have hbl:b<(kill dead s.rs).length:=by grind
  have hbE:b<E.length:=(List.getElem?_eq_some_iff.1 hE).1
  obtain ⟨h1,h2,ic⟩:=h.at (b:=b) (dead:=dead) (x:=x) (e:=e) (w':=w') (row:=row) hb hE hg mA jg eG (λeT si hk=>hx _ _ (Env.wy e hE) eT si hk) sZ
  rw [gJ x hbl]
  refine ⟨_,h1,by grind,⟨Env.wy e hE,λq hq h3=>?_⟩,h2,ic⟩
  grind
 .have h0:=h.UN 1
  have hle:Env.le E (E++List.replicate 1 hole):=Env.et _ _
  have NK:(s.rs++List.replicate 1 ae.dead)[s.rs.length]?=some .dead:=by simp
  have hEs:(E++List.replicate 1 hole)[s.rs.length]?=some hole:=by rw [<- h.len]; simp
  have hav0:∀ k,AV ax (s.rs++List.replicate 1 .dead) (E++List.replicate 1 hole) k->AV ax s.rs E k:=by
   rintro k (q|⟨r,y,sz,h1,h2,hh,h3⟩)
   .exact .inl q
   .rcases Nat.lt_or_ge r s.rs.length with hr|hr
    .rw [iU hr] at h1
     rw [iU (by rw [h.len]; exact hr)] at h3
     exact .inr ⟨r,y,sz,h1,h2,hh,h3⟩
    .rw [nD hr,List.getElem?_replicate] at h1
     split at h1
     .simp only [au] at h1; subst h1; exact h2.elim
     .simp at h1
  have hav1:∀ k,AV ax s.rs E k->AV ax (s.rs++List.replicate 1 .dead) (E++List.replicate 1 hole) k:=by
   rintro k (q|⟨r,y,sz,h1,h2,h3⟩)
   .exact .inl q
   .exact .inr ⟨r,y,sz,by grind,h2,C5 _ h3⟩
  obtain ⟨h1,h2,ic⟩:=h0.at (b:=s.rs.length) (dead:=dead) (x:=x) (e:=e) (w':=w') (row:=row) NK hEs hg (λk hk=>by
   obtain ⟨r,y,q,h3,h4,h5,h6⟩:=mA k hk
   exact ⟨r,y,q,h3,by grind,h5,hle.at_ h6⟩) jg eG
   (λeT si hk=>hx _ _ (hle.trans (Env.wy e hEs)) (λk nG q=>hav0 k (eT k nG q)) (λk q=>(si k q).imp (hav0 k) id) ⟨hk.size,λk nG hn=>hk.same k nG λq=>hn (hav0 k q)⟩) (λk hk=>by
   rcases sZ k hk with ⟨r,y,q,h3,h4,h5,h6⟩|h7
   .exact .inl ⟨r,y,q,h3,by grind,h5,C5 _ h6⟩
   .exact .inr h7)
  have hk2:(kill dead (s.rs++List.replicate 1 .dead)).set s.rs.length x=place s.rs.length x (kill dead s.rs):=by
   rw [<- hkl,Kz]
   cases dead with
   | none=>simp [kill]
   | some r=>
     grind [kill,List.set_eq_of_length_le]
  simp only at h1 h2 ic
  rw [hk2] at h1 h2 ic
  refine ⟨_,h1,?_,⟨hle.trans (Env.wy e hEs),λq hq h3=>?_⟩,λk hk q=>hav0 k (h2 k hk q),λk q=>(ic k q).imp (hav0 k) id⟩
  all_goals grind
def dH (e:cn):Option D:=match e with
 | .val d=>some d
 | .wr d _=>d
 | .all d _=>some d
 | .ct _=>none
def iC (T:dk) (N:Nat) (ax:Nat->Prop) (w0:Kp) (sp:List (D×Value)) (s:VS) (a:Act) (w:World) (E:Env) (b:Nat) (e:cn) (v:Value) (w':World) (E':Env):Prop:=
 lN b E E'/\R T N ax w0 sp { s with rs:=C9 e s.rs } a w' E'/\∀ d,dH e=some d->aQ E' (AV ax (C9 e s.rs) E') w' d v
theorem NN {α:Type} (l m:List α) (o k n:Nat) (hm:m.length=k) (h:o+k<=n) (hn:n<=l.length):(l.take o++m++l.drop (o+k)).take n=(l.take n).take o++m++(l.take n).drop (o+k):=by
 apply List.ext_getElem?
 grind
theorem pq (get:Nat->I):∀ (n o q:Nat),q<n->(dq get o n)[q]?=some (.im (get (o+q)))
 | 0,_,_,h=>by omega
 | n+1,o,0,_=>by simp [dq]
 | n+1,o,q+1,h=>by
   simp only [dq,List.getElem?_cons_succ]
   rw [pq get n (o+1) q (by omega)]
   congr 3; omega
theorem gB (get:Nat->I):∀ (n o:Nat),(dq get o n).length=n
 | 0,_=>rfl
 | n+1,o=>by simp [dq,gB get n]
theorem sO (get:Nat->Nat->I) (sz i n:Nat):uI get sz i (n+1)=dq (get i) 0 sz++uI get sz (i+1) n:=rfl
theorem mh (get:Nat->Nat->I) (sz:Nat):∀ (n i:Nat),(uI get sz i n).length=n*sz
 | 0,_=>by simp; rfl
 | n+1,i=>by rw [sO,List.length_append,gB,mh get sz n,Nat.add_mul,Nat.one_mul]; omega
theorem nX (get:Nat->Nat->I) (sz:Nat):∀ (n i k j:Nat),k<n->j<sz->(uI get sz i n)[k*sz+j]?=some (.im (get (i+k) j))
 | 0,_,_,_,h,_=>by omega
 | n+1,i,0,j,_,hj=>by
   grind [sO,gB,pq]
 | n+1,i,k+1,j,h,hj=>by
   have:(k+1)*sz+j=sz+(k*sz+j):=by grind
   rw [sO,nD (by rw [gB]; omega),gB,show (k+1)*sz+j-sz=k*sz+j by omega,nX get sz n (i+1) k j (by omega) hj]
   congr 3; omega
theorem az.Gc {α β:Type} {Rr:α->β->Prop}:∀ {l:List α} {m:List β},l.length=m.length->(∀ (i:Nat) (x:α),l[i]?=some x->∃ y,m[i]?=some y/\Rr x y)->az Rr l m
 | [],[],_,_=>.nil
 | x::l,y::m,h,k=>by
   obtain ⟨y',h1,h2⟩:=k 0 x rfl
   simp only [List.getElem?_cons_zero,au] at h1
   subst h1
   exact .cons h2 (az.Gc (by simpa using h) λi x hx=>by simpa using k (i+1) x (by simpa using hx))
 | [],_::_,h,_=>by simp at h
 | _::_,[],h,_=>by simp at h
theorem R.swap (h:R T N ax w0 sp s a w E) {r:Nat} {x y:ae} (hr:s.rs[r]?=some x) (hl:y.live->x.live)
  (hx:∀ e av,aO E av w0.base w e x->(∀ b,av b->AV ax s.rs E b)->aO E av w0.base w e y):R T N ax w0 sp { s with rs:=s.rs.set r y } a w E:=by
 have eG:r<s.rs.length:=(List.getElem?_eq_some_iff.1 hr).1
 have key:∀ (q:Nat) (z:ae),(s.rs.set r y)[q]?=some z->z.live->∃ z',s.rs[q]?=some z'/\z'.live/\(z=z'∨(q=r/\z=y/\z'=x)):=by
  grind
 have eT:∀ b,AV ax (s.rs.set r y) E b->AV ax s.rs E b:=by
  rintro b (q|⟨q,z,sz,h1,h2,h3⟩)
  .exact .inl q
  .obtain ⟨z',h4,h5,_⟩:=key q z h1 h2
   exact .inr ⟨q,z',sz,h4,h5,h3⟩
 refine h.zP (aG:=s.rs.set r y) (Env.le_refl E) (aW.refl _ w) h.below (λb _ q=>eT b q) (by simpa using h.len) ?_ ?_ ?_
 .intro q z e h1 h2
  by_cases hz:z.live
  .obtain ⟨z',h4,h5,h6⟩:=key q z h1 hz
   have h7:=aO.mono (Env.le_refl E) (aW.refl _ w) (λb _ q=>eT b q) (λ_ _ _=>rfl) (h.roots q z' e h4 h2)
   grind
  .cases z with
   | dead=>trivial
   | _=>exact (hz trivial).elim
 .intro q z b sz h1 h2 h3
  obtain ⟨z',h4,h5,_⟩:=key q z h1 h2
  exact h.cJ q z' b sz h4 h5 h3
 .intro q q' z z' b sz cL h1 nA h2 ic h3 ld
  obtain ⟨u,h4,h5,_⟩:=key q z h1 h2
  obtain ⟨u',h4',h5',_⟩:=key q' z' nA ic
  exact h.dz q q' u u' b sz cL h4 h4' h5 h5' h3 ld
theorem Q3 {E:Env} {av:Nat->Prop} {base:Nat} {w:World} {e:fJ} {el sz n:Nat} {get:Nat->Nat->I} (h:aO E av base w e (.arr el sz n get)):aO E av base w e (.row el sz n (uI get sz 0 n)):=by
 obtain ⟨h1,h2,xs,h3,h4⟩:=h
 refine ⟨h1,h2,xs,h3,az.Gc (by rw [mh,h3.1]) λq x hx=>?_⟩
 have hq:q<n*sz:=by grind [mh]
 have hz:0<sz:=by
  grind
 have e1:q/sz*sz+q%sz=q:=by rw [Nat.mul_comm]; exact Nat.div_add_mod q sz
 have hk:q/sz<n:=Nat.div_lt_of_lt_mul (by grind)
 have hm:q%sz<sz:=Nat.mod_lt _ hz
 obtain ⟨y,h7,h8⟩:=h4 (q/sz) hk (q%sz) hm
 have h9:=nX get sz n 0 (q/sz) (q%sz) hk hm
 rw [e1] at h7 h9
 rw [hx] at h9
 simp only [Nat.zero_add,au] at h9
 subst h9
 exact ⟨y,h7,h8⟩
theorem SS {E:Env} {av:Nat->Prop} {base:Nat} {w:World} {e:fJ} {el sz n:Nat} {l:List C} {get:Nat->Nat->I} (h:aO E av base w e (.row el sz n l)) (hl:∀ i,i<n->∀ j,j<sz->l[i*sz+j]?=some (.im (get i j))):aO E av base w e (.arr el sz n get):=by
 obtain ⟨h1,h2,xs,h3,h4⟩:=h
 refine ⟨h1,h2,xs,h3,λi hi j hj=>?_⟩
 obtain ⟨y,h5,h6⟩:=h4.nth (i:=i*sz+j) (x:=.im (get i j)) (by rw [bg]; exact hl i hi j hj)
 exact ⟨y,h5,h6⟩
theorem SL (get:Nat->Nat->I) (i j:Nat) (ys:List I):GM get i j ys=zP get i j ys:=by
 funext i' j'
 unfold GM zP
 by_cases h:i'=i/\j<=j'/\j'<j+ys.length
 .rw [if_pos h]
  obtain ⟨rfl,h2,h3⟩:=h
  have e1:Nat.beq i' i'=true:=gu i'
  have e2:Nat.ble j j'=true:=Nat.ble_eq▸h2
  have e3:Nat.blt j' (j+ys.length)=true:=by simp_all
  rw [e1,e2,e3]; rfl
 .rw [if_neg h]
  cases hb:(Nat.beq i' i&&(Nat.ble j j'&&Nat.blt j' (j+ys.length))) with
  | false=>rfl
  | true=>
    simp only [di] at hb
    exact (h ⟨cg hb.1,dR hb.2.1,aM hb.2.2⟩).elim
theorem TQ (n:Nat) (get get':Nat->Nat->I):kB n get get'=app n get get':=by
 funext i j
 unfold kB app
 by_cases h:i<n
 .rw [if_pos h,(by simp_all:Nat.blt i n=true)]
 .rw [if_neg h]
  cases hb:Nat.blt i n with
  | false=>rfl
  | true=>exact (h (aM hb)).elim
theorem kQ:∀ ys:List I,(lift ys).length=ys.length
 | []=>rfl
 | y::ys=>by simp [lift,kQ ys]
theorem oV:∀ {ys:List I} {j:Nat},j<ys.length->(lift ys)[j]?=some (.im (iA ys j))
 | [],j,h=>by simp at h
 | y::ys,0,h=>rfl
 | y::ys,j+1,h=>by
   have:=oV (ys:=ys) (j:=j) (by simpa using h)
   simpa [lift,iA,nth] using this
structure StN (get:Nat->Nat->O) (dJ:Option (Nat×List Fc)) (get':Nat->Nat->O) (lu:Option (Nat×List Fc)) (i j:Nat) (cs:List C):Prop where
 out:∀ i' j',¬ (i'=i/\j<=j'/\j'<j+cs.length)->fR get' lu i' j'=fR get dJ i' j'
 in_:∀ k,k<cs.length->∃ c x,cs[k]?=some x/\fR get' lu i (j+k)=some c/\(c=.c x∨∃ y,x=.im y/\c=.o (.im y))
 dJ:∀ {n sz:Nat},(∀ x,dJ=some x->x.1<n/\x.2.length=sz)->∀ x,lu=some x->x.1<n/\x.2.length=sz
theorem zd:∀ {ys:List C} {l r:List Fc} {o:Nat},OB ys l o=some r->r.length=l.length/\(∀ q,¬ (o<=q/\q<o+ys.length)->r[q]?=l[q]?)/\∀ (k:Nat) (y:C),ys[k]?=some y->r[o+k]?=some (.c y)
 | [],l,r,o,h=>by
   have h:some l=some r:=h
   grind
 | y::ys,l,r,o,h=>by
   have h:(match aR l o with
    | some _=>OB ys (setAt l o (.c y)) (o+1)
    | none=>none)=some r:=h
   split at h
   case h_2=>simp at h
   rename_i z hz
   rw [bV,bg] at hz
   have ho:o<l.length:=(List.getElem?_eq_some_iff.1 hz).1
   obtain ⟨h1,h2,h3⟩:=zd h
   rw [ba] at h1 h2
   grind
theorem TW (get:Nat->Nat->O) (i j k:Nat) (ys:List I) (h:k<ys.length):JQ get i j ys i (j+k)=.im (iA ys k):=by
 have h1:(Nat.beq i i&&(Nat.ble j (j+k)&&Nat.blt (j+k) (j+ys.length)))=true:=by
  simp_all
 unfold JQ
 rw [h1]
 grind
theorem PM (get:Nat->Nat->O) (i j i' j':Nat) (ys:List I) (h:¬ (i'=i/\j<=j'/\j'<j+ys.length)):JQ get i j ys i' j'=get i' j':=by
 have h1:(Nat.beq i' i&&(Nat.ble j j'&&Nat.blt j' (j+ys.length)))=false:=by
  rw [Bool.eq_false_iff]
  simp_all
 unfold JQ
 rw [h1]
theorem tX {el sz n size r i j:Nat} {get:Nat->Nat->O} {dJ:Option (Nat×List Fc)} {cs:List C} {e:cn} (gA:cs.length=size) (hf:∀ x,dJ=some x->Nat.beq i x.1=false) (h:nF el sz n get dJ size r i j cs=some e) :
  ∃ get' lu,e=.wr none [(r,.bL el sz n get' lu)]/\j+size<=sz/\i<n/\StN get dJ get' lu i j cs:=by
 unfold nF at h
 split at h
 case h_2=>simp at h
 rename_i ys hys
 obtain ⟨h1,h⟩:=Bool.aw h
 obtain ⟨h2,h⟩:=Bool.aw h
 simp only [au] at h; subst h
 have him:=qu hys
 have hl:ys.length=cs.length:=by rw [him,kQ]
 have nf:∀ (g:Nat->Nat->O) (j:Nat),fR g dJ i j=some (.o (g i j)):=λg j=>by
  unfold fR
  grind
 refine ⟨_,dJ,rfl,dR h1,aM h2,⟨λi' j' hn=>?_,λk hk=>?_,λhq=>hq⟩⟩
 .rw [<- hl] at hn
  unfold fR
  rw [PM get i j i' j' ys hn]
 .have hk2:k<ys.length:=by omega
  refine ⟨_,_,ka hk,nf _ _,.inr ⟨iA ys k,?_,by rw [TW _ _ _ _ _ hk2]⟩⟩
  have:(lift ys)[k]?=some (.im (iA ys k)):=by
   have:=oV (ys:=ys) (j:=k) hk2
   exact this
  grind
theorem Ez {el sz n size r i j:Nat} {get:Nat->Nat->O} {dJ:Option (Nat×List Fc)} {cs:List C} {e:cn} (gA:cs.length=size) (h:qm el sz n get dJ size r i j cs=some e) :
  ∃ get' lu,e=.wr none [(r,.bL el sz n get' lu)]/\j+size<=sz/\(i<n∨∃ x,dJ=some x/\i=x.1)/\StN get dJ get' lu i j cs:=by
 unfold qm at h
 split at h
 .obtain ⟨get',lu,h1,h2,h3,h4⟩:=tX gA (λx hx=>by cases hx) h
  grind
 .rename_i x
  cases hb:Nat.beq i x.1 with
  | false=>
    rw [hb] at h
    grind [tX]
  | true=>
    rw [hb] at h
    have h:(match OB cs x.2 j with
     | some l=>(Bool.rec none (some (.wr none [(r,.bL el sz n get (some (x.1,l)))])) (Nat.ble (j+size) sz):Option cn)
     | none=>none)=some e:=h
    split at h
    case h_2=>simp at h
    rename_i l hl
    obtain ⟨h1,h⟩:=Bool.aw h
    simp only [au] at h; subst h
    obtain ⟨p1,p2,p3⟩:=zd hl
    have hi:=Nat.eq_of_beq_eq_true hb
    refine ⟨get,_,rfl,dR h1,.inr ⟨x,rfl,hi⟩,⟨λi' j' hn=>?_,λk hk=>?_,λhq y hy=>?_⟩⟩
    .grind [fR,Nat.eq_of_beq_eq_true,bg]
    .refine ⟨.c cs[k],cs[k],ka hk,?_,.inl rfl⟩
     grind [fR,bg]
    grind
theorem AD (bC:cZ P T) (h:R T N ax w0 sp s a w E) (hn:bw s.sl) {dst:Option Tmp} {t:TypeId} {x v:Operand} {e:cn} (ef:gz T s dst t x v=some e) (b:Nat) :
  (∃ l,e=.ct l)∨dst=none/\∃ w',(Instr.storeAt t (a.eval x) (a.eval v)).run P w=.ok () w'/\iC T N ax w0 sp s a w E b e undef w' E:=by
 unfold gz at ef
 split at ef
 .simp at ef
 split at ef
 case h_2=>simp at ef
 rename_i y d hy hd
 have hv:=h.ch hn hd
 split at ef
 case h_2=>simp at ef
 rename_i cs hcs
 obtain ⟨gA,ef⟩:=Bool.aw ef
 split at ef
 case h_2=>simp at ef
 rename_i r i j hx
 have hx:=h.ch hn (bT hx)
 have hcv:=l9 hv hcs
 unfold lA at ef
 split at ef
 .rename_i l hl
  refine .inr ⟨rfl,?_⟩
  rw [bV] at hl
  split at ef
  case h_2=>simp at ef
  split at ef
  case h_2=>simp at ef
  rename_i l' uR
  simp only [au] at ef
  subst ef
  have hr:r<s.rs.length:=by rw [bg] at hl; grind
  obtain ⟨s',w',h1,h2,h3⟩:=tU (t:=t) bC h hx hv (K:=λs'=>s'={ s with rs:=setAt s.rs r (.box l') }) (by
   simp only [AL,hy,hcs,gA,hl,uR])
  subst h3
  refine ⟨w',h1,lN.refl _ _,?_,λd hd=>by simp [dH] at hd⟩
  show R T N ax w0 sp { s with rs:=place r (.box l') s.rs } a w' E
  rw [gJ _ hr,<- ba]
  exact h2
 .rename_i el asz n l hl
  refine .inr ⟨rfl,?_⟩
  rw [bV,bg] at hl
  split at ef
  case h_2=>simp at ef
  rename_i l' uR
  simp only [au] at ef
  subst ef
  have hy:=bC.ty _ _ hy
  simp only [di] at gA
  obtain ⟨gA,fw⟩:=gA
  have gA:=cg gA
  have fw:=aM fw
  have uV:(a.eval v).cells.size=y.size:=by have:=hcv.length; grind
  have hr:r<s.rs.length:=(List.getElem?_eq_some_iff.1 hl).1
  obtain ⟨b',sz,⟨pC,hE⟩,hpx⟩:=hx
  obtain ⟨q1,q2,xs,q3,q4⟩:=h.roots r _ _ hl hE
  have q1:sz=asz:=q1
  have q2:some b'=pC.1.ownBlock:=q2
  subst q1
  obtain ⟨q5,q6⟩:=q3
  have q6:(pC.1=.slice none 0 0/\n=0)∨∃ g cap cur,pC.1=.slice (some ⟨g,0,none⟩) n cap/\w0.base<=g/\w.heap[g]?=some (.cells cur el (0,0))/\n<=cap/\cap<=maxLen/\cur.size=cap*sz/\cur.toList.take (n*sz)=xs:=q6
  rcases q6 with ⟨q6,_⟩|⟨g',cap,cur,q6,q7,q8,q9,q10,q11,q12⟩
  .rw [q6] at q2; simp [Value.ownBlock] at q2
  rw [q6] at q2
  simp only [Value.ownBlock,au] at q2
  subst q2
  have hfit0:i*sz+j+y.size<=n*sz:=by
   have hlen:=q4.length
   rcases sr uR with h1|h1
   all_goals grind
  have hcap:n*sz<=cap*sz:=gP _ q9
  have hrun:=gR (w:=w) hy (o:=i*sz+j) q8 uV (by omega) (hcv.rR)
  rw [hpx]
  refine ⟨_,hrun,lN.refl _ _,?_,λd hd=>by simp [dH] at hd⟩
  show R T N ax w0 sp { s with rs:=place r _ s.rs } a _ E
  rw [gJ _ hr]
  have hl2:(a.eval v).cells.toList.length=y.size:=by simpa using uV
  have hk:aW (AV ax s.rs E) w (w.setRow b' (cur.toList.take (i*sz+j)++(a.eval v).cells.toList++cur.toList.drop (i*sz+j+y.size)).toArray):=
    ⟨by simp,λk hk hn=>setRow_other w _ k _ λe=>by subst e; exact hn (.inr ⟨r,_,sz,hl,trivial,bh.own ⟨pC,hE⟩⟩)⟩
  have hp:=ZN uR q4 hcv
  rw [hl2,<- q12,<- NN cur.toList _ (i*sz+j) y.size (n*sz) hl2 hfit0 (by simp; omega)] at hp
  refine h.turn hl trivial hE (by simp) (λk hk=>setRow_other w _ k _ hk) ⟨rfl,rfl,rfl⟩ ⟨rfl,by rw [q6]; rfl,_,⟨?_,.inr ⟨b',cap,_,q6,q7,setRow_heap w b' cur _ el (0,0) q8,q9,q10,?_,rfl⟩⟩,?_⟩
  .simp [hl2]
   omega
  .simp [hl2]
   omega
  .exact hp.mono λ_ _ q=>a7.mono (Env.le_refl E) hk (λ_ _ q=>q) q
 .rename_i el asz n get hl
  rw [bV] at hl
  split at ef
  .rename_i ys hys
   refine .inr ⟨rfl,?_⟩
   obtain ⟨h1,ef⟩:=Bool.aw ef
   obtain ⟨h2,ef⟩:=Bool.aw ef
   simp only [au] at ef
   subst ef
   have hr:r<s.rs.length:=by rw [bg] at hl; grind
   obtain ⟨s',w',h3,h4,h5⟩:=tU (t:=t) bC h hx hv (K:=λs'=>s'={ s with rs:=setAt s.rs r (.arr el asz n (zP get i j ys)) }) (by
    grind [AL,aM])
   subst h5
   refine ⟨w',h3,lN.refl _ _,?_,λd hd=>by simp [dH] at hd⟩
   show R T N ax w0 sp { s with rs:=place r (.arr el asz n (GM get i j ys)) s.rs } a w' E
   rw [gJ _ hr,<- ba,SL]
   exact h4
  grind [nW]
 .rename_i el asz n get dJ hl
  refine .inr ⟨rfl,?_⟩
  rw [bV,bg] at hl
  have hy:=bC.ty _ _ hy
  simp only [di] at gA
  obtain ⟨gA,fw⟩:=gA
  have gA:=cg gA
  obtain ⟨get',lu,rfl,hjs,hin,lC⟩:=Ez gA ef
  have hr:r<s.rs.length:=(List.getElem?_eq_some_iff.1 hl).1
  obtain ⟨b',sz,⟨pC,hE⟩,hpx⟩:=hx
  obtain ⟨q1,q2,xs,q3,Ks,hK,hf,q4⟩:=h.roots r _ _ hl hE
  have q1:sz=asz:=q1
  have q2:some b'=pC.1.ownBlock:=q2
  have hK:JN pC.2 pC.1.ownBlock Ks:=hK
  subst q1
  have uV:(a.eval v).cells.size=y.size:=by have:=hcv.length; grind
  obtain ⟨q5,q6⟩:=q3
  have q6:(pC.1=.slice none 0 0/\n=0)∨∃ g cap cur,pC.1=.slice (some ⟨g,0,none⟩) n cap/\w0.base<=g/\w.heap[g]?=some (.cells cur el (0,0))/\n<=cap/\cap<=maxLen/\cur.size=cap*sz/\cur.toList.take (n*sz)=xs:=q6
  rcases q6 with ⟨q6,_⟩|⟨g',cap,cur,q6,q7,q8,q9,q10,q11,q12⟩
  .grind
  have KN:pC.1.ownBlock=some b':=q2.symm
  rw [q6] at q2
  simp only [Value.ownBlock,au] at q2
  subst q2
  have hi:i<n:=hin.elim id λ⟨x,g1,g2⟩=>g2▸(hf x g1).1
  have hjs:j+y.size<=sz:=hjs
  have hfit0:i*sz+j+y.size<=n*sz:=by
   have:=gP sz (show i+1<=n by omega)
   grind
  have hcap:n*sz<=cap*sz:=gP _ q9
  have hrun:=gR (w:=w) hy (o:=i*sz+j) q8 uV (by omega) (hcv.rR)
  rw [hpx]
  refine ⟨_,hrun,lN.refl _ _,?_,λd hd=>by simp [dH] at hd⟩
  show R T N ax w0 sp { s with rs:=place r _ s.rs } a _ E
  rw [gJ _ hr]
  have hl2:(a.eval v).cells.toList.length=y.size:=by simpa using uV
  have hk:aW (AV ax s.rs E) w (w.setRow b' (cur.toList.take (i*sz+j)++(a.eval v).cells.toList++cur.toList.drop (i*sz+j+y.size)).toArray):=
    ⟨by simp,λk hk hn=>setRow_other w _ k _ λe=>by subst e; exact hn (.inr ⟨r,_,sz,hl,trivial,bh.own ⟨pC,hE⟩⟩)⟩
  refine h.turn hl trivial hE (by simp) (λk hk=>setRow_other w _ k _ hk) ⟨rfl,rfl,rfl⟩ ⟨rfl,by rw [q6]; rfl,_,⟨?_,.inr ⟨b',cap,_,q6,q7,setRow_heap w b' cur _ el (0,0) q8,q9,q10,?_,rfl⟩⟩,Ks,hK,lC.dJ hf,?_⟩
  .simp [hl2]
   omega
  .simp [hl2]
   omega
  .intro i' gI j' hj'
   have hq:i'*sz+j'<n*sz:=by
    grind
   have hxs:∀ q,q<n*sz->((cur.toList.take (i*sz+j)++(a.eval v).cells.toList++cur.toList.drop (i*sz+j+y.size)).toArray.toList.take (n*sz))[q]?=if i*sz+j<=q/\q<i*sz+j+y.size then (a.eval v).cells.toList[q-(i*sz+j)]? else xs[q]?:=by
    intro q hq
    rw [me,if_pos hq,<- q12,me,if_pos hq]
    have h1:(cur.toList.take (i*sz+j)).length=i*sz+j:=by grind
    split
    .grind
    .rename_i hc
     rcases Nat.lt_or_ge q (i*sz+j) with eG|hge
     .grind
     .have hge2:i*sz+j+y.size<=q:=by omega
      rw [nD (by grind),List.getElem?_drop,List.length_append,h1,hl2]
      congr 1; omega
   have hs:∀ b,Ks i' j' b->(w.setRow b' (cur.toList.take (i*sz+j)++(a.eval v).cells.toList++cur.toList.drop (i*sz+j+y.size)).toArray).heap[b]?=w.heap[b]?:=λb hb=>setRow_other w _ b _ λe=>by
    subst e
    exact hK.ne _ _ _ hb KN
   by_cases hc:i'=i/\j<=j'/\j'<j+y.size
   .obtain ⟨rfl,h2,h3⟩:=hc
    obtain ⟨c,x,g1,g2,g3⟩:=lC.in_ (j'-j) (by rw [gA]; omega)
    obtain ⟨u,g4,g5⟩:=hcv.nth (i:=j'-j) (x:=x) (by rw [bg]; exact g1)
    refine ⟨u,c,?_,by simp_all,?_⟩
    .rw [hxs _ hq,if_pos (by omega),show i'*sz+j'-(i'*sz+j)=j'-j by omega]; exact g4
    .have g6:=a7.mono (Env.le_refl E) hk (λ_ _ q=>q) g5
     rcases g3 with rfl|⟨z,rfl,rfl⟩
     .exact g6
     .exact g6
   .obtain ⟨u,c,g1,g2,g3⟩:=q4 i' gI j' hj'
    refine ⟨u,c,?_,by rw [lC.out i' j' (by rw [gA]; exact hc)]; exact g2,iX.mono (Env.le_refl E) hk (λ_ _ q=>q) hs g3⟩
    rw [hxs _ hq,if_neg]
    .exact g1
    .rintro ⟨h1,h2⟩
     refine hc ?_
     have hii:i'=i:=by
      rcases Nat.lt_trichotomy i' i with h3|h3|h3
      .have:=gP sz (show i'+1<=i by omega)
       grind
      .exact h3
      .have:=gP sz (show i+1<=i' by omega)
       grind
     subst hii
     omega
 .simp at ef
theorem R.Ig (h:R T N ax w0 sp s a w E) {b:Nat} (hf:kG s E b) {l:List C} {cs:Array Value} (hl:az (a7 E (AV ax s.rs E) w) l cs.toList) (t:TypeId) :
  ∃ E',iC T N ax w0 sp s a w E b (.wr (some (.c (.rt b 0 0))) [(b,.box l)]) (.pointer (some ⟨w.heap.size,0,none⟩)) (w.alloc (.cells cs t)) E':=by
 obtain ⟨E',h1,h2,h3,h4⟩:=h.make hf (dead:=none) (x:=.box l) (e:=(some w.heap.size,lh,l.length)) (w':=w.alloc (.cells cs t)) (row:=none) (World.grownBy_alloc w _ none) (λk hk=>by cases hk)
  (λk hk=>by simp at hk; omega) (λk hk=>by simp at hk ⊢; omega) (λE' cG hE eT _ hk=>⟨w.heap.size,cs,t,rfl,rfl,heap_alloc_new w _,hl.mono λ_ _ q=>a7.mono hE hk eT q⟩)
 refine ⟨E',h3,h1,λd hd=>?_⟩
 simp only [dH,au] at hd
 subst hd
 exact ⟨w.heap.size,l.length,⟨lh,h2⟩,by simp⟩
theorem HU (h:R T N ax w0 sp s a w E) (hn:bw s.sl) {b:Nat} (hf:kG s E b) {x:Operand} (t:TypeId) {e:cn} (ef:uL b s x=some e) :
  ∃ E',iC T N ax w0 sp s a w E b e (.pointer (some ⟨w.heap.size,0,none⟩)) (w.alloc (.cells (a.eval x).cells t)) E':=by
 unfold uL at ef
 split at ef
 case h_2=>simp at ef
 rename_i d hd
 split at ef
 case h_2=>simp at ef
 rename_i l hl
 simp only [au] at ef
 subst ef
 exact h.Ig hf (l9 (h.ch hn hd) hl) t
theorem Aq (bC:cZ P T) (h:R T N ax w0 sp s a w E) {b:Nat} (hf:kG s E b) {t:TypeId} {e:cn} (ef:j6 T b t=some e) :
  ∃ v w' E',(∀ o:Oper,o.op=.alloc t->(execOp a.eval o).run P w=.ok (.value v) w')/\iC T N ax w0 sp s a w E b e v w' E':=by
 unfold j6 at ef
 split at ef
 case h_2=>simp at ef
 rename_i y hy
 have hy:=bC.ty _ _ hy
 split at ef
 case h_2=>simp at ef
 rename_i l hl
 simp only [au] at ef
 subst ef
 obtain ⟨i,hi,_,_,hz⟩:=hy.full
 obtain ⟨E',h1⟩:=h.Ig hf (cs:=y.zero.cells) (kE hl) t
 refine ⟨_,_,E',λo ho=>?_,h1⟩
 have hz0:(zeroValue t).run P w=.ok y.zero w:=by simp [zeroValue,typeInfo,hi,hz]
 simp only [execOp,ho,Instr.alloc,Sem.run_bind,hz0,Result.andThen_ok]
 rfl
theorem Bt (h:R T N ax w0 sp s a w E) {b:Nat} (hf:kG s E b) {t:TypeId} {r:Option Operand} {e:cn} (ef:kp T b t r=some e) :
  r=none/\∃ E',iC T N ax w0 sp s a w E b e (.map (some w.heap.size)) (w.alloc (.map #[] 0)) E':=by
 unfold kp at ef
 split at ef
 case h_2=>simp at ef
 simp only [au] at ef
 subst ef
 refine ⟨rfl,?_⟩
 obtain ⟨E',h1,h2,h3,h4⟩:=h.make hf (dead:=none) (x:=.set []) (e:=(some w.heap.size,lh,0)) (w':=w.alloc (.map #[] 0)) (row:=none) (World.grownBy_alloc w _ none) (λk hk=>by cases hk)
  (λk hk=>by simp at hk; omega) (λk hk=>by simp at hk ⊢; omega) (λE' cG hE eT _ hk=>⟨w.heap.size,#[],0,rfl,heap_alloc_new w _,.nil⟩)
 refine ⟨E',h3,h1,λd hd=>?_⟩
 simp only [dH,au] at hd
 subst hd
 exact ⟨w.heap.size,0,⟨lh,h2⟩,rfl⟩
theorem D2 (bC:cZ P T) (h:R T N ax w0 sp s a w E) (hn:bw s.sl) {dst:Option Tmp} {t:TypeId} {m k v:Operand} {e:cn} (ef:lG T s dst t m k v=some e) (b:Nat) :
  dst=none/\∃ w',(Instr.mapUpdate t (a.eval m) (a.eval k) (a.eval v)).run P w=.ok () w'/\iC T N ax w0 sp s a w E b e undef w' E:=by
 unfold lG at ef
 split at ef
 .simp at ef
 refine ⟨rfl,?_⟩
 obtain ⟨hk,ef⟩:=Bool.aw ef
 unfold KA at hk
 split at hk
 case h_2=>simp at hk
 rename_i oG
 have oG:=(bC.ty _ _ oG).map rfl
 split at hk
 case h_2=>simp at hk
 rename_i zk _
 have zk:=(bC.ty _ _ zk).int rfl
 split at ef
 case h_2=>simp at ef
 rename_i r n hm hk hv
 obtain ⟨b',sz,⟨hh,hE⟩,hm⟩:=h.ch hn (bT hm)
 have hk:=(h.ch hn (dA hk)).1
 have hv:=(h.ch hn (eB hv)).1
 split at ef
 case h_2=>simp at ef
 rename_i l hl
 rw [bV,bg] at hl
 simp only [au] at ef
 subst ef
 obtain ⟨w',h1,h2⟩:=JW h hl hE oG zk
 rw [hm,hk,hv]
 refine ⟨w',h1,lN.refl _ _,?_,λd hd=>by simp [dH] at hd⟩
 show R T N ax w0 sp { s with rs:=place r _ s.rs } a _ E
 grind [gJ]
theorem R.BI (h:R T N ax w0 sp s a w E) {b:Nat} (hf:kG s E b) {el sz n:Nat} {l:List C} {w':World} {hd:Value} {xs:List Value} {row:Option Nat} {dead:Option Nat}
  (hg:w.grownBy w' row) (dX:w'.ownsRow w0.base el sz hd n xs)
  (mA:∀ k,row=some k->∃ r x q,dead=some r/\s.rs[r]?=some x/\x.live/\bh E r k q)
  (jg:∀ k,hd.ownBlock=some k->some k=row∨w.heap.size<=k)
  (hl:az (a7 E (AV ax s.rs E) w) l xs) :
  ∃ E',R T N ax w0 sp { s with rs:=place b (.row el sz n l) (kill dead s.rs) } a w' E'/\lN b E E'/\aQ E' (AV ax (place b (.row el sz n l) (kill dead s.rs)) E') w' (.c (.sa b n)) hd:=by
 obtain ⟨E',h1,h2,h3,h4⟩:=h.make hf (dead:=dead) (x:=.row el sz n l) (e:=(hd.ownBlock,mS hd,sz)) (w':=w') (row:=row) hg mA jg (λk hk=>by
   rcases dX.2 with ⟨h1,_⟩|⟨g,cap,cur,h1,h2,h3,_⟩
   all_goals grind [Value.ownBlock])
  (λE' cG hE eT _ hk=>⟨rfl,rfl,xs,dX,hl.mono λ_ _ q=>a7.mono hE hk eT q⟩)
 refine ⟨E',h1,h3,?_⟩
 rcases dX.2 with ⟨q5,q6⟩|⟨g,cap,cur,q5,_⟩
 .exact ⟨_,none,0,0,h2,q5,by omega,by rw [q5,q6]⟩
 .exact ⟨_,_,n,cap,h2,q5,bl _,q5⟩
theorem R.vi (h:R T N ax w0 sp s a w E) {b:Nat} (hf:kG s E b) {el sz n:Nat} {get:Nat->Nat->I} {w':World} {hd:Value} {xs:List Value} {row:Option Nat} {dead:Option Nat}
  (hg:w.grownBy w' row) (dX:w'.ownsRow w0.base el sz hd n xs)
  (mA:∀ k,row=some k->∃ r x q,dead=some r/\s.rs[r]?=some x/\x.live/\bh E r k q)
  (jg:∀ k,hd.ownBlock=some k->some k=row∨w.heap.size<=k)
  (hl:∀ i,i<n->∀ j,j<sz->∃ x,xs[i*sz+j]?=some x/\cF (AV ax s.rs E) w (get i j) x) :
  ∃ E',R T N ax w0 sp { s with rs:=place b (.arr el sz n get) (kill dead s.rs) } a w' E'/\lN b E E'/\aQ E' (AV ax (place b (.arr el sz n get) (kill dead s.rs)) E') w' (.c (.sa b n)) hd:=by
 obtain ⟨E',h1,h2,h3,h4⟩:=h.make hf (dead:=dead) (x:=.arr el sz n get) (e:=(hd.ownBlock,mS hd,sz)) (w':=w') (row:=row) hg mA jg (λk hk=>by
   rcases dX.2 with ⟨h1,_⟩|⟨g,cap,cur,h1,h2,h3,_⟩
   all_goals grind [Value.ownBlock])
  (λE' cG hE eT _ hk=>⟨rfl,rfl,xs,dX,λi hi j hj=>by
   grind [cF.mono]⟩)
 refine ⟨E',h1,h3,?_⟩
 rcases dX.2 with ⟨q5,q6⟩|⟨g,cap,cur,q5,_⟩
 .exact ⟨_,none,0,0,h2,q5,by omega,by rw [q5,q6]⟩
 .exact ⟨_,_,n,cap,h2,q5,bl _,q5⟩
theorem R.Rg (h:R T N ax w0 sp s a w E) {b:Nat} (hf:kG s E b) {el sz n:Nat} {get:Nat->Nat->O} {dJ:Option (Nat×List Fc)} {w':World} {hd:Value} {xs:List Value} {row:Option Nat} {dead:Option Nat} {K:Nat->Prop} {Ks:Nat->Nat->Nat->Prop}
  (hg:w.grownBy w' row) (dX:w'.ownsRow w0.base el sz hd n xs)
  (mA:∀ k,row=some k->∃ r x q,dead=some r/\s.rs[r]?=some x/\x.live/\bh E r k q)
  (jg:∀ k,hd.ownBlock=some k->some k=row∨w.heap.size<=k)
  (hK:∀ k,K k->∃ r x q,dead=some r/\s.rs[r]?=some x/\x.live/\cM E r k q)
  (hP:JN K hd.ownBlock Ks) (hfo:∀ x,dJ=some x->x.1<n/\x.2.length=sz) (IG:∀ i j b,Ks i j b->w'.heap[b]?=w.heap[b]?)
  (hl:∀ i,i<n->∀ j,j<sz->∃ x c,xs[i*sz+j]?=some x/\fR get dJ i j=some c/\iX E (AV ax s.rs E) w0.base w c (Ks i j) x) :
  ∃ E',R T N ax w0 sp { s with rs:=place b (.bL el sz n get dJ) (kill dead s.rs) } a w' E'/\lN b E E'/\aQ E' (AV ax (place b (.bL el sz n get dJ) (kill dead s.rs)) E') w' (.c (.sa b n)) hd:=by
 obtain ⟨E',h1,h2,h3,h4⟩:=h.make hf (dead:=dead) (x:=.bL el sz n get dJ) (e:=(hd.ownBlock,(hd,K),sz)) (w':=w') (row:=row) hg mA jg (λk hk=>by
   rcases dX.2 with ⟨h1,_⟩|⟨g,cap,cur,h1,h2,h3,_⟩
   all_goals grind [Value.ownBlock])
  (λE' cG hE eT _ hk=>⟨rfl,rfl,xs,dX,Ks,hP,hfo,λi hi j hj=>by
   grind [iX.mono]⟩) (λk q=>.inl (hK k q))
 refine ⟨E',h1,h3,?_⟩
 rcases dX.2 with ⟨q5,q6⟩|⟨g,cap,cur,q5,_⟩
 .exact ⟨_,none,0,0,h2,q5,by omega,by rw [q5,q6]⟩
 .exact ⟨_,_,n,cap,h2,q5,bl _,q5⟩
theorem rK (hn:bw s.sl) {sz:Nat}:∀ {ps:List (Nat×Operand)} {l r:List C},n9 sz s.sl ps l=some r->xz sz s [] ps l=some r
 | [],l,r,e=>e
 | p::ps,l,r,e=>by
   obtain ⟨k,x⟩:=p
   have e:(match Go.V.ch s.sl x with
    | some d=>match d.cells with
      | some cs=>(Bool.rec none (match put l (k*sz) cs with
        | some l'=>n9 sz s.sl ps l'
        | none=>none) (Nat.beq cs.length sz&&Nat.blt 0 sz):Option (List C))
      | none=>none
    | none=>none)=some r:=e
   split at e
   case h_2=>simp at e
   rename_i d hd
   split at e
   case h_2=>simp at e
   rename_i cs hcs
   obtain ⟨h1,e⟩:=Bool.aw e
   split at e
   case h_2=>simp at e
   rename_i l' uR
   simp only [xz,de hn hd,hcs,h1,uR]
   exact rK hn e
theorem Ll (bC:cZ P T) (h:R T N ax w0 sp s a w E) (hn:bw s.sl) {b:Nat} (hf:kG s E b) {t n:Nat} {ps:Array (Nat×Operand)} {e:cn} {ct:Bool} (ef:LF T b s ct t n ps.toList=some e) :
  ∃ v w' E',(Instr.buildSlice t n (ps.map λ(i,x)=>(i,a.eval x))).run P w=.ok v w'/\iC T N ax w0 sp s a w E b e v w' E':=by
 unfold LF at ef
 split at ef
 case h_2=>simp at ef
 rename_i Cf ie z0 el sf
 have sf:=bC.ty _ _ sf
 split at ef
 case h_2=>simp at ef
 rename_i y hy
 have hy:=bC.ty _ _ hy
 split at ef
 case h_2=>simp at ef
 rename_i z hz
 split at ef
 case h_2=>simp at ef
 rename_i l hl
 obtain ⟨hb,ef⟩:=Bool.aw ef
 simp only [au] at ef
 subst ef
 simp only [di] at hb
 have fw:=aM hb.1
 have Gf:=dR hb.2
 have CS:z.length=y.size:=by
  have:=(kE (E:=E) (av:=AV ax s.rs E) (w:=w) hz).length
  rw [this]
  simpa using hy.zs
 obtain ⟨cs,h1,h2,h3⟩:=wu bC h (bu.nil a) sf rfl hy hz (rK hn hl) CS fw Gf
 have hm:n<=maxLen:=by
  have:n<=n*y.size:=Nat.le_mul_of_pos_right _ fw
  simp only [maxLen]; omega
 have dX:=World.ownsRow_lit (e:=el) (size:=y.size) (base:=w0.base) w cs n h.size_le hm (by rw [<- h3,h2.length]; simp)
 rcases jq ct b el y.size n l with hc|⟨is,hi,hc⟩|⟨uw,hc⟩
 case inr.inr=>
  rw [hc]
  subst uw
  obtain ⟨E',h4,h5,h6⟩:=h.vi hf (dead:=none) (row:=none) (n:=0) (get:=mv) (World.grownBy_alloc w _ none) dX (λk hk=>by cases hk) (λk hk=>by simp [Value.ownBlock] at hk; right; omega) (λi hi=>by omega)
  refine ⟨_,_,E',h1,h5,h4,λd hd=>?_⟩
  simp only [dH,au] at hd
  subst hd
  exact h6
 case inr.inl=>
  rw [hc]
  have hb:=ia w (.cells cs el)
  refine ⟨_,_,E,h1,lN.refl _ _,h.grown hb,λd hd=>?_⟩
  simp only [dH,au] at hd
  subst hd
  have him:=qu hi
  subst him
  have hx:=uX h2
  have hxl:=hx.length
  have hE:=(h.grown hb)
  refine ⟨_,n,rfl,bl _,hm,λh0=>⟨_,rfl,rfl,λq=>?_,by simp_all,λi gI j hj=>?_⟩⟩
  .have:w.heap.size<w.heap.size:=by
    rcases q with q|⟨r,x,sz,g1,g2,g3⟩
    .exact h.jr q
    .exact (h.cJ r x _ sz g1 g2 g3).2
   omega
  .have eG:i*y.size+j<n*y.size:=by
    have:=gP y.size (show i+1<=n by omega)
    grind
   obtain ⟨x,h5,h6⟩:=oi hx (q:=i*y.size+j) (by rw [hxl,<- h2.length,h3]; exact eG)
   refine ⟨x,?_,cF.mono (aW.lL hb) (λ_ _ q=>q) h6⟩
   grind [Addr.add_mid,cC,heap_alloc_new]
 rw [hc]
 obtain ⟨E',h4,h5,h6⟩:=h.BI hf (dead:=none) (row:=none) (n:=n) (l:=l) (World.grownBy_alloc w _ none) dX (λk hk=>by cases hk) (λk hk=>by simp [Value.ownBlock] at hk; right; omega) h2
 refine ⟨_,_,E',h1,h5,h4,λd hd=>?_⟩
 simp only [dH,au] at hd
 subst hd
 exact h6
theorem DX (bC:cZ P T) (h:R T N ax w0 sp s a w E) (hn:bw s.sl) {b:Nat} (hf:kG s E b) {t:TypeId} {l c:Operand} {e:cn} (ef:lI T b s t l c=some e) :
  ∃ v w' E',(Instr.makeSlice t (a.eval l) (a.eval c)).run P w=.ok v w'/\iC T N ax w0 sp s a w E b e v w' E':=by
 unfold lI at ef
 split at ef
 case h_2=>simp at ef
 rename_i Cf ie z0 el sf
 have hu:=(bC.ty _ _ sf).slice rfl
 split at ef
 case h_2=>simp at ef
 rename_i y hy
 have hy:=bC.ty _ _ hy
 split at ef
 case h_2=>simp at ef
 rename_i z hz
 split at ef
 case h_2=>simp at ef
 rename_i n m hl hc
 split at ef
 case h_2=>simp at ef
 rename_i is his
 obtain ⟨fw,ef⟩:=Bool.aw ef
 obtain ⟨hb,ef⟩:=Bool.aw ef
 obtain ⟨h1,ef⟩:=Bool.aw ef
 simp only [au] at ef
 subst ef
 simp only [di] at hb
 have h1:=cg h1
 subst h1
 have fw:=aM fw
 have hm:=dR hb.1
 have hby:=dR hb.2
 have hl:=(h.ch hn (dA hl)).1
 have hc:=(h.ch hn (dA hc)).1
 have hzr:=kE (E:=E) (av:=AV ax s.rs E) (w:=w) hz
 have CS:z.length=y.size:=by rw [hzr.length]; simpa using hy.zs
 obtain ⟨inf,hin,gA,hbytes,hzero⟩:=hy.full
 obtain ⟨w',hr,dX,hg⟩:=run_make_full w w0.base t el inf y.zero y.size hu hin hzero gA .i64 .i64 n (by grind) hm h.size_le
 have MR:az (a7 E (AV ax s.rs E) w) (Qp z n) (madeCells y.zero.cells (n*y.size)).toList:=by
  refine az.xh (by rw [kh,CS]; simp [size_madeCells]) λi x v hx hv=>?_
  have hi:i<n*z.length:=by
   grind [kh]
  rw [vB z n i hi] at hx
  have gI:i<n*y.size:=by rw [<- CS]; exact hi
  have hcs:y.zero.cells.size=y.size:=hy.zs
  grind [madeCells,az.get]
 have hil:z=lift is:=qu his
 have hisl:is.length=y.size:=by rw [<- CS,hil,kQ]
 have hcells2:∀ i,i<n->∀ j,j<y.size->∃ x,(madeCells y.zero.cells (n*y.size)).toList[i*y.size+j]?=some x/\cF (AV ax s.rs E) w (iA is j) x:=by
  intro i hi j hj
  have eG:i*y.size+j<n*y.size:=by
   have:=gP y.size (show i+1<=n by omega)
   grind
  have e1:(Qp z n)[i*y.size+j]?=some (.im (iA is j)):=by
   grind [vB,Nat.mul_comm,Nat.mul_add_mod,Nat.mod_eq_of_lt,oV]
  obtain ⟨x,h7,h8⟩:=MR.nth (i:=i*y.size+j) (x:=.im (iA is j)) (by rw [bg]; exact e1)
  exact ⟨x,h7,h8⟩
 obtain ⟨E',h4,h5,h6⟩:=h.vi hf (dead:=none) (row:=none) (n:=n) (get:=λ_=>iA is) hg dX (λk hk=>by cases hk) (λk hk=>by simp [Value.ownBlock] at hk; right; omega) hcells2
 refine ⟨.slice (some ⟨w.heap.size,0,none⟩) n n,w',E',?_,h5,h4,λd hd=>?_⟩
 .rw [hl,hc]; exact hr
 .simp only [dH,au] at hd
  subst hd
  exact h6
theorem JU (get:Nat->Nat->I) (sz n i k:Nat) (h:k<=n):(uI get sz i n).take (k*sz)=uI get sz i k:=by
 apply List.ext_getElem?
 intro q
 rw [me]
 split
 .rename_i hq
  have hz:0<sz:=by
   grind
  have e1:q/sz*sz+q%sz=q:=by rw [Nat.mul_comm]; exact Nat.div_add_mod q sz
  grind [Nat.div_lt_of_lt_mul,Nat.mod_lt,nX]
 grind [mh]
theorem qX {e:fJ} {el sz n:Nat} {l:List C} {base:Nat} {av:Nat->Prop} (hrr:aO E av base w e (.row el sz n l)) {ao:Option Addr} {n' cap k:Nat} (h2:e.2.1.1=.slice ao n' cap) (h3:k<=n') (XO:k<=n) :
  ∃ ao' cap',Value.slice ao k cap=.slice ao' k cap'/\(ao'=none->k=0)/\∃ news:List Value,news.length=k*sz/\(∀ ad,ao'=some ad->∀ j u,news[j]?=some u->w.cell? (ad.add j)=some u)/\(∀ u∈news,u.oneCell'=true)/\
   az (a7 E av w) (l.take (k*sz)) news:=by
 obtain ⟨q1,q2,xs,q3,q4⟩:=hrr
 have hxl:=q3.1
 have hks:k*sz<=n*sz:=gP _ XO
 have hxk:(xs.take (k*sz)).length=k*sz:=by grind
 rcases q3.2 with ⟨q5,q6⟩|⟨g,cap',cur,q5,q6,q7,q8,q9,q10,q11⟩
 .rw [h2] at q5
  simp only [iP] at q5
  obtain ⟨rfl,rfl,rfl⟩:=q5
  have:k=0:=by omega
  subst this
  exact ⟨none,0,rfl,λ_=>rfl,[],by simp,λ_ _ j u hj=>(by simp at hj),λu hu=>(by cases hu),by simp; exact .nil⟩
 .rw [h2] at q5
  simp only [iP] at q5
  obtain ⟨rfl,rfl,rfl⟩:=q5
  refine ⟨_,cap,rfl,λe=>(by simp at e),xs.take (k*sz),hxk,?_,?_,q4.take _⟩
  all_goals grind [Addr.add_mid,cC,az.rR]
theorem xo (h:R T N ax w0 sp s a w E) {c:C} {vs:Value} {sz k:Nat} {l':List C} (hs:yf s.rs c=some (sz,k,l')) (hr:a7 E (AV ax s.rs E) w c vs) :
  ∃ ao cap,vs=.slice ao k cap/\(ao=none->k=0)/\∃ news:List Value,news.length=k*sz/\(∀ ad,ao=some ad->∀ j u,news[j]?=some u->w.cell? (ad.add j)=some u)/\(∀ u∈news,u.oneCell'=true)/\
   az (a7 E (AV ax s.rs E) w) l' news:=by
 unfold yf at hs
 split at hs
 .rename_i cL k' get
  simp only [au,bs] at hs
  obtain ⟨rfl,rfl,rfl⟩:=hs
  obtain ⟨ao,cap,h1,h2,news,h3,h4,h5,h6⟩:=Kt h (src:=.c (.im (.sl cL k' get))) rfl hr
  refine ⟨ao,cap,h1,h2,news,h3,h4,h5,az.Gc (by rw [mh,h3]) λq x hx=>?_⟩
  have hq:q<k'*cL:=by grind [mh]
  have hz:0<cL:=by
   grind
  have e1:q/cL*cL+q%cL=q:=by rw [Nat.mul_comm]; exact Nat.div_add_mod q cL
  have hk:q/cL<k':=Nat.div_lt_of_lt_mul (by grind)
  have hm:q%cL<cL:=Nat.mod_lt _ hz
  obtain ⟨y,h7,h8⟩:=h6 (q/cL) hk (q%cL) hm
  have h9:=nX get cL k' 0 (q/cL) (q%cL) hk hm
  rw [e1] at h7 h9
  rw [hx] at h9
  simp only [Nat.zero_add,au] at h9
  subst h9
  exact ⟨y,h7,h8⟩
 .obtain ⟨rfl,_⟩:=hr
  simp only [au,bs] at hs
  obtain ⟨rfl,rfl,rfl⟩:=hs
  exact ⟨none,0,rfl,λ_=>rfl,[],rfl,λ_ q=>(by cases q),λ_ q=>(by cases q),.nil⟩
 .rename_i q k'
  split at hs
  case h_3=>simp at hs
  .rename_i el cL n l hl
   rw [bV,bg] at hl
   obtain ⟨XO,hs⟩:=Bool.aw hs
   split at hs
   case h_2=>simp at hs
   rename_i l2 hl2
   obtain ⟨rfl,hlen⟩:=l7 _ _ _ hl2
   simp only [au,bs] at hs
   obtain ⟨rfl,rfl,rfl⟩:=hs
   obtain ⟨e,ao,n',cap,h1,h2,h3,rfl⟩:=hr
   exact qX (h.roots q _ _ hl h1) h2 h3 (dR XO)
  .rename_i el cL n get hl
   rw [bV,bg] at hl
   obtain ⟨XO,hs⟩:=Bool.aw hs
   simp only [au,bs] at hs
   obtain ⟨rfl,rfl,rfl⟩:=hs
   obtain ⟨e,ao,n',cap,h1,h2,h3,rfl⟩:=hr
   have:=qX (Q3 (h.roots q _ _ hl h1)) h2 h3 (dR XO)
   rwa [JU _ _ _ _ _ (dR XO)] at this
 .simp at hs
theorem Hm (h:R T N ax w0 sp s a w E) {c:C} {vs:Value} {sz k:Nat} {get:Nat->Nat->I} (hs:rZ sz s.rs c=some (k,get)) (hr:a7 E (AV ax s.rs E) w c vs) :
  ∃ ao cap,vs=.slice ao k cap/\(ao=none->k=0)/\∃ news:List Value,news.length=k*sz/\(∀ ad,ao=some ad->∀ j u,news[j]?=some u->w.cell? (ad.add j)=some u)/\(∀ u∈news,u.oneCell'=true)/\
   (∀ i,i<k->∀ j,j<sz->∃ x,news[i*sz+j]?=some x/\cF (AV ax s.rs E) w (get i j) x):=by
 have fin:∀ {l':List C},yf s.rs c=some (sz,k,l')->(∀ i,i<k->∀ j,j<sz->l'[i*sz+j]?=some (.im (get i j)))->∃ ao cap,vs=.slice ao k cap/\(ao=none->k=0)/\∃ news:List Value,news.length=k*sz/\(∀ ad,ao=some ad->∀ j u,news[j]?=some u->w.cell? (ad.add j)=some u)/\(∀ u∈news,u.oneCell'=true)/\
   (∀ i,i<k->∀ j,j<sz->∃ x,news[i*sz+j]?=some x/\cF (AV ax s.rs E) w (get i j) x):=by
  intro l' h1 h2
  obtain ⟨ao,cap,q1,q2,news,q3,q4,q5,q6⟩:=xo h h1 hr
  refine ⟨ao,cap,q1,q2,news,q3,q4,q5,λi hi j hj=>?_⟩
  obtain ⟨x,q7,q8⟩:=q6.nth (i:=i*sz+j) (x:=.im (get i j)) (by rw [bg]; exact h2 i hi j hj)
  exact ⟨x,q7,q8⟩
 have lE:∀ (n:Nat) (g:Nat->Nat->I),∀ i,i<n->∀ j,j<sz->(uI g sz 0 n)[i*sz+j]?=some (.im (g i j)):=λn g i hi j hj=>by
  grind [nX]
 unfold rZ at hs
 split at hs
 .rename_i cL k' get'
  replace hs:=Bool.aw hs
  obtain ⟨h1,h2⟩:=hs
  have h1:=cg h1
  subst h1
  simp only [au,bs] at h2
  obtain ⟨rfl,rfl⟩:=h2
  exact fin (l':=uI get' cL 0 k') rfl (lE _ _)
 .obtain ⟨rfl,_⟩:=hr
  simp only [au,bs] at hs
  obtain ⟨rfl,rfl⟩:=hs
  simp_all
 .rename_i q k'
  split at hs
  case h_3=>simp at hs
  .rename_i el cL n l hl
   obtain ⟨h1,hs⟩:=Bool.aw hs
   simp only [di] at h1
   have h2:=cg h1.2
   subst h2
   split at hs
   case h_2=>simp at hs
   rename_i l2 hl2
   split at hs
   case h_2=>simp at hs
   rename_i is his
   simp only [au,bs] at hs
   obtain ⟨rfl,rfl⟩:=hs
   refine fin (l':=l2) (by simp only [yf,hl,h1.1,hl2]) λi hi j hj=>?_
   have him:=qu his
   obtain ⟨rfl,hlen⟩:=l7 _ _ _ hl2
   have eG:i*cL+j<k'*cL:=by
    have:=gP cL (show i+1<=k' by omega)
    grind
   have hil:is.length=k'*cL:=by rw [<- kQ,<- him,List.length_take]; omega
   rw [him]
   exact oV (by rw [hil]; exact eG)
  .rename_i el cL n get' hl
   replace hs:=Bool.aw hs
   obtain ⟨h1,h3⟩:=hs
   have h1:=cg h1
   subst h1
   obtain ⟨h2,h4⟩:=Bool.aw h3
   simp only [au,bs] at h4
   obtain ⟨rfl,rfl⟩:=h4
   exact fin (l':=uI get' cL 0 k') (by simp only [yf,hl,h2]) (lE _ _)
 .simp at hs
theorem vE {t el:TypeId} {y0 y:Ty} (sf:b6 P t y0) (hk:y0.kd=.slice el) (hy:b6 P el y) (ao:Option Addr) (cap:Nat) (ty:TypeId) :
  (Builtin.append_ #[t,t] ty #[.slice none 0 0,.slice ao 0 cap]).run P w=.ok (.slice none 0 0) w:=by
 obtain ⟨i,hi,_⟩:=hy.full
 cases ao<;>simp [Builtin.append_,run_underlying (sf.slice hk),sizeOf,typeInfo,hi,Builtin.lenOf,Builtin.firstCells,loadCells,loadCellsFrom]
theorem zZ (h:R T N ax w0 sp s a w E) {b:Nat} (hf:kG s E b) {t el:TypeId} {y0 y:Ty} (sf:b6 P t y0) (hk:y0.kd=.slice el) (hy:b6 P el y) (fw:0<y.size)
  {k:Nat} {l':List C} {c:C} {v:Value} (hc:a7 E (AV ax s.rs E) w c v) {ao:Option Addr} {cap:Nat} (sZ:ao=none->k=0) {news:List Value} (hl:news.length=k*y.size)
  (hcell:∀ ad,ao=some ad->∀ j u,news[j]?=some u->w.cell? (ad.add j)=some u) (h1:∀ u∈news,u.oneCell'=true) (hrel:az (a7 E (AV ax s.rs E) w) l' news)
  {e:cn} (ef:CT el y.size k l' y.bytes b s.rs c=some e) (ty:TypeId) :
  ∃ v' w' E',(Builtin.append_ #[t,t] ty #[v,.slice ao k cap]).run P w=.ok v' w'/\iC T N ax w0 sp s a w E b e v' w' E':=by
 unfold CT at ef
 split at ef
 .obtain ⟨rfl,_⟩:=hc
  split at ef
  .simp only [au] at ef
   subst ef
   refine ⟨_,w,E,vE sf hk hy ao cap ty,lN.refl _ _,h,λd hd=>?_⟩
   simp only [dH,au] at hd
   subst hd
   exact ⟨rfl,rfl⟩
  .obtain ⟨hroom,ef⟩:=Bool.aw ef
   simp only [au] at ef
   subst ef
   rename_i k
   simp only [dU,di] at hroom
   have hroom:room (k+1) y.bytes:=⟨dR hroom.1,dR hroom.2⟩
   obtain ⟨v',w',q1,q2,q3,q4⟩:=fC sf hk hy fw (w.ownsRow_nil w0.base el y.size) h.size_le sZ hl hcell h1 (by simpa using hroom) ty
   simp only [Nat.zero_add,List.nil_append] at q2
   obtain ⟨E',h4,h5,h6⟩:=h.BI hf (dead:=none) (row:=none) (n:=k+1) (l:=l') q3 q2 (λk hk=>by cases hk) (λk hk=>by
    grind [Value.ownBlock]) hrel
   refine ⟨v',w',E',q1,h5,h4,λd hd=>?_⟩
   simp only [dH,au] at hd
   subst hd
   exact h6
 .rename_i r m
  split at ef
  case h_3=>simp at ef
  .rename_i qQ cL n l hlr
   rw [bV,bg] at hlr
   obtain ⟨he,ef⟩:=Bool.aw ef
   obtain ⟨hroom,ef⟩:=Bool.aw ef
   simp only [au] at ef
   subst ef
   simp only [di] at he hroom
   have he1:=cg he.1
   have he2:=cg he.2
   subst he1 he2
   have hmn:=cg hroom.1
   subst hmn
   have hroom:=hroom.2
   simp only [dU,di] at hroom
   have hroom:room (m+k) y.bytes:=⟨dR hroom.1,dR hroom.2⟩
   obtain ⟨e',a',n',cap',h2,h3,h4,rfl⟩:=hc
   obtain ⟨q1,q2,xs,q3,q4⟩:=h.roots r _ _ hlr h2
   have nr:n'=m:=by
    rcases q3.2 with ⟨q5,q6⟩|⟨g,cap2,cur,q5,_⟩
    all_goals grind
   subst nr
   rw [<- h3]
   obtain ⟨v',w',p1,p2,p3,p4⟩:=fC sf hk hy fw q3 h.size_le sZ hl hcell h1 hroom ty
   have iL:∀ b,e'.2.1.1.ownBlock=some b->bh E r b e'.2.2:=by
    intro b hb
    obtain ⟨e1,e2,e3⟩:=e'
    have q2:e1=e2.1.ownBlock:=q2
    have hb:e2.1.ownBlock=some b:=hb
    rw [hb] at q2
    subst q2
    exact ⟨e2,h2⟩
   obtain ⟨E',h5,h6,h7⟩:=h.BI hf (dead:=some r) (row:=e'.2.1.1.ownBlock) (n:=n'+k) (l:=l++l') p3 p2 (λb hb=>⟨r,_,_,rfl,hlr,trivial,iL b hb⟩) (λb hb=>p4 b hb) (q4.append hrel)
   have hkill:kill (some r) s.rs=setAt s.rs r .dead:=by rw [ba]; rfl
   rw [hkill] at h5 h7
   refine ⟨v',w',E',p1,h6,h5,λd hd=>?_⟩
   simp only [dH,au] at hd
   subst hd
   exact h7
  .rename_i qQ cL n get hlr
   rw [bV,bg] at hlr
   split at ef
   case h_2=>simp at ef
   obtain ⟨he,ef⟩:=Bool.aw ef
   obtain ⟨hroom,ef⟩:=Bool.aw ef
   simp only [au] at ef
   subst ef
   simp only [di] at he hroom
   have he1:=cg he.1
   have he2:=cg he.2
   subst he1 he2
   have hmn:=cg hroom.1
   subst hmn
   have hroom:=hroom.2
   simp only [dU,di] at hroom
   have hroom:room (m+1) y.bytes:=⟨dR hroom.1,dR hroom.2⟩
   obtain ⟨e',a',n',cap',h2,h3,h4,rfl⟩:=hc
   obtain ⟨q1,q2,xs,q3,Ks,hK,hfo,q4⟩:=h.roots r _ _ hlr h2
   have nr:n'=m:=by
    rcases q3.2 with ⟨q5,q6⟩|⟨g,cap2,cur,q5,_⟩
    all_goals grind
   subst nr
   rw [<- h3]
   obtain ⟨v',w',p1,p2,p3,p4⟩:=fC sf hk hy fw q3 h.size_le sZ hl hcell h1 hroom ty
   have iL:∀ b,e'.2.1.1.ownBlock=some b->bh E r b e'.2.2:=by
    intro b hb
    obtain ⟨e1,e2,e3⟩:=e'
    have q2:e1=e2.1.ownBlock:=q2
    have hb:e2.1.ownBlock=some b:=hb
    rw [hb] at q2
    subst q2
    exact ⟨e2,h2⟩
   have hKo:∀ k,e'.2.1.2 k->cM E r k e'.2.2:=λk hk=>⟨e',h2,rfl,.inr hk⟩
   have hxl:=q3.1
   have hl1:l'.length=y.size:=by rw [hrel.length,hl]; omega
   obtain ⟨E',h5,h6,h7⟩:=h.Rg hf (dead:=some r) (row:=e'.2.1.1.ownBlock) (n:=n'+1) (get:=get) (dJ:=some (n',l'.map Fc.c)) (K:=e'.2.1.2) (Ks:=Ks) p3 p2 (λb hb=>⟨r,_,_,rfl,hlr,trivial,iL b hb⟩) (λb hb=>p4 b hb)
    (λk hk=>⟨r,_,_,rfl,hlr,trivial,hKo k hk⟩)
    ⟨hK.sub,λi j b hb e=>by
     rcases p4 b e with p5|p5
     .exact hK.ne i j b hb p5.symm
     .have:=(h.cJ r _ b _ hlr trivial (hKo b (hK.sub i j b hb))).2
      omega,hK.inj⟩
    (λx hx=>by grind)
    (λi j b hb=>p3.block b (h.cJ r _ b _ hlr trivial (hKo b (hK.sub i j b hb))).2 λe=>hK.ne i j b hb e.symm)
    (λi hi j hj=>by
     unfold fR
     cases hb:Nat.beq i n' with
     | true=>
       have gI:=Nat.eq_of_beq_eq_true hb
       subst gI
       simp only [bg]
       have hjl:j<l'.length:=by omega
       have hx:=ka hjl
       obtain ⟨u,g1,g2⟩:=hrel.nth (i:=j) (x:=l'[j]) (by rw [bg]; exact hx)
       exact ⟨u,.c l'[j],by grind,by grind,g2⟩
     | false=>
       have wc:i≠n':=λe=>by grind
       obtain ⟨u,c,g1,g2,g3⟩:=q4 i (by omega) j hj
       have eG:i*y.size+j<xs.length:=(List.getElem?_eq_some_iff.1 g1).1
       exact ⟨u,c,by grind,by simp only [hb]; exact g2,g3⟩)
   have hkill:kill (some r) s.rs=setAt s.rs r .dead:=by rw [ba]; rfl
   rw [hkill] at h5 h7
   refine ⟨v',w',E',p1,h6,h5,λd hd=>?_⟩
   simp only [dH,au] at hd
   subst hd
   exact h7
 .simp at ef
theorem Hv (h:R T N ax w0 sp s a w E) {b:Nat} (hf:kG s E b) {t el:TypeId} {y0 y:Ty} (sf:b6 P t y0) (hk:y0.kd=.slice el) (hy:b6 P el y) (fw:0<y.size)
  {k:Nat} {get':Nat->Nat->I} {c:C} {v:Value} (hc:a7 E (AV ax s.rs E) w c v) {ao:Option Addr} {cap:Nat} (sZ:ao=none->k=0) {news:List Value} (hl:news.length=k*y.size)
  (hcell:∀ ad,ao=some ad->∀ j u,news[j]?=some u->w.cell? (ad.add j)=some u) (h1:∀ u∈news,u.oneCell'=true) (hrel:∀ i,i<k->∀ j,j<y.size->∃ x,news[i*y.size+j]?=some x/\cF (AV ax s.rs E) w (get' i j) x)
  {e:cn} (ef:qM el y.size k get' y.bytes b s.rs c=some e) (ty:TypeId) :
  ∃ v' w' E',(Builtin.append_ #[t,t] ty #[v,.slice ao k cap]).run P w=.ok v' w'/\iC T N ax w0 sp s a w E b e v' w' E':=by
 unfold qM at ef
 split at ef
 .obtain ⟨rfl,_⟩:=hc
  obtain ⟨hroom,ef⟩:=Bool.aw ef
  simp only [au] at ef
  subst ef
  simp only [dU,di] at hroom
  have hroom:room k y.bytes:=⟨dR hroom.1,dR hroom.2⟩
  obtain ⟨v',w',q1,q2,q3,q4⟩:=fC sf hk hy fw (w.ownsRow_nil w0.base el y.size) h.size_le sZ hl hcell h1 (by simpa using hroom) ty
  simp only [Nat.zero_add,List.nil_append] at q2
  obtain ⟨E',h4,h5,h6⟩:=h.vi hf (dead:=none) (row:=none) (n:=k) (get:=get') q3 q2 (λk hk=>by cases hk) (λk hk=>by
   grind [Value.ownBlock]) hrel
  refine ⟨v',w',E',q1,h5,h4,λd hd=>?_⟩
  simp only [dH,au] at hd
  subst hd
  exact h6
 .rename_i r m
  split at ef
  case h_2=>simp at ef
  rename_i qQ cL n get hlr
  rw [bV,bg] at hlr
  obtain ⟨he,ef⟩:=Bool.aw ef
  obtain ⟨hroom,ef⟩:=Bool.aw ef
  obtain ⟨hmn,ef⟩:=Bool.aw ef
  simp only [au] at ef
  subst ef
  simp only [di] at he
  have he1:=cg he.1
  have he2:=cg he.2
  subst he1 he2
  have hmn:=cg hmn
  subst hmn
  simp only [dU,di] at hroom
  have hroom:room (m+k) y.bytes:=⟨dR hroom.1,dR hroom.2⟩
  obtain ⟨e',a',n',cap',h2,h3,h4,rfl⟩:=hc
  obtain ⟨q1,q2,xs,q3,q4⟩:=h.roots r _ _ hlr h2
  have nr:n'=m:=by
   rcases q3.2 with ⟨q5,q6⟩|⟨g,cap2,cur,q5,_⟩
   all_goals grind
  subst nr
  rw [<- h3]
  obtain ⟨v',w',p1,p2,p3,p4⟩:=fC sf hk hy fw q3 h.size_le sZ hl hcell h1 hroom ty
  have iL:∀ b,e'.2.1.1.ownBlock=some b->bh E r b e'.2.2:=by
   intro b hb
   obtain ⟨e1,e2,e3⟩:=e'
   have q2:e1=e2.1.ownBlock:=q2
   have hb:e2.1.ownBlock=some b:=hb
   rw [hb] at q2
   subst q2
   exact ⟨e2,h2⟩
  obtain ⟨E',h5,h6,h7⟩:=h.vi hf (dead:=some r) (row:=e'.2.1.1.ownBlock) (n:=n'+k) (get:=kB n' get get') p3 p2 (λb hb=>⟨r,_,_,rfl,hlr,trivial,iL b hb⟩) (λb hb=>p4 b hb) (λi hi j hj=>by
   have hxl:=q3.1
   rw [TQ]
   unfold app
   by_cases hin:i<n'
   .grind
   .obtain ⟨x,g1,g2⟩:=hrel (i-n') (by omega) j hj
    refine ⟨x,?_,by rw [if_neg hin]; exact g2⟩
    have e1:i*y.size+j=n'*y.size+((i-n')*y.size+j):=by
     have:i*y.size=n'*y.size+(i-n')*y.size:=by rw [<- Nat.add_mul]; congr 1; omega
     omega
    grind)
  have hkill:kill (some r) s.rs=setAt s.rs r .dead:=by rw [ba]; rfl
  rw [hkill] at h5 h7
  refine ⟨v',w',E',p1,h6,h5,λd hd=>?_⟩
  simp only [dH,au] at hd
  subst hd
  exact h7
 .simp at ef
theorem G4 (bC:cZ P T) (h:R T N ax w0 sp s a w E) (hn:bw s.sl) {b:Nat} (hf:kG s E b) {ts:List TypeId} {xs:List Operand} {e:cn} (ef:ob T b s ts xs=some e) (ty:TypeId) :
  (∃ l,e=.ct l)∨∃ v' w' E',(Builtin.append_ ts.toArray ty (xs.map a.eval).toArray).run P w=.ok v' w'/\iC T N ax w0 sp s a w E b e v' w' E':=by
 unfold ob at ef
 split at ef
 case h_2=>simp at ef
 rename_i t t' x y'
 replace ef:=Bool.aw ef
 obtain ⟨ht,ef⟩:=ef
 have ht:=cg ht
 subst ht
 split at ef
 case h_2=>simp at ef
 rename_i Cf ie z0 el sf
 have sf:=bC.ty _ _ sf
 split at ef
 .rename_i e' he'
  subst ef
  unfold o5 at he'
  split at he'
  case h_2=>simp at he'
  rename_i c src hc hsrc
  split at he'
  case h_2=>simp at he'
  split at he'
  case h_2=>simp at he'
  rename_i y hy
  have hy:=bC.ty _ _ hy
  simp only [au] at he'
  unfold AE at he'
  have hc:=h.ch hn (bT hc)
  have hsrc:=h.ch hn (bT hsrc)
  split at he'
  .rename_i k get' hs
   obtain ⟨fw,he'⟩:=Bool.aw he'
   obtain ⟨ao,cap,hv2,sZ,news,hl,hcell,h1,hrel⟩:=Hm h hs hsrc
   simp only [List.map_cons,List.map_nil]
   rw [hv2]
   exact .inr (Hv h hf sf rfl hy (aM fw) hc sZ hl hcell h1 hrel he' ty)
  grind [nW]
 refine .inr ?_
 unfold nZ at ef
 split at ef
 case h_2=>simp at ef
 rename_i y hy
 have hy:=bC.ty _ _ hy
 split at ef
 case h_2=>simp at ef
 rename_i src hsrc
 have hsrc:=h.ch hn (bT hsrc)
 split at ef
 case h_2=>simp at ef
 rename_i sz k l' hs
 obtain ⟨ao,cap,hv2,sZ,news,hl,hcell,h1,hrel⟩:=xo h hs hsrc
 split at ef
 case h_2=>simp at ef
 rename_i c hc
 have hc:=h.ch hn (bT hc)
 simp only [List.map_cons,List.map_nil]
 rw [hv2]
 split at ef
 .
  have hnews:news=[]:=List.eq_nil_of_length_eq_zero (by simpa using hl)
  subst hnews
  replace ef:=Bool.aw ef
  obtain ⟨fw,ef⟩:=ef
  exact zZ h hf sf rfl hy (aM fw) hc sZ (by simp) (λ_ _ j u hj=>by simp at hj) (λu hu=>by cases hu) .nil ef ty
 .replace ef:=Bool.aw ef
  obtain ⟨gA,ef⟩:=ef
  simp only [di] at gA
  have hsz1:=cg gA.1
  subst hsz1
  exact zZ h hf sf rfl hy (aM gA.2) hc sZ hl hcell h1 hrel ef ty
end
noncomputable section
def nv (acc:List Nat) (l:List Edge):Nat->Nat:=List.rec (λm=>m) (λe _ ih m=>Bool.rec (ih m) (ih (Nat.lor (Nat.lor (Nat.shiftLeft 1 e.on) m) (match aR acc e.on with
 | some x=>x
 | none=>0))) (Region.binds .any e)) l
def iN (l:List Oper):List Nat->List Nat:=List.rec (λacc=>acc) (λo _ ih acc=>ih (acc++[nv acc o.after.toList 0])) l
def om (t:Tmp) (l:List Oper):Nat->Option Nat:=List.rec (λ_=>none) (λo _ ih k=>match o.dst with
 | some t'=>Bool.rec (ih (k+1)) (some k) (Nat.beq t t')
 | none=>ih (k+1)) l
def JL (ops:List Oper) (m:Nat) (t:Tmp):Bool:=match om t ops 0 with
 | some j=>Nat.testBit m j
 | none=>true
def rU (ops:List Oper) (m:Nat) (l:List Operand):Bool:=List.rec true (λx _ ih=>match x with
 | .tmp t=>Bool.rec false ih (JL ops m t)
 | _=>ih) l
def Ax (m:Nat) (g:Option (Nat×Bool)):Bool:=match g with
 | some (j,_)=>Nat.testBit m j
 | none=>true
def FO (ops l:List Oper):List Nat->Bool:=List.rec (λ_=>true) (λo _ ih ms=>match ms with
 | m::ms=>Bool.rec false (ih ms) (Ax m o.guard&&rU ops m o.op.operands.toList)
 | []=>false) l
def Hn (t:Tmp) (l:List Oper):Bool:=match om t l 0 with
 | some _=>false
 | none=>true
def EX (l:List Oper):Bool:=List.rec true (λo l ih=>match o.dst with
 | some t=>Bool.rec false ih (Hn t l)
 | none=>ih) l
def Bm (l:List Nat):Nat->Bool:=List.rec (λ_=>true) (λm _ ih i=>Bool.rec false (ih (i+1)) (Nat.blt m (Nat.shiftLeft 1 i))) l
def rk (ops:List Oper):Bool:=EX ops&&(FO ops ops (iN ops [])&&Bm (iN ops []) 0)
def FU (c:Callee):Nat:=match c with
 | .builtin .append=>1
 | .value _=>1
 | _=>0
def dP (op:Op):Nat:=match op with
 | .box _ _=>1
 | .alloc _=>1
 | .buildSlice _ _ _=>1
 | .makeMap _ _=>1
 | .makeSlice _ _ _=>1
 | .call c=>FU c.callee
 | _=>0
def dI (l:List Oper):Nat:=List.rec 0 (λo _ ih=>dP o.op+ih) l
structure j8 where
 dst:Option Tmp
 val:Option D
 ws:List (Nat×ae)
 al:Option (List ae)
 ex:Bool:=false
def yw (s:VS) (dst:Option Tmp) (d:Option D):VS:=match dst with
 | some t=>match d with
   | some d=>{ s with sl:=(t,d,[])::s.sl }
   | none=>s
 | none=>s
def CC (al:Option (List ae)) (rs:List ae):List ae:=match al with
 | some aG=>aG
 | none=>rs
def j8.on (u:j8) (s:VS):VS:=yw { s with rs:=writes u.ws (CC u.al s.rs) } u.dst u.val
def CU (N:Nat) (dst:Option Tmp) (d:Option D):Bool:=match dst with
 | some t=>match d with
   | some _=>Nat.blt t N
   | none=>false
 | none=>true
inductive YG where
 | ct (l:List Nat)
 | ok (u:j8)
def MS (i m:Nat) (ck:List Nat):Nat->Bool:=List.rec (λ_=>true) (λx _ ih k=>Bool.rec false (ih (k+1)) (Nat.beq k i||(Nat.testBit m k||Nat.testBit x i))) ck
def Et (ck:List Nat) (i:Nat):Bool:=match aR ck i with
 | some m=>MS i m ck 0
 | none=>false
def eqV (x y:Value):Bool:=match x,y with
 | .int .i64 a,.int .i64 b=>a==b
 | .bool a,.bool b=>Lj a b
 | _,_=>false
def PQ (x y:C):Bool:=match x,y with
 | .im (.v a),.im (.v b)=>eqV a b
 | .rt r i j,.rt r' i' j'=>Nat.beq r r'&&(Nat.beq i i'&&Nat.beq j j')
 | .sa r m,.sa r' m'=>Nat.beq r r'&&Nat.beq m m'
 | .mp r,.mp r'=>Nat.beq r r'
 | _,_=>false
def Wp (l:List C):List C->Bool:=List.rec (λm=>match m with
 | []=>true
 | _=>false) (λx _ ih m=>match m with
 | y::m=>Bool.rec false (ih m) (PQ x y)
 | []=>false) l
def ND (x y:ae):Bool:=match x,y with
 | .dead,.dead=>true
 | .box l,.box m=>Wp l m
 | _,_=>false
def xE (n:Nat) (l:List Nat):Bool:=List.rec true (λr _ ih=>Bool.rec false ih (Nat.blt r n)) l
def uH (n:Nat) (x:C):Bool:=match x with
 | .im _=>true
 | .rt r _ _=>Nat.blt r n
 | .sa r _=>Nat.blt r n
 | .mp r=>Nat.blt r n
 | .yl r=>Nat.blt r n
 | .ow r _=>Nat.blt r n
 | .fh _ l=>xE n l
def hX (n:Nat) (l:List C):Bool:=List.rec true (λx _ ih=>Bool.rec false ih (uH n x)) l
def wq (n:Nat) (x:Fc):Bool:=match x with
 | .c x=>uH n x
 | .o _=>true
def um (n:Nat) (l:List Fc):Bool:=List.rec true (λx _ ih=>Bool.rec false ih (wq n x)) l
def gK (n:Nat) (x:ae):Bool:=match x with
 | .dead=>true
 | .box l=>hX n l
 | .row _ _ _ l=>hX n l
 | .arr _ _ _ _=>true
 | .bL _ _ _ _ none=>true
 | .own _=>true
 | .bL _ _ _ _ (some x)=>um n x.2
 | .set _=>true
 | .kF=>true
 | _=>false
def AF (n:Nat) (l:List (Bool×List C)):Bool:=List.rec true (λx _ ih=>Bool.rec false ih (hX n x.2)) l
def jf (n:Nat) (d:D):Bool:=match d with
 | .c x=>uH n x
 | .a l=>hX n l
 | .t l=>AF n l
def xP (n:Nat) (rs:List ae):List ae->Nat->Option (List (Nat×ae)):=List.rec (λ_ _=>some []) (λx _ ih aG k=>match aG with
 | y::aG=>Bool.rec (Bool.rec none (match ih aG (k+1) with
   | some ws=>some ((k,y)::ws)
   | none=>none) (gK n y)) (ih aG (k+1)) (ND x y)
 | []=>none) rs
def M0 (lo:Lo) (dst:Option Tmp) (d:D) (rs aG:List ae):Option YG:=match lo.diff rs aG with
 | some ws=>Bool.rec none (some (.ok ⟨dst,some d,ws,none,true⟩)) (jf rs.length d)
 | none=>none
def E9 (lo:Lo) (rs:List ae) (ck:List Nat) (i:Nat) (dst:Option Tmp) (e:Option cn):Option YG:=match e with
 | some (.val d)=>some (.ok ⟨dst,some d,[],none,false⟩)
 | some (.wr d ws)=>some (.ok ⟨dst,d,ws,none,false⟩)
 | some (.ct l)=>some (.ct l)
 | some (.all d aG)=>Bool.rec (M0 lo dst d rs aG) (some (.ok ⟨dst,some d,[],some aG,false⟩)) (Et ck i)
 | none=>none
def kz (T:dk) (lo:Lo) (hi:Hint) (ck:List Nat) (i b:Nat) (ops:List Oper) (s:VS) (o:Oper):Option YG:=match lV ops s.sl o.guard with
 | some true=>E9 lo s.rs ck i o.dst (fH T lo hi b s o.dst o.op)
 | some false=>some (.ok ⟨o.dst,some (.t []),[],none,false⟩)
 | none=>none
inductive Eu where
 | ct (l:List Nat)
 | ok (W:List (Nat×List Nat)) (s:VS)
def C3 (k:Nat) (u:j8) (W:List (Nat×List Nat)):List (Nat×List Nat):=match u.ws with
 | []=>W
 | ws=>W++[(k,ws.map (·.1))]
def lk (T:dk) (lo:Lo) (hi:Hint) (N:Nat) (ck:List Nat) (ops l:List Oper):Nat->Nat->List (Nat×List Nat)->VS->Option Eu:=List.rec (λ_ _ W s=>some (.ok W s)) (λo _ ih k b W s=>
 match kz T lo hi ck k b ops s o with
 | some (.ok u)=>Bool.rec none (ih (k+1) (b+dP o.op) (C3 k u W) (u.on s)) (CU N u.dst u.val)
 | some (.ct c)=>some (.ct c)
 | none=>none) l
def dL (ck:List Nat) (i m:Nat) (W:List (Nat×List Nat)):List Nat:=List.rec [] (λw _ ih=>
 Bool.rec (w.2++ih) ih (Nat.beq w.1 i||(Nat.testBit m w.1||(match aR ck w.1 with
  | some x=>Nat.testBit x i
  | none=>false)))) W
def vF (l:List Nat) (rs:List ae):List ae:=List.rec (λrs=>rs) (λq _ ih rs=>ih (setAt rs q .dead)) l rs
def nS (n:Nat) (l:List Nat):Bool:=List.rec false (λx _ ih=>Bool.rec ih true (Nat.beq x n)) l
def mo (l m:List Nat):Bool:=List.rec true (λx _ ih=>Bool.rec ih false (nS x m)) l
def mO (k:Nat) (W:List (Nat×List Nat)):List Nat:=match findF k W with
 | some l=>l
 | none=>[]
def Ch (l m:List Nat):Bool:=List.rec true (λx _ ih=>Bool.rec false ih (nS x m)) l
def T1 (l:List Nat) (s:VS):VS:=match l with
 | []=>s
 | _=>{ s with rs:=vF l s.rs }
def Q1 (ex:Bool) (l:List Nat):Bool:=match ex with
 | false=>true
 | true=>match l with
   | []=>true
   | _=>false
def jT (T:dk) (lo:Lo) (hi:Hint) (N:Nat) (ops:List Oper) (ck:List Nat) (W:List (Nat×List Nat)) (l:List Oper):List Nat->Nat->Nat->VS->Option VS:=List.rec (λ_ _ _ s=>some s) (λo _ ih ms i b s=>
 match ms with
 | m::ms=>match kz T lo hi ck i b ops (T1 (dL ck i m W) s) o with
   | some (.ok u)=>Bool.rec none (ih ms (i+1) (b+dP o.op) (u.on s)) (CU N u.dst u.val&&(Ch (u.ws.map (·.1)) (mO i W)&&(mo (u.ws.map (·.1)) (dL ck i m W)&&Q1 u.ex (dL ck i m W))))
   | _=>none
 | []=>none) l
def fy (ops:List Oper) (s:VS):VS:={ s with rs:=s.rs++List.replicate (dI ops) .dead }
def z6 (T:dk) (lo:Lo) (hi:Hint) (N:Nat) (ops:List Oper) (s0 s':VS) (b:Nat) (W:List (Nat×List Nat)):Option VS:=match W with
 | []=>some s'
 | _=>jT T lo hi N ops (iN ops []) W ops (iN ops []) 0 b s0
def xa (T:dk) (lo:Lo) (hi:Hint) (N:Nat) (ops:List Oper) (n:Nat):VS->Option VS:=Nat.rec (λ_=>none) (λ_ ih s=>
 match lk T lo hi N (iN ops []) ops ops 0 s.rs.length [] (fy ops s) with
 | some (.ct l)=>match gg l s with
   | some s'=>ih s'
   | none=>none
 | some (.ok W s')=>z6 T lo hi N ops (fy ops s) s' s.rs.length W
 | none=>none) n
def sy (hi:Hint) (f:FuncId) (id:Nat) (s:VS):VS:=match hi.ah2 f id with
 | some l=>{ s with sl:=tW s.sl l }
 | none=>s
def regionF (T:dk) (lo:Lo) (hi:Hint) (N:Nat) (f:FuncId) (ro:Option Nat) (id:Nat) (ops:List Oper) (draw:Bool) (s:VS):Option VS:=match draw with
 | false=>match Le T lo hi N ops ops s with
   | some s'=>some (sy hi f id s')
   | none=>none
 | true=>match ro with
   | some _=>none
   | none=>match rk ops with
     | true=>match xa T lo hi N ops 8 s with
       | some s'=>some (sy hi f id s')
       | none=>none
     | false=>none
def tG (ro:Option Nat) (s:VS):Option VS:=match ro with
 | some r=>match aR s.rs r with
   | some (.loop g M sl ps as bd .ready none)=>some { s with rs:=setAt s.rs r (.loop g M sl ps as bd .busy none) }
   | _=>none
 | none=>none
def oF (lo:Lo) (N:Nat) (f:FuncId) (ro:Option Nat) (g:Operand) (ps:List Tmp) (as b:Code) (s:VS):Option (Option Code×VS):=match ro with
 | some _=>none
 | none=>match cR (ch s.sl g) with
   | some c=>match oN c with
     | some (h,dQ)=>match lo.call h (.c (.yl (s.rs.length+1))::dQ) (s.rs++[.kF,.loop f N s.sl ps as b .ready none]) with
       | some (_,aG)=>match aR aG (s.rs.length+1) with
         | some (.loop _ _ _ _ _ _ .ready none)=>some (none,{ s with rs:=setAt aG (s.rs.length+1) .dead,df:=s.rs.length::s.df })
         | some (.loop _ _ _ _ _ _ .done (some c))=>some (some c,{ s with rs:=setAt aG (s.rs.length+1) .dead,df:=s.rs.length::s.df })
         | _=>none
       | none=>none
     | none=>none
   | none=>none
def yV (j:Option Code) (k:List Item):List Item:=match j with
 | some c=>.code c::k
 | none=>k
def yt (T:dk) (lo:Lo) (hi:Hint) (N:Nat) (f:FuncId) (ro:Option Nat) (n:Nat):List Item->VS->Option (Option Code×VS):=Nat.rec (λ_ _=>none) (λ_ ih todo s=>match todo with
 | []=>some (none,s)
 | x::k=>match x with
   | .inBlock _=>ih k s
   | .inLoop c=>ih (.code c::.inLoop c::k) s
   | .beginRound=>match tG ro s with
     | some s'=>ih k s'
     | none=>none
   | .code c=>match c with
     | .skip=>ih k s
     | .label _=>ih k s
     | .ret=>some (some .ret,s)
     | .seq a b=>ih (.code a::.code b::k) s
     | .cond c a b=>match iQ (ch s.sl c) with
       | some p=>ih (.code (Bool.rec b a p)::k) s
       | none=>none
     | .block id c=>ih (.code c::.inBlock id::k) s
     | .loop c=>ih (.code c::.inLoop c::k) s
     | .exit id=>match exitTo id k with
       | some k'=>ih k' s
       | none=>some (some (.exit id),s)
     | .region id ops draw=>match regionF T lo hi N f ro id ops.toList draw s with
       | some s'=>ih k s'
       | none=>none
     | .rangeFunc g ps as b=>match oF lo N f ro g ps.toList as b s with
       | some (j,s')=>ih (yV j k) s'
       | none=>none
     | _=>none
   | _=>none) n
def NF (l:List Nat):List ae->Option (List ae):=List.rec (λrs=>some rs) (λr _ ih rs=>match aR rs r with
 | some .kF=>ih (setAt rs r .dead)
 | _=>none) l
def uY (T:dk) (s:VS) (x:ResultVar):Option (Bool×List C):=match (match x with
  | .tmp t=>dW s.sl t
  | .cell ad t=>ki T s t (.tmp ad)) with
 | some (.c x)=>some (false,[x])
 | some (.a l)=>some (true,l)
 | _=>none
def CK (T:dk) (s:VS) (l:List ResultVar):Option (List (Bool×List C)):=List.rec (some []) (λx _ ih=>match uY T s x,ih with
 | some q,some l=>some (q::l)
 | _,_=>none) l
def V0 (T:dk) (s:VS) (l:List ResultVar):Option D:=match CK T s l with
 | some [(false,[x])]=>some (.c x)
 | some [(true,l)]=>some (.a l)
 | some l=>some (.t l)
 | none=>none
def Ot (T:dk) (s:VS) (l:List ResultVar):Option (D×List ae):=match NF s.df s.rs with
 | some rs=>match V0 T { s with rs:=rs } l with
   | some d=>some (d,rs)
   | none=>none
 | none=>none
def LG (j:Option Code):Bool:=match j with
 | none=>true
 | some .ret=>true
 | _=>false
def KO (N:Nat) (ps:List Tmp):List D->aL->Option aL:=List.rec (λds sl=>match ds with
 | []=>some sl
 | _=>none) (λt _ ih ds sl=>match ds with
 | d::ds=>Bool.rec none (ih ds ((t,d,[])::sl)) (Nat.blt t N)
 | []=>none) ps
def PZ (T:dk) (hi:Hint) (F:FuncId->Option Func) (fuel:Nat) (lo:Lo) (f:FuncId) (ds:List D) (rs:List ae):Option (D×List ae):=match F f with
 | some fn=>match fn.body with
   | some c=>Bool.rec none (match yt T lo hi fn.ntmps f none fuel [.code c] ⟨cP 0 ds,rs,[]⟩ with
     | some (j,s)=>Bool.rec none (Ot T s fn.results.toList) (LG j)
     | none=>none) (Nat.ble ds.length fn.ntmps)
   | none=>none
 | none=>none
def Pf (T:dk) (hi:Hint) (F:FuncId->Option Func) (Kn:FuncId->Option D) (fuel:Nat) (lo:Lo) (f:FuncId) (ds:List D) (rs:List ae):Option (D×List ae):=match Kn f with
 | some d=>match ds with
   | []=>some (d,rs)
   | _=>none
 | none=>PZ T hi F fuel lo f ds rs
def AZ (r:Nat) (j:Option Code) (s:VS):Option (D×List ae):=match s.df with
 | []=>match aR s.rs r with
   | some (.loop f N sl ps as bd .busy none)=>match j with
     | none=>some (bool true,setAt s.rs r (.loop f N sl ps as bd .ready none))
     | some c=>some (bool false,setAt s.rs r (.loop f N sl ps as bd .done (some c)))
   | _=>none
 | _=>none
def VG (T:dk) (hi:Hint) (fuel:Nat) (lo:Lo) (r:Nat) (ds:List D) (rs:List ae):Option (D×List ae):=match aR rs r with
 | some (.loop f N sl ps as bd .ready none)=>match KO N ps ds sl with
   | some sl=>match yt T lo hi N f (some r) fuel [.code as,.beginRound,.code bd] ⟨sl,rs,[]⟩ with
     | some (j,s)=>AZ r j s
     | none=>none
   | none=>none
 | _=>none
def loN (T:dk) (hi:Hint) (F:FuncId->Option Func) (Kn:FuncId->Option D) (fuel:Nat) (n:Nat):Lo:=Nat.rec ⟨λ_ _ _=>none,λ_ _ _=>none,λrs aG=>xP rs.length rs aG 0,λ_ _ _=>none⟩ (λ_ ih=>⟨Pf T hi F Kn fuel ih,VG T hi fuel ih,λrs aG=>xP rs.length rs aG 0,λ_ _ _=>none⟩) n
end
open Go.RowKit
structure Kept (E E':Env):Prop where
 le:Env.le E E'
 free:∀ q:Nat,E[q]?=some hole->E'[q]?=some hole
theorem Kept.refl (E:Env):Kept E E:=⟨Env.le_refl E,λ_ h=>h⟩
theorem Kept.trans {E F G:Env} (h:Kept E F) (k:Kept F G):Kept E G:=⟨h.le.trans k.le,λq e=>k.free q (h.free q e)⟩
theorem Kept.IM {E E':Env} {b:Nat} (h:lN b E E') (hb:E.length<=b):Kept E E':=⟨h.le,λq e=>h.free q (λhq=>by
 grind) e⟩
theorem Kept.Xb {E E':Env} (h:Kept E E') (b:Nat):lN b E E':=⟨h.le,λq _=>h.free q⟩
def Mi (diff:List ae->List ae->Option (List (Nat×ae))):Prop:=∀ rs aG ws,diff rs aG=some ws->∀ (q:Nat) (x:ae),(writes ws rs)[q]?=some x->aG[q]?=some x/\(rs[q]?=some x∨gK rs.length x=true)
structure gw (T:dk) (P:Program) (lo:Lo):Prop where
 call:∀ f ds rs d aG,lo.call f ds rs=some (d,aG)->Enters P f/\∀ (N:Nat) (ax:Nat->Prop) (w0:Kp) (sp:List (D×Value)) (sl:aL) (df:List Nat) (a:Act) (w:World) (E:Env) (vs:List Value),R T N ax w0 sp ⟨sl,rs,df⟩ a w E->az (aQ E (AV ax rs E) w) ds vs->
  Go.Calls P f vs.toArray w λe w'=>∃ v E',e=.returned v/\Kept E E'/\R T N ax w0 sp ⟨sl,aG,df⟩ a w' E'/\aQ E' (AV ax aG E') w' d v
 PD:∀ r ds rs d aG,lo.PD r ds rs=some (d,aG)->∀ (N:Nat) (ax:Nat->Prop) (w0:Kp) (sp:List (D×Value)) (sl:aL) (df:List Nat) (a:Act) (w:World) (E:Env) (vs:List Value),R T N ax w0 sp ⟨sl,rs,df⟩ a w E->az (aQ E (AV ax rs E) w) ds vs->
  ∃ b sz f tm as bd,bh E r b sz/\(Instr.yield b vs.toArray).run P w=.ok (.round b f tm as bd) w/\
   xi P b f tm as bd w λv w'=>∃ E',Kept E E'/\R T N ax w0 sp ⟨sl,aG,df⟩ a w' E'/\aQ E' (AV ax aG E') w' d v
 diff:Mi lo.diff
 wr:∀ f ds rs d q x,lo.wr f ds rs=some (d,q,x)->Enters P f/\∀ (N:Nat) (ax:Nat->Prop) (w0:Kp) (sp:List (D×Value)) (sl:aL) (df:List Nat) (a:Act) (w:World) (E:Env) (vs:List Value),R T N ax w0 sp ⟨sl,rs,df⟩ a w E->az (aQ E (AV ax rs E) w) ds vs->
  Go.Calls P f vs.toArray w λe w'=>∃ v E',e=.returned v/\Kept E E'/\R T N ax w0 sp ⟨sl,place q x rs,df⟩ a w' E'/\aQ E' (AV ax (place q x rs) E') w' d v
 mono:∀ f ds rs oU r,rs.length=oU.length->(∀ (q:Nat) (x:ae),aR rs q=some x->x.live->aR oU q=some x)->lo.wr f ds rs=some r->lo.wr f ds oU=some r
section
variable {P:Program} {T:dk} {lo:Lo} {hi:Hint} {N:Nat} {ax:Nat->Prop} {w0:Kp} {sp:List (D×Value)} {s:VS} {a:Act} {w:World} {E:Env}
theorem R.none {av:Nat->Prop} (eT:∀ b,av b->b<w.heap.size) (hg:pG T av w):R T 0 av (Kp.of w) [] ⟨[],[],[]⟩ { tmps := #[],defers:=[] } w []:=
 ⟨rfl,.nil,λ_ hx=>(by cases hx),Kp.holds_of (Below.refl _ _),rfl,λb q=>⟨eT b q,λq=>q⟩,λr x e h1=>(by simp at h1),λr x b sz h1=>(by simp at h1),λr r' x x' b sz cL h1=>(by simp at h1),λt d c h1=>(by simp [look] at h1),hg.mono (aW.refl _ w) (λb _ q=>q.elim id λ⟨r,x,sz,h1,_⟩=>by simp at h1)⟩
theorem sU {av:Nat->Prop}:∀ b,AV av [] [] b↔av b:=λb=>⟨λq=>q.elim id λ⟨r,x,sz,h1,_⟩=>by simp at h1,.inl⟩
theorem gw.pure (hl:gw T P lo) {f:FuncId} {is:List D} {d:D} {aG:List ae} (e:lo.call f is []=some (d,aG)) {d':D} (e':dg aG d=some d'):EN T P f is d':=by
 intro av w vs eT hgl uV
 have h0:=(hl.call f is [] d aG e).2 0 av (Kp.of w) [] [] [] _ w [] vs (R.none eT hgl) (uV.mono λ_ _ q=>aQ.mono (Env.le_refl []) (aW.refl _ w) (λb _ q=>(sU b).1 q) q)
 refine h0.mono ?_
 rintro e w' ⟨v,E',rfl,_,hR,hd⟩
 exact ⟨v,rfl,qb hR (jM.outer hR) e' hd,hR.below.below⟩
theorem ah4 (hl:gw T P lo):T6 T P ⟨λf is=>match lo.call f is [] with
  | some (d,aG)=>match dg aG d with
    | some d'=>some (none,d')
    | none=>none
  | none=>none,λ_ _ _=>none,λ_ _ _=>none⟩ where
 YF f ds p d e:=by
  simp only at e
  split at e
  case h_2=>simp at e
  rename_i d0 aG h1
  split at e
  case h_2=>simp at e
  rename_i d' h2
  simp only [au,bs] at e
  obtain ⟨rfl,rfl⟩:=e
  exact ⟨(hl.call _ _ _ _ _ h1).1,λ_=>hl.pure h1 h2⟩
 eff _ _ _ _ _ _ e:=by simp at e
 PD _ _ _ _ _ _ e:=by simp at e
theorem xN (hl:gw T P lo) (h:R T N ax w0 sp s a w E) {f:FuncId} {ds:List D} {d:D} (e:yq lo s.rs f ds=some d) (hs:(eU ds||gT d)=true) (hd:l3 d=true) {vs:List Value} (hv:az (aQ E (AV ax s.rs E) w) ds vs) :
  Enters P f/\Go.Calls P f vs.toArray w λe w'=>∃ v,e=.returned v/\Below w.heap.size w w'/\aQ E (AV ax s.rs E) w' d v:=by
 unfold yq at e
 split at e
 case h_2=>simp at e
 rename_i is hi
 split at e
 case h_2=>simp at e
 rename_i d0 aG h1
 have hc:=ah4 hl
 have hp:(match lo.call f is [] with
  | some (d,aG)=>match dg aG d with
    | some d'=>some ((none:Option Prop),d')
    | none=>none
  | none=>none)=some (none,d):=by rw [h1]; simp only [e]
 exact ⟨(hl.call _ _ _ _ _ h1).1,QL hc h hi hp trivial hs hd hv⟩
def ji (T:dk) (P:Program) (N:Nat) (ax:Nat->Prop) (w0:Kp) (sp:List (D×Value)) (s:VS) (a:Act) (w:World) (E:Env) (b:Nat) (e:cn) (f:FuncId) (vs:List Value):Prop:=
 Enters P f/\Go.Calls P f vs.toArray w λen w'=>∃ v E',en=.returned v/\iC T N ax w0 sp s a w E b e v w' E'
theorem iC.Ab (h:R T N ax w0 sp s a w E) {b:Nat} {d:D} {v:Value} {w':World} (hb:Below w.heap.size w w') (hd:aQ E (AV ax s.rs E) w' d v):iC T N ax w0 sp s a w E b (.val d) v w' E:=
 ⟨lN.refl _ _,h.grown hb,λd' pC=>by simp only [dH,au] at pC; subst pC; exact hd⟩
theorem mH {rs:List ae} {ds:List D} {e e':cn} (h:jx rs ds e=some e'):(∃ l,e'=.ct l)∨(e'=e/\ud rs ds=some []):=by
 grind [jx]
theorem kN:∀ {l:List C},eI l=true->fj l=true
 | [],_=>rfl
 | c::l,h=>by
   cases c with
   | im x=>cases x with
     | v x=>simp only [eI] at h; simp only [fj]; exact kN h
     | _=>simp [eI] at h
   | _=>simp [eI] at h
theorem uh {d:D} (h:gT d=true):l3 d=true:=by
 cases d with
 | c x=>exact kN (l:=[x]) h
 | a l=>exact kN h
 | t l=>grind [gT,l3,kN]
theorem lZ {rec:List C->Option (List Nat)} {rs:List ae}:∀ {l:List C},Eg rec rs l=some []->fj l=true
 | [],_=>rfl
 | x::l,h=>by
   have h:(match Xo rec rs x with
    | some a=>match Eg rec rs l with
      | some b=>some (a++b)
      | none=>none
    | none=>none)=some []:=h
   split at h
   case h_2=>simp at h
   rename_i m hm
   split at h
   case h_2=>simp at h
   rename_i k hk
   simp only [au,List.append_eq_nil_iff] at h
   obtain ⟨rfl,rfl⟩:=h
   unfold Xo at hm
   split at hm
   .simp only [fj]; exact lZ hk
   .split at hm
    .split at hm
     all_goals simp_all
    all_goals grind
   .simp at hm
theorem oK {rs:List ae}:∀ {ds:List D},ud rs ds=some []->eU ds=true
 | [],_=>rfl
 | d::ds,h=>by
   have h:(match Gq rs d,ud rs ds with
    | some a,some b=>some (a++b)
    | _,_=>none)=some []:=h
   split at h
   case h_2=>simp at h
   rename_i m k hm hk
   simp only [au,List.append_eq_nil_iff] at h
   obtain ⟨rfl,rfl⟩:=h
   have hd:l3 d=true:=by
    cases d with
    | c x=>exact lZ (l:=[x]) hm
    | a l=>exact lZ hm
    | t l=>simp [Gq] at hm
   simp only [eU,hd]
   exact oK hk
theorem ru (hl:gw T P lo) (h:R T N ax w0 sp s a w E) {b:Nat} {f:FuncId} {ds:List D} {e:cn} (ef:gq lo s.rs f ds=some e) {vs:List Value} (hv:az (aQ E (AV ax s.rs E) w) ds vs) :
  (∃ l,e=.ct l)∨ji T P N ax w0 sp s a w E b e f vs:=by
 unfold gq at ef
 split at ef
 case h_2=>simp at ef
 rename_i d hd
 have fin:(eU ds||gT d)=true->l3 d=true->ji T P N ax w0 sp s a w E b (.val d) f vs:=λh1 h2=>by
  obtain ⟨h3,h4⟩:=xN hl h hd h1 h2 hv
  refine ⟨h3,h4.mono ?_⟩
  rintro en w' ⟨v,rfl,hb,hr⟩
  exact ⟨v,E,rfl,iC.Ab h hb hr⟩
 cases hp:gT d with
 | true=>
   rw [hp] at ef
   grind [uh]
 | false=>
   rw [hp] at ef
   grind [Bool.aw,jx,oK]
theorem xy (hl:gw T P lo) (h:R T N ax w0 sp s a w E) {b:Nat} {f:FuncId} {ds:List D} {e:cn} (ef:sV lo s.rs f ds=some e) {vs:List Value} (hv:az (aQ E (AV ax s.rs E) w) ds vs) :
  ji T P N ax w0 sp s a w E b e f vs:=by
 unfold sV at ef
 split at ef
 case h_2=>simp at ef
 rename_i d aG hd
 simp only [au] at ef
 subst ef
 obtain ⟨h1,h2⟩:=hl.call _ _ _ _ _ hd
 refine ⟨h1,(h2 N ax w0 sp s.sl s.df a w E vs h hv).mono ?_⟩
 rintro en w' ⟨v,E',rfl,hk,hR,hr⟩
 exact ⟨v,E',rfl,hk.Xb b,hR,λd' pC=>by simp only [dH,au] at pC; subst pC; exact hr⟩
theorem J6 (hl:gw T P lo) (h:R T N ax w0 sp s a w E) {b:Nat} {f:FuncId} {ds:List D} {e:cn} (ef:SG lo s.rs f ds=some e) {vs:List Value} (hv:az (aQ E (AV ax s.rs E) w) ds vs) :
  ji T P N ax w0 sp s a w E b e f vs:=by
 unfold SG at ef
 split at ef
 case h_2=>simp at ef
 rename_i d q x hd
 replace ef:=(Bool.aw ef).2
 simp only [au] at ef
 subst ef
 obtain ⟨h1,h2⟩:=hl.wr _ _ _ _ _ _ hd
 refine ⟨h1,(h2 N ax w0 sp s.sl s.df a w E vs h hv).mono ?_⟩
 rintro en w' ⟨v,E',rfl,hk,hR,hr⟩
 exact ⟨v,E',rfl,hk.Xb b,hR,λd' pC=>by simp only [dH,au] at pC; subst pC; exact hr⟩
theorem kg {w w':World} (h:Below w.heap.size w w'):w.grownBy w' none:=⟨h.os,h.tape,h.output,h.size,λk hk _=>h.block k hk⟩
theorem mi {rs:List ae} {f:FuncId} {ds:List D} {b:Nat} {d:Option D} {ws:List (Nat×ae)} (e:wP lo rs f ds b=some (.wr d ws)) :
  (∃ is q n aG el sz l,cQ rs ds=some is/\lo.call f is []=some (.c (.sa q n),aG)/\nth aG q=some (.row el sz n l)/\fj l=true/\d=some (.c (.sa b n))/\ws=[(b,.row el sz n l)]) ∨
  (∃ is q n aG el sz get,cQ rs ds=some is/\lo.call f is []=some (.c (.sa q n),aG)/\nth aG q=some (.arr el sz n get)/\d=some (.c (.sa b n))/\ws=[(b,.arr el sz n get)]):=by
 grind [wP,Bool.aw,cg,bV]
theorem wB {E E':Env} {av cG:Nat->Prop} {w w':World} (hk:aW av w w') (ha:∀ b,b<w.heap.size->cG b->av b):∀ {l:List C} {xs:List Value},fj l=true->az (a7 E av w) l xs->az (a7 E' cG w') l xs
 | [],_,_,.nil=>.nil
 | c::l,_,h,.cons q k=>by
   cases c with
   | im x=>exact .cons (cF.mono (x:=x) hk ha q) (wB hk ha (by simpa [fj] using h) k)
   | _=>simp [fj] at h
theorem H9 (hl:gw T P lo) (h:R T N ax w0 sp s a w E) {b:Nat} (hf:kG s E b) {f:FuncId} {ds is:List D} {q n el sz:Nat} {aG:List ae} {l:List C} (hi:cQ s.rs ds=some is)
  (hc:lo.call f is []=some (.c (.sa q n),aG)) (hq:nth aG q=some (.row el sz n l)) (hp:fj l=true) (hs:eI l=true∨eU ds=true) {vs:List Value} (hv:az (aQ E (AV ax s.rs E) w) ds vs) :
  ji T P N ax w0 sp s a w E b (.wr (some (.c (.sa b n))) [(b,.row el sz n l)]) f vs:=by
 obtain ⟨h1,h2⟩:=hl.call _ _ _ _ _ hc
 refine ⟨h1,?_⟩
 have avlt:∀ b,AV ax s.rs E b->b<w.heap.size:=by
  rintro b (q|⟨r,x,sz,h1,h2,h3⟩)
  .exact h.jr q
  .exact (h.cJ r x b sz h1 h2 h3).2
 have key:∃ av:Nat->Prop,(∀ b,av b->b<w.heap.size)/\pG T av w/\az (aQ [] av w) is vs/\(eI l=true∨∀ k,AV ax s.rs E k->av k):=by
  rcases hs with hs|hs
  .exact ⟨λ_=>False,λ_ q=>q.elim,h.fS.mono (aW.refl _ w) (λ_ _ q=>q.elim),oc h (jM.none ax s E) hi hv,.inl hs⟩
  .exact ⟨AV ax s.rs E,avlt,h.fS,iq hs hi hv,.inr λ_ q=>q⟩
 obtain ⟨av,eT,hgl,uV,hcase⟩:=key
 refine (h2 0 av (Kp.of w) [] [] [] _ w [] vs (R.none eT hgl) (uV.mono λ_ _ q=>aQ.mono (Env.le_refl []) (aW.refl _ w) (λb _ q=>(sU b).1 q) q)).mono ?_
 rintro en w' ⟨v,E1,rfl,_,hR,hd⟩
 obtain ⟨e0,ao,n',cap,g1,g2,g3,rfl⟩:=hd
 rw [bg] at hq
 obtain ⟨r1,r2,xs,r3,r4⟩:=hR.roots q _ _ hq g1
 have hvn:e0.2.1.1=.slice ao n cap:=by
  rcases r3.2 with ⟨q5,q6⟩|⟨g,cap2,cur,q5,_⟩
  all_goals grind
 have hb:=hR.below.below
 have dX:w'.ownsRow w0.base el sz (.slice ao n cap) n xs:=by
  rw [hvn] at r3
  refine ⟨r3.1,r3.2.imp id ?_⟩
  rintro ⟨g,cap2,cur,q5,q6,q7⟩
  exact ⟨g,cap2,cur,q5,eA h.size_le q6,q7⟩
 have jg:∀ k,(Value.slice ao n cap).ownBlock=some k->w.heap.size<=k/\k<w'.heap.size/\bh E1 q k e0.2.2:=by
  intro k hk
  have iL:bh E1 q k e0.2.2:=by
   obtain ⟨e1,e2,e3⟩:=e0
   have r2:e1=e2.1.ownBlock:=r2
   have hvn:e2.1=_:=hvn
   rw [hvn,hk] at r2
   exact ⟨e2,by rw [g1,r2]⟩
  have:=hR.blk q _ k e0.2.2 hq trivial iL
  exact ⟨this.1.base,this.2,iL⟩
 obtain ⟨E',h4,h5,h6,h7⟩:=h.make hf (dead:=Option.none) (x:=.row el sz n l) (e:=((Value.slice ao n cap).ownBlock,mS (.slice ao n cap),sz)) (w':=w') (row:=Option.none) (kg hb) (λk hk=>by cases hk)
  (λk hk=>.inr (jg k hk).1) (λk hk=>(jg k hk).2.1) (λE' cG hE ZO si hk=>⟨rfl,rfl,xs,dX,by
   rcases hcase with SO|hcase
   .exact ja SO r4
   .refine wB (aW.refl _ w') (λk nG q=>?_) hp r4
    rcases si k q with q|q
    .exact .inl (hcase k q)
    .exact .inr ⟨_,_,_,hq,trivial,(jg k (q.resolve_right λq=>q)).2.2.own⟩⟩)
 .refine ⟨_,E',rfl,h6,h4,λd hd=>?_⟩
  simp only [dH,au] at hd
  subst hd
  rcases dX.2 with ⟨q5,q6⟩|⟨g,cap2,cur,q5,_⟩
  .exact ⟨_,ao,n,cap,h5,rfl,bl _,rfl⟩
  .exact ⟨_,ao,n,cap,h5,rfl,bl _,rfl⟩
theorem Ru (hl:gw T P lo) (h:R T N ax w0 sp s a w E) {b:Nat} (hf:kG s E b) {f:FuncId} {ds is:List D} {q n el sz:Nat} {aG:List ae} {get:Nat->Nat->I} (hi:cQ s.rs ds=some is)
  (hc:lo.call f is []=some (.c (.sa q n),aG)) (hq:nth aG q=some (.arr el sz n get)) (hs:eU ds=true) {vs:List Value} (hv:az (aQ E (AV ax s.rs E) w) ds vs) :
  ji T P N ax w0 sp s a w E b (.wr (some (.c (.sa b n))) [(b,.arr el sz n get)]) f vs:=by
 obtain ⟨h1,h2⟩:=hl.call _ _ _ _ _ hc
 refine ⟨h1,?_⟩
 have avlt:∀ b,AV ax s.rs E b->b<w.heap.size:=by
  rintro b (q|⟨r,x,sz,h1,h2,h3⟩)
  .exact h.jr q
  .exact (h.cJ r x b sz h1 h2 h3).2
 have key:∃ av:Nat->Prop,(∀ b,av b->b<w.heap.size)/\pG T av w/\az (aQ [] av w) is vs/\(∀ k,AV ax s.rs E k->av k):=
  ⟨AV ax s.rs E,avlt,h.fS,iq hs hi hv,λ_ q=>q⟩
 obtain ⟨av,eT,hgl,uV,hcase⟩:=key
 refine (h2 0 av (Kp.of w) [] [] [] _ w [] vs (R.none eT hgl) (uV.mono λ_ _ q=>aQ.mono (Env.le_refl []) (aW.refl _ w) (λb _ q=>(sU b).1 q) q)).mono ?_
 rintro en w' ⟨v,E1,rfl,_,hR,hd⟩
 obtain ⟨e0,ao,n',cap,g1,g2,g3,rfl⟩:=hd
 rw [bg] at hq
 obtain ⟨r1,r2,xs,r3,r4⟩:=hR.roots q _ _ hq g1
 have hvn:e0.2.1.1=.slice ao n cap:=by
  rcases r3.2 with ⟨q5,q6⟩|⟨g,cap2,cur,q5,_⟩
  all_goals grind
 have hb:=hR.below.below
 have dX:w'.ownsRow w0.base el sz (.slice ao n cap) n xs:=by
  rw [hvn] at r3
  refine ⟨r3.1,r3.2.imp id ?_⟩
  rintro ⟨g,cap2,cur,q5,q6,q7⟩
  exact ⟨g,cap2,cur,q5,eA h.size_le q6,q7⟩
 have jg:∀ k,(Value.slice ao n cap).ownBlock=some k->w.heap.size<=k/\k<w'.heap.size/\bh E1 q k e0.2.2:=by
  intro k hk
  have iL:bh E1 q k e0.2.2:=by
   obtain ⟨e1,e2,e3⟩:=e0
   have r2:e1=e2.1.ownBlock:=r2
   have hvn:e2.1=_:=hvn
   rw [hvn,hk] at r2
   exact ⟨e2,by rw [g1,r2]⟩
  have:=hR.blk q _ k e0.2.2 hq trivial iL
  exact ⟨this.1.base,this.2,iL⟩
 obtain ⟨E',h4,h5,h6,h7⟩:=h.make hf (dead:=Option.none) (x:=.arr el sz n get) (e:=((Value.slice ao n cap).ownBlock,mS (.slice ao n cap),sz)) (w':=w') (row:=Option.none) (kg hb) (λk hk=>by cases hk)
  (λk hk=>.inr (jg k hk).1) (λk hk=>(jg k hk).2.1) (λE' cG hE ZO si hk=>⟨rfl,rfl,xs,dX,λi hi j hj=>by
   obtain ⟨x,g5,g6⟩:=r4 i hi j hj
   exact ⟨x,g5,cF.mono (aW.refl _ w') (λk nG q=>by
    rcases si k q with q|q
    .exact .inl (hcase k q)
    .exact .inr ⟨_,_,_,hq,trivial,(jg k (q.resolve_right λq=>q)).2.2.own⟩) g6⟩⟩)
 .refine ⟨_,E',rfl,h6,h4,λd hd=>?_⟩
  simp only [dH,au] at hd
  subst hd
  rcases dX.2 with ⟨q5,q6⟩|⟨g,cap2,cur,q5,_⟩
  .exact ⟨_,ao,n,cap,h5,rfl,bl _,rfl⟩
  .exact ⟨_,ao,n,cap,h5,rfl,bl _,rfl⟩
theorem TI (hl:gw T P lo) (h:R T N ax w0 sp s a w E) {b:Nat} (hf:kG s E b) {f:FuncId} {ds is:List D} {cs qR:List C} {L:List O} (hi:cQ s.rs ds=some is)
  (hc:lo.call f is []=some (.a cs,[.own L])) (hm:qe (SQ b) cs=some qR) (hs:eU ds=true) {vs:List Value} (hv:az (aQ E (AV ax s.rs E) w) ds vs) :
  ji T P N ax w0 sp s a w E b (.wr (some (.a qR)) [(b,.own L)]) f vs:=by
 obtain ⟨h1,h2⟩:=hl.call _ _ _ _ _ hc
 refine ⟨h1,?_⟩
 have avlt:∀ b,AV ax s.rs E b->b<w.heap.size:=by
  rintro b (q|⟨r,x,sz,h1,h2,h3⟩)
  .exact h.jr q
  .exact (h.cJ r x b sz h1 h2 h3).2
 refine (h2 0 (AV ax s.rs E) (Kp.of w) [] [] [] _ w [] vs (R.none avlt h.fS) ((iq hs hi hv).mono λ_ _ q=>aQ.mono (Env.le_refl []) (aW.refl _ w) (λb _ q=>(sU b).1 q) q)).mono ?_
 rintro en w' ⟨v,E1,rfl,_,hR,hd⟩
 obtain ⟨ca,rfl,hcs⟩:=hd
 have hlen:0<E1.length:=by rw [hR.len]; exact Nat.lt_succ_self 0
 have he:=ka hlen
 generalize E1[0]=e0 at he
 have hroot:=hR.roots 0 _ _ rfl he
 obtain ⟨r1,r2,vt,r3,r4,Ks,r5,r6,r7⟩:=hroot
 have hb:=hR.below.below
 have hnew:∀ k,e0.2.1.2 k->w.heap.size<=k/\k<w'.heap.size:=λk hk=>by
  have:=hR.cJ 0 _ k e0.2.2 rfl trivial ⟨e0,he,rfl,.inr hk⟩
  exact ⟨this.1.base,this.2⟩
 have avw:∀ {cG:Nat->Prop},(∀ k,cG k->AV ax s.rs E k∨fJ.has (Option.none,e0.2.1,0) k)->∀ k,cG k->AV (AV ax s.rs E) [.own L] E1 k:=λsi k q=>by
  rcases si k q with q|q|q
  .exact .inl q
  .cases q
  .exact .inr ⟨0,_,_,rfl,trivial,e0,he,rfl,.inr q⟩
 obtain ⟨E',h4,h5,h6,h7⟩:=h.make hf (dead:=Option.none) (x:=.own L) (e:=(Option.none,e0.2.1,0)) (w':=w') (row:=Option.none) (kg hb) (λk hk=>by cases hk)
  (λk hk=>by cases hk) (λk hk=>by cases hk) (λE' cG hE ZO si hk=>⟨rfl,r2,vt,r3,r4,Ks,r5,r6,λi o ho=>by
   obtain ⟨v,g1,g2⟩:=r7 i o ho
   exact ⟨v,g1,fO.base h.size_le (fO.mono (aW.refl _ w') (λk _ q=>avw si k q) (λ_ _=>rfl) g2)⟩⟩) (λk hk=>.inr (hnew k hk))
 refine ⟨_,E',rfl,h6,h4,λd hd=>?_⟩
 simp only [dH,au] at hd
 subst hd
 have hav3:∀ k,AV ax (place b (.own L) (kill Option.none s.rs)) E' k->AV (AV ax s.rs E) [.own L] E1 k:=avw h7.2
 refine ⟨ca,rfl,?_⟩
 exact rJ (λc c' v e q=>by
  unfold SQ at e
  split at e
  .simp only [au] at e; subst e
   exact cF.mono (aW.refl _ w') (λk _ q=>hav3 k q) q
  .simp only [au] at e; subst e
   obtain ⟨e2,vs2,g1,g2,g3⟩:=q
   rw [he] at g1
   simp only [au] at g1
   subst g1
   exact ⟨_,vs2,h5,g2,g3⟩
  .simp at e) hm hcs
theorem j4 {lo:Lo} {rs:List ae} {f:FuncId} {ds:List D} {b:Nat} {e:cn} (h:yu lo rs f ds b=some e):∃ is cs qR L,eU ds=true/\cQ rs ds=some is/\lo.call f is []=some (.a cs,[.own L])/\qe (SQ b) cs=some qR/\e=.wr (some (.a qR)) [(b,.own L)]:=by
 grind [yu,Bool.aw]
theorem FC (hl:gw T P lo) (h:R T N ax w0 sp s a w E) {b:Nat} (hf:kG s E b) {f:FuncId} {ds:List D} {e:cn} (ef:yu lo s.rs f ds b=some e) {vs:List Value} (hv:az (aQ E (AV ax s.rs E) w) ds vs) :
  ji T P N ax w0 sp s a w E b e f vs:=by
 obtain ⟨is,cs,qR,L,hp,hi,hc,hm,rfl⟩:=j4 ef
 exact TI hl h hf hi hc hm hp hv
theorem Ba (hl:gw T P lo) (h:R T N ax w0 sp s a w E) {b:Nat} (hf:kG s E b) {f:FuncId} {ds:List D} {e:cn} (ef:fK lo s.rs f ds b=some e) {vs:List Value} (hv:az (aQ E (AV ax s.rs E) w) ds vs) :
  (∃ l,e=.ct l)∨ji T P N ax w0 sp s a w E b e f vs:=by
 unfold fK at ef
 split at ef
 .rename_i d hd
  simp only [au] at ef
  subst ef
  right
  unfold wP at hd
  split at hd
  case h_2=>simp at hd
  rename_i is hi
  split at hd
  .grind [Bool.aw]
  .rename_i d0 rs0 _ ux
   split at hd
   case h_2=>simp at hd
   rename_i d' hre
   obtain ⟨hp,hd⟩:=Bool.aw hd
   simp only [au,cn.val.injEq] at hd
   subst hd
   obtain ⟨h3,h4⟩:=xN hl h (f:=f) (ds:=ds) (d:=d') (by simp only [yq,hi,ux,hre]) (by simp [hp]) (uh hp) hv
   refine ⟨h3,h4.mono ?_⟩
   rintro en w' ⟨v,rfl,hb,hr⟩
   exact ⟨v,E,rfl,iC.Ab h hb hr⟩
  .simp at hd
 .rename_i d q el sz n l ho
  rcases mi ho with ⟨is,q',n',aG,qQ,cL,l',hi,hc,hq,hp,hd,hws⟩|⟨is,q',n',aG,qQ,cL,get',hi,hc,hq,hd,hws⟩
  case inr=>simp at hws
  simp only [List.cons.injEq,bs,ae.row.injEq,and_true] at hws
  obtain ⟨rfl,rfl,rfl,rfl,rfl⟩:=hws
  subst hd
  cases SO:eI l with
  | true=>
    rw [SO] at ef
    grind [H9]
  | false=>
    rw [SO] at ef
    grind [jx,H9,oK]
 all_goals grind [mi,jx,Ru,oK]
theorem EJ (hl:gw T P lo) (h:R T N ax w0 sp s a w E) {b:Nat} (hf:kG s E b) {f:FuncId} {ds:List D} {e:cn} (ef:nO lo hi s.rs b f ds=some e) {vs:List Value} (hv:az (aQ E (AV ax s.rs E) w) ds vs) :
  (∃ l,e=.ct l)∨ji T P N ax w0 sp s a w E b e f vs:=by
 unfold nO at ef
 split at ef
 .exact ru hl h ef hv
 .exact .inr (xy hl h ef hv)
 .exact Ba hl h hf ef hv
 .exact .inr (J6 hl h ef hv)
 .exact .inr (FC hl h hf ef hv)
 .cases hp:eU ds with
  | true=>rw [hp] at ef; exact ru hl h ef hv
  | false=>rw [hp] at ef; exact .inr (xy hl h ef hv)
theorem uz (h:R T N ax w0 sp s a w E) {c:C} {f:FuncId} {dQ:List D} (e:oN c=some (f,dQ)) {fv:Value} (hc:a7 E (AV ax s.rs E) w c fv) :
  ∃ cs:Array Value,fv=.func (.func f) #[] cs/\az (aQ E (AV ax s.rs E) w) dQ cs.toList:=by
 refine D7 h (fd:=.c c) ?_ hc
 unfold oN at e
 split at e
 .exact e
 .exact e
 .simp at e
theorem Cl (hl:gw T P lo) (h:R T N ax w0 sp s a w E) (hn:bw s.sl) {b:Nat} (hf:kG s E b) {o:Oper} {c:Call} (ho:o.op=.call c) {f:Operand} (Gp:c.callee=.value f) {e:cn} (ef:lx lo hi b s f c.args.toList=some e)
  {next:Act->World->Prop} (l5:∀ v w' E',iC T N ax w0 sp s a w E b e v w' E'->next (a.put o.dst v) w'):(∃ l,e=.ct l)∨Yt P true o a w next:=by
 have uS:∀ c',o.op ≠ .defer c':=λc' q=>by rw [ho] at q; cases q
 unfold lx at ef
 split at ef
 case h_2=>simp at ef
 rename_i c0 ds hc0 hds
 have hc0:=h.ch hn (bT hc0)
 have hds:=kW h (bu.nil a) (lR hn hds)
 split at ef
 .rename_i r
  obtain ⟨b',sz,iL,hfv⟩:=hc0
  unfold BP at ef
  split at ef
  case h_2=>simp at ef
  rename_i d aG hy
  simp only [au] at ef
  subst ef
  right
  obtain ⟨b2,Ti,fr,tm,as,bd,hat2,h1,h2⟩:=hl.PD _ _ _ _ _ hy N ax w0 sp s.sl s.df a w E _ h hds
  obtain ⟨q1,q2⟩:=iL
  obtain ⟨q3,q4⟩:=hat2
  rw [q2] at q4
  simp only [au,bs] at q4
  obtain ⟨rfl,rfl,rfl⟩:=q4
  refine .round rfl b' fr tm as bd w uS ?_ λc' cs=>?_
  .have pF:(List.map a.eval c.args.toList).toArray=c.args.map a.eval:=by apply Array.ext'; simp
   grind [execOp,resolve,Deferred.ofValue,invoke]
  .obtain ⟨v,w',⟨E',hk,h3,h4⟩,h5⟩:=h2 c' cs
   exact ⟨v,w',l5 v w' E' ⟨hk.Xb b,h3,λd' pC=>by simp only [dH,au] at pC; subst pC; exact h4⟩,h5⟩
 .split at ef
  case h_2=>simp at ef
  rename_i g dQ hcl
  obtain ⟨cs,hfv,hcs⟩:=uz h hcl hc0
  rcases EJ hl h hf ef (hds.append hcs) with hq|⟨he,ux⟩
  .exact .inl hq
  right
  have uV:(List.map a.eval c.args.toList++cs.toList).toArray=c.args.map a.eval++cs:=by
   grind
  refine .enter g (List.map a.eval c.args.toList++cs.toList).toArray w uS ?_ (ux.mono ?_)
  all_goals grind [FL]
theorem qy (bC:cZ P T) (hl:gw T P lo) (h:R T N ax w0 sp s a w E) (hn:bw s.sl) {b:Nat} (hf:kG s E b) {o:Oper} {e:cn} (ef:fH T lo hi b s o.dst o.op=some e)
  {next:Act->World->Prop} (l5:∀ v w' E',iC T N ax w0 sp s a w E b e v w' E'->next (a.put o.dst v) w'):(∃ l,e=.ct l)∨Yt P true o a w next:=by
 unfold fH at ef
 split at ef
 .rename_i d hd
  simp only [au] at ef
  subst ef
  obtain ⟨v,h1,h2⟩:=E5 bC h hn hd
  refine .inr (.value v w (λc q=>?_) h1 (l5 v w E ⟨lN.refl _ _,h,λd' pC=>by simp only [dH,au] at pC; subst pC; exact h2⟩))
  rw [q] at hd; simp [eN] at hd
 .generalize hop:o.op=op at ef
  have uS:∀ {op'},o.op=op'->(∀ c,op' ≠ .defer c)->∀ c,o.op ≠ .defer c:=λq k c=>by rw [q]; exact k c
  cases op with
  | box t x=>
    obtain ⟨E',ha⟩:=HU h hn hf t ef
    exact .inr (.value _ _ (uS hop λ_=>Op.noConfusion) (by simp only [execOp,hop]; rfl) (l5 _ _ _ ha))
  | alloc t=>
    obtain ⟨v,w',E',hr,ha⟩:=Aq bC h hf ef
    exact .inr (.value v w' (uS hop λ_=>Op.noConfusion) (hr o hop) (l5 _ _ _ ha))
  | store t x v=>
    rcases AD bC h hn ef b with hc|⟨hd,w',hr,ha⟩
    .exact .inl hc
    exact .inr (.skip w' (uS hop λ_=>Op.noConfusion) (by simp only [execOp,hop]; simp [hr]) (l5 _ _ _ ha))
  | buildSlice t n ps=>
    obtain ⟨v,w',E',hr,ha⟩:=Ll bC h hn hf ef
    exact .inr (.value v w' (uS hop λ_=>Op.noConfusion) (by simp only [execOp,hop]; exact bJ hr) (l5 _ _ _ ha))
  | makeMap t r=>
    obtain ⟨rfl,E',ha⟩:=Bt h hf ef
    exact .inr (.value _ _ (uS hop λ_=>Op.noConfusion) (by simp only [execOp,hop]; rfl) (l5 _ _ _ ha))
  | makeSlice t l c=>
    obtain ⟨v,w',E',hr,ha⟩:=DX bC h hn hf ef
    exact .inr (.value v w' (uS hop λ_=>Op.noConfusion) (by simp only [execOp,hop]; exact bJ hr) (l5 _ _ _ ha))
  | mapUpdate t m k v=>
    obtain ⟨hd,w',hr,ha⟩:=D2 bC h hn ef b
    exact .inr (.skip w' (uS hop λ_=>Op.noConfusion) (by simp only [execOp,hop]; simp [hr]) (l5 _ _ _ ha))
  | call c=>
    have ef:gL T lo hi b s c=some e:=ef
    unfold gL at ef
    split at ef
    .rename_i Gp
     rcases G4 bC h hn hf ef o.type with hc|⟨v,w',E',hr,ha⟩
     .exact .inl hc
     refine .inr (.value v w' (uS hop λ_=>Op.noConfusion) ?_ (l5 _ _ _ ha))
     have pF:(List.map a.eval c.args.toList).toArray=c.args.map a.eval:=by apply Array.ext'; simp
     rw [pF] at hr
     have hts:c.argTypes.toList.toArray=c.argTypes:=rfl
     rw [hts] at hr
     simp only [execOp,hop,resolve,Gp,Sem.run_bind,Sem.run_pure,Result.andThen_ok,invoke,builtin]
     simp [hr]
    all_goals grind [Cl]
  | _=>simp [gk] at ef
end
open Go.RowKit
def Fr (ρ:Option Nat):Fence:={ fn:=λ_=>True,depth:=none,alive:=false,round:=ρ }
section
variable {P:Program} {T:dk} {lo:Lo} {hi:Hint} {N:Nat} {ax:Nat->Prop} {w0:Kp} {sp:List (D×Value)} {s:VS} {a:Act} {w:World} {E:Env} {ρ:Option Nat}
theorem KM (ρ:Option Nat) (m:Machine):m.fenced P (Fr ρ):=by
 intro g _
 refine ⟨λh=>?_,Or.inl trivial,λ_ _=>trivial,λ_ h=>?_⟩
 .cases h
 .cases h
theorem I8 (ρ:Option Nat) (n:Nat):(Fr ρ).room n:=λd h=>by cases h
theorem xb {m m':Machine} (h:Steps P m m'):StepsIn (Machine.fenced P (Fr ρ)) P m m':=(StepsIn.of_steps h).mono λm _=>KM ρ m
theorem Yt.wpIn {Y:Bool} {o:Oper} {next:Act->World->Prop} {Q:Exit->Act->World->Prop} (h:Yt P Y o a w next):o.wpIn (Fr ρ) 0 P a w next Q:=by
 refine ⟨λ_ _=>trivial,?_⟩
 cases h with
 | value v w' hd hr hn=>rw [Oper.semAt_eq _ _ _ hd,hr]; exact hn
 | skip w' hd hr hn=>rw [Oper.semAt_eq _ _ _ hd,hr]; exact hn
 | enter f args w' hd hr hc=>
   rw [Oper.semAt_eq _ _ _ hd,hr]
   refine ⟨λq=>(by cases q),trivial,λcs _=>?_⟩
   obtain ⟨e,w2,fr,⟨v,rfl,hn⟩,hs,hf,hl⟩:=hc cs
   exact ⟨.returned v,w2,fr,hn,xb hs,hf,hl⟩
 | round hY l f tm as bd w' hd hr hc=>
   rw [Oper.semAt_eq _ _ _ hd,hr]
   refine ⟨λq=>(by cases q),trivial,λc cs _=>?_⟩
   obtain ⟨v,w2,hn,hs⟩:=hc c cs
   exact ⟨.returned v,w2,hn,xb hs⟩
end
open Go.RowKit
structure Q2 (r:Nat) (cG:Nat->Prop) (ax:Nat->Prop) (s:VS) (E:Env):Prop where
 le:∀ b,cG b->AV ax s.rs E b
 ZB:∀ b sz,cM E r b sz->¬ cG b
theorem Q2.no {r:Nat} {cG ax:Nat->Prop} {s:VS} {E:Env} (h:Q2 r cG ax s E) (b sz:Nat) (h1:bh E r b sz):¬ cG b:=h.ZB b sz h1.own
section
variable {P:Program} {T:dk} {lo:Lo} {hi:Hint} {N:Nat} {ax:Nat->Prop} {w0:Kp} {sp:List (D×Value)} {s:VS} {a:Act} {w:World} {E:Env} {ρ:Option Nat}
theorem G5 (h:R T N ax w0 sp s a w E) {r el sz n m:Nat} {l:List C} {is:List I} (hr:s.rs[r]?=some (.row el sz n l)) (hi:CR l=some is) {cG:Nat->Prop} (ha:Q2 r cG ax s E) {v:Value}
  (hv:a7 E (AV ax s.rs E) w (.sa r m) v):cF cG w (.sl sz m (flat sz is)) v:=by
 obtain ⟨e',ao,n',cap,h1,h2,h3,rfl⟩:=hv
 obtain ⟨q1,q2,xs,q3,q4⟩:=h.roots r _ _ hr h1
 have him:=qu hi
 subst him
 have hx:=uX q4
 have hxl:=hx.length
 rcases q3.2 with ⟨q5,q6⟩|⟨g,cap',cur,q5,q6,q7,q8,q9,q10,q11⟩
 .rw [h2] at q5
  simp only [iP] at q5
  obtain ⟨rfl,rfl,rfl⟩:=q5
  exact ⟨none,0,rfl,by omega,by omega,λh0=>by omega⟩
 .rw [h2] at q5
  simp only [iP] at q5
  obtain ⟨rfl,rfl,rfl⟩:=q5
  have iL:bh E r g e'.2.2:=by
   obtain ⟨e1,e2,e3⟩:=e'
   have h2:e2.1=_:=h2
   have q2:e1=e2.1.ownBlock:=q2
   rw [h2] at q2
   exact ⟨e2,by rw [h1,q2]; rfl⟩
  refine ⟨_,cap,rfl,by omega,by omega,λ_=>⟨_,rfl,rfl,ha.no g _ iL,(Array.getElem?_eq_some_iff.1 q7).1,λi gI j hj=>?_⟩⟩
  have eG:i*sz+j<n'*sz:=by
   have:=gP sz (show i+1<=n' by omega)
   grind
  obtain ⟨x,h5,h6⟩:=oi hx (q:=i*sz+j) (by rw [hxl,q3.1]; exact eG)
  refine ⟨x,?_,cF.mono (aW.refl _ w) (λb _ hb=>ha.le b hb) h6⟩
  grind [Addr.add_mid,cC]
theorem az.PH {α β γ:Type} {f:α->β} {Ra:α->γ->Prop} {Rb:β->γ->Prop} (h:∀ x y,Ra x y->Rb (f x) y) {l:List α} {m:List γ} (k:az Ra l m):az Rb (l.map f) m:=by
 induction k with
 | nil=>exact .nil
 | cons q _ ih=>exact .cons (h _ _ q) ih
theorem Pe {sl:aL} (f:D->D):∀ {t:Tmp} {d:D} {c:eF},look (sl.map λx=>(x.1,f x.2.1,x.2.2)) t=some (d,c)->∃ d0,d=f d0/\look sl t=some (d0,c):=by
 induction sl with
 | nil=>intro t d c h; simp [look] at h
 | cons x sl ih=>
   grind [look]
theorem J8 {r sz:Nat} {get:Nat->Nat->I} {x:ae}:(KH r sz get x).live->x.live:=by
 cases x<;>exact id
theorem jY {r sz:Nat} {get:Nat->Nat->I} (hC:∀ cG,Q2 r cG ax s E->∀ m v,a7 E (AV ax s.rs E) w (.sa r m) v->cF cG w (.sl sz m get) v) {cG:Nat->Prop} (ha:Q2 r cG ax s E) {x:C} {v:Value}
  (hv:a7 E (AV ax s.rs E) w x v):a7 E cG w (GV r sz get x) v:=by
 unfold GV
 split
 .rename_i q m
  cases hq:Nat.beq q r with
  | true=>
    have hq:=Nat.eq_of_beq_eq_true hq
    subst hq
    exact hC _ ha _ _ hv
  | false=>exact a7.mono (Env.le_refl E) (aW.refl _ w) (λb _ q=>ha.le b q) hv
 .exact a7.mono (Env.le_refl E) (aW.refl _ w) (λb _ q=>ha.le b q) hv
theorem JS {r sz:Nat} {get:Nat->Nat->I} (hC:∀ cG,Q2 r cG ax s E->∀ m v,a7 E (AV ax s.rs E) w (.sa r m) v->cF cG w (.sl sz m get) v) {cG:Nat->Prop} (ha:Q2 r cG ax s E) {d:D} {v:Value}
  (hv:aQ E (AV ax s.rs E) w d v):aQ E cG w (SB r sz get d) v:=by
 cases d with
 | c x=>exact jY hC ha hv
 | a l=>obtain ⟨cs,h1,h2⟩:=hv; exact ⟨cs,h1,h2.PH λ_ _ q=>jY hC ha q⟩
 | t l=>
   obtain ⟨vs,h1,h2⟩:=hv
   refine ⟨vs,h1,h2.PH ?_⟩
   rintro ⟨b,l⟩ y q
   cases b with
   | true=>obtain ⟨cs,q1,q2⟩:=q; exact ⟨cs,q1,q2.PH λ_ _ q=>jY hC ha q⟩
   | false=>grind [jY]
theorem GP (h:R T N ax w0 sp s a w E) {r el sz n m:Nat} {get:Nat->Nat->I} (hr:s.rs[r]?=some (.arr el sz n get)) {cG:Nat->Prop} (ha:Q2 r cG ax s E) {v:Value}
  (hv:a7 E (AV ax s.rs E) w (.sa r m) v):cF cG w (.sl sz m get) v:=by
 obtain ⟨e',ao,n',cap,h1,h2,h3,rfl⟩:=hv
 obtain ⟨q1,q2,xs,q3,q4⟩:=h.roots r _ _ hr h1
 rcases q3.2 with ⟨q5,q6⟩|⟨g,cap',cur,q5,q6,q7,q8,q9,q10,q11⟩
 .rw [h2] at q5
  simp only [iP] at q5
  obtain ⟨rfl,rfl,rfl⟩:=q5
  exact ⟨none,0,rfl,by omega,by omega,λh0=>by omega⟩
 .rw [h2] at q5
  simp only [iP] at q5
  obtain ⟨rfl,rfl,rfl⟩:=q5
  have iL:bh E r g e'.2.2:=by
   obtain ⟨e1,e2,e3⟩:=e'
   have h2:e2.1=_:=h2
   have q2:e1=e2.1.ownBlock:=q2
   rw [h2] at q2
   exact ⟨e2,by rw [h1,q2]; rfl⟩
  refine ⟨_,cap,rfl,by omega,by omega,λ_=>⟨_,rfl,rfl,ha.no g _ iL,(Array.getElem?_eq_some_iff.1 q7).1,λi gI j hj=>?_⟩⟩
  have eG:i*sz+j<n'*sz:=by
   have:=gP sz (show i+1<=n' by omega)
   grind
  obtain ⟨x,h5,h6⟩:=q4 i (by omega) j hj
  refine ⟨x,?_,cF.mono (aW.refl _ w) (λb _ hb=>ha.le b hb) h6⟩
  grind [Addr.add_mid,cC]
theorem Gz (h:R T N ax w0 sp s a w E) {r:Nat} {x0:ae} (hl:s.rs[r]?=some x0) (hx0:x0.live) {sz:Nat} {get:Nat->Nat->I}
  (hC:∀ cG,Q2 r cG ax s E->∀ m v,a7 E (AV ax s.rs E) w (.sa r m) v->cF cG w (.sl sz m get) v):R T N ax w0 sp (sk r sz get s) a w E/\(bw s.sl->bw (sk r sz get s).sl):=by
 unfold sk
 have key:∀ (q:Nat) (y:ae),(setAt (s.rs.map (KH r sz get)) r .dead)[q]?=some y->y.live->q≠r/\∃ x,s.rs[q]?=some x/\y=KH r sz get x/\x.live:=by
  intro q y h1 h2
  rw [ba,jE] at h1
  split at h1
  .rename_i hq
   split at h1
   .simp only [au] at h1; subst h1; exact h2.elim
   .simp at h1
  grind [J8]
 have hb:Q2 r (AV ax (setAt (s.rs.map (KH r sz get)) r .dead) E) ax s E:=by
  refine ⟨?_,?_⟩
  .rintro b (q|⟨q,y,z,h1,h2,h3⟩)
   .exact .inl q
   .obtain ⟨_,x,h4,_,h5⟩:=key q y h1 h2
    exact .inr ⟨q,x,z,h4,h5,h3⟩
  .rintro b z iL (q|⟨q,y,z',h1,h2,h3⟩)
   .have q1:=(h.cJ r _ b z hl hx0 iL).1
    have q2:=h.outer b q
    exact q2.2 (q1.own q2.1)
   .obtain ⟨wc,x,h4,_,h5⟩:=key q y h1 h2
    exact wc (h.dz q r x _ b z' z h4 hl h5 hx0 h3 iL)
 refine ⟨⟨h.size,h.defers,λx hx=>aQ.mono (Env.le_refl E) (aW.refl _ w) (λb _ q=>hb.le b q) (h.spec x hx),h.below,by rw [ba]; simpa using h.len,h.outer,?_,?_,?_,?_,h.fS.mono (aW.refl _ w) (λb _ q=>hb.le b q)⟩,?_⟩
 .intro q y e h1 h2
  by_cases hlv:y.live
  .obtain ⟨wc,x,h4,rfl,h5⟩:=key q y h1 hlv
   have hx:=h.roots q x e h4 h2
   cases x with
   | box l2=>
     obtain ⟨b,cs,Tc,p1,p2,p3,p4⟩:=hx
     exact ⟨b,cs,Tc,p1,by rw [p2]; simp,p3,p4.PH λ_ _ q=>jY hC hb q⟩
   | row el2 Ti n2 l2=>
     obtain ⟨p1,p2,xs,p3,p4⟩:=hx
     exact ⟨p1,p2,xs,p3,p4.PH λ_ _ q=>jY hC hb q⟩
   | dead=>trivial
   | arr el2 Ti n2 get=>exact aO.mono (x:=.arr el2 Ti n2 get) (Env.le_refl E) (aW.refl _ w) (λb _ q=>hb.le b q) (λ_ _ _=>rfl) hx
   | bL el2 Ti n2 get dJ=>exact aO.mono (x:=.bL el2 Ti n2 get dJ) (Env.le_refl E) (aW.refl _ w) (λb _ q=>hb.le b q) (λ_ _ _=>rfl) hx
   | own l2=>exact aO.mono (x:=.own l2) (Env.le_refl E) (aW.refl _ w) (λb _ q=>hb.le b q) (λ_ _ _=>rfl) hx
   | set l2=>exact hx
   | kF=>exact hx
   | loop f M sl ps as bd st fi=>exact aO.mono (x:=.loop f M sl ps as bd st fi) (Env.le_refl E) (aW.refl _ w) (λb _ q=>hb.le b q) (λ_ _ _=>rfl) hx
  .cases y with
   | dead=>trivial
   | _=>exact (hlv trivial).elim
 .intro q y b z h1 h2 h3
  obtain ⟨_,x,h4,_,h5⟩:=key q y h1 h2
  exact h.cJ q x b z h4 h5 h3
 .intro q q' y y' b z z' h1 nA h2 ic h3 ld
  obtain ⟨_,x,h4,_,h5⟩:=key q y h1 h2
  obtain ⟨_,x',h4',_,h5'⟩:=key q' y' nA ic
  exact h.dz q q' x x' b z z' h4 h4' h5 h5' h3 ld
 .intro t d c YE
  obtain ⟨d0,rfl,h1⟩:=Pe (SB r sz get) YE
  obtain ⟨p1,p2,p3⟩:=h.slots t d0 c h1
  exact ⟨p1,λq=>JS hC hb (p2 q),p3⟩
 .intro hn x hx
  obtain ⟨y,hy,rfl⟩:=List.mem_map.1 hx
  exact hn y hy
theorem R.freeze (h:R T N ax w0 sp s a w E) {r:Nat} {s':VS} (e:freeze r s=some s'):R T N ax w0 sp s' a w E/\(bw s.sl->bw s'.sl):=by
 unfold Go.V.freeze at e
 split at e
 .rename_i el sz n l hl
  rw [bV,bg] at hl
  unfold I1 at e
  split at e
  case h_2=>simp at e
  rename_i is hi
  simp only [au] at e
  subst e
  exact Gz h hl trivial λcG ha m v hv=>G5 h hl hi ha hv
 .rename_i el sz n get hl
  rw [bV,bg] at hl
  simp only [au] at e
  subst e
  exact Gz h hl trivial λcG ha m v hv=>GP h hl ha hv
 .rename_i el sz n get hl
  rw [bV,bg] at hl
  simp only [au] at e
  subst e
  exact Gz h hl trivial λcG ha m v hv=>by
   obtain ⟨e',ao,n',cap,h1,h2,h3,rfl⟩:=hv
   exact QF (h.roots r _ _ hl h1) ha.le (λb hb=>ha.ZB b e'.2.2 ⟨e',h1,rfl,hb⟩) h2 h3
 all_goals grind
theorem R.gg:∀ {l:List Nat} {s s':VS},R T N ax w0 sp s a w E->gg l s=some s'->R T N ax w0 sp s' a w E/\(bw s.sl->bw s'.sl)
 | [],s,s',h,e=>by
   have e:some s=some s':=e
   grind
 | r::l,s,s',h,e=>by
   have e:(match Go.V.freeze r s with
    | some s1=>Go.V.gg l s1
    | Option.none=>Option.none)=some s':=e
   split at e
   case h_2=>simp at e
   rename_i s1 h1
   obtain ⟨h2,h3⟩:=h.freeze h1
   obtain ⟨h4,h5⟩:=R.gg h2 e
   exact ⟨h4,λq=>h5 (h3 q)⟩
end
open Go.RowKit
section
variable {P:Program} {T:dk} {lo:Lo} {hi:Hint} {N:Nat} {ax:Nat->Prop} {w0:Kp} {sp:List (D×Value)} {s:VS} {a:Act} {w:World} {E:Env} {ρ:Option Nat}
theorem bw.free {sl:aL} (h:bw sl) (t:Tmp):free t sl=true:=by
 induction sl with
 | nil=>rfl
 | cons x sl ih=>
   have hx:=h x (jl ..)
   simp only [Go.V.free,hx,gO]
   exact ih λy hy=>h y (fL _ hy)
theorem pU (h:R T N ax w0 sp s a w E) (hn:bw s.sl) {dst:Option Tmp} {d:D} {s':VS} (e:qq N s dst d=some s') {v:Value} (hv:aQ E (AV ax s.rs E) w d v):R T N ax w0 sp s' (a.put dst v) w E/\bw s'.sl:=by
 unfold qq at e
 split at e
 .simp only [au] at e; subst e; exact ⟨h,hn⟩
 .rename_i t
  obtain ⟨ht,e⟩:=Bool.aw e
  simp only [au] at e
  subst e
  refine ⟨h.put (g:=[]) ?_ (λ_=>hv) (λq=>(q (bu.nil a)).elim),hn.cons _ _⟩
  simp only [DI,ht,hn.free t,gO]
theorem If {b:Nat} {dst:Option Tmp} {e:cn} {s':VS} (hn:bw s.sl) (hs:pM N s dst e=some s') {v:Value} {w':World} {E':Env} (ha:iC T N ax w0 sp s a w E b e v w' E') (hd:dH e=none->dst=none) :
  R T N ax w0 sp s' (a.put dst v) w' E'/\bw s'.sl:=by
 obtain ⟨_,h1,h2⟩:=ha
 unfold pM at hs
 split at hs
 .exact pU h1 hn hs (h2 _ rfl)
 .rename_i d ws
  unfold IY at hs
  split at hs
  .exact pU h1 hn hs (h2 _ rfl)
  .simp only [au] at hs
   subst hs
   rw [hd rfl]
   exact ⟨h1,hn⟩
 .exact pU h1 hn hs (h2 _ rfl)
 .simp at hs
theorem FQ {rs:List ae} {f:FuncId} {ds:List D} {b:Nat} {e:cn} (ef:fK lo rs f ds b=some e):(∃ l,e=.ct l)∨dH e≠none:=by
 unfold fK at ef
 split at ef
 .grind [dH]
 .rename_i d q el sz n l ho
  rcases mi ho with ⟨is,q',n',aG,qQ,cL,l',hi,hc,hq,hp,hd,hws⟩|⟨is,q',n',aG,qQ,cL,get',hi,hc,hq,hd,hws⟩
  case inr=>simp at hws
  subst hd
  cases SO:eI l with
  | true=>rw [SO] at ef; grind [dH]
  | false=>
    rw [SO] at ef
    grind [jx,dH]
 all_goals grind [mi,jx,dH]
theorem xK {rs:List ae} {f:FuncId} {ds:List D} {e:cn} (ef:gq lo rs f ds=some e):(∃ l,e=.ct l)∨dH e≠none:=by
 unfold gq at ef
 split at ef
 case h_2=>simp at ef
 rename_i d hd
 cases hp:gT d with
 | true=>rw [hp] at ef; grind [dH]
 | false=>
   rw [hp] at ef
   grind [Bool.aw,jx,dH]
theorem Dg {rs:List ae} {f:FuncId} {ds:List D} {e:cn} (ef:sV lo rs f ds=some e):dH e≠none:=by
 grind [sV,dH]
theorem EH {b:Nat} {dst:Option Tmp} {op:Op} {e:cn} (ef:fH T lo hi b s dst op=some e):(∃ l,e=.ct l)∨dH e≠none∨dst=none:=by
 unfold fH at ef
 split at ef
 .grind [dH]
 .cases op with
  | box t x=>
    have ef:uL b s x=some e:=ef
    grind [uL,dH]
  | alloc t=>
    have ef:j6 T b t=some e:=ef
    grind [j6,dH]
  | store t x v=>
    have ef:gz T s dst t x v=some e:=ef
    unfold gz at ef
    grind
  | mapUpdate t m k v=>
    have ef:lG T s dst t m k v=some e:=ef
    unfold lG at ef
    grind
  | makeMap t r=>
    have ef:kp T b t r=some e:=ef
    unfold kp at ef
    grind [dH]
  | makeSlice t l c=>
    have ef:lI T b s t l c=some e:=ef
    unfold lI at ef
    split at ef
    case h_2=>simp at ef
    split at ef
    case h_2=>simp at ef
    split at ef
    case h_2=>simp at ef
    split at ef
    all_goals grind [Bool.aw,dH]
  | buildSlice t n ps=>
    have ef:LF T b s (zf hi dst) t n ps.toList=some e:=ef
    unfold LF at ef
    split at ef
    all_goals grind [Bool.aw,jq,dH]
  | call c=>
    have ef:gL T lo hi b s c=some e:=ef
    unfold gL at ef
    split at ef
    .unfold ob at ef
     split at ef
     case h_2=>simp at ef
     replace ef:=(Bool.aw ef).2
     split at ef
     case h_2=>simp at ef
     split at ef
     .rename_i e' he'
      subst ef
      have fin2:∀ {el sz k:Nat} {l':Nat->Nat->I} {yD:Nat} {c:C},qM el sz k l' yD b s.rs c=some e->dH e≠none:=by
       intro el sz k l' yD c q
       unfold qM at q
       grind [Bool.aw,dH]
      unfold o5 at he'
      split at he'
      case h_2=>simp at he'
      split at he'
      all_goals grind [AE,Bool.aw,nW]
     unfold nZ at ef
     have fin:∀ {el sz k:Nat} {l':List C} {yD:Nat} {c:C},CT el sz k l' yD b s.rs c=some e->dH e≠none:=by
      intro el sz k l' yD c q
      unfold CT at q
      grind [dH,Bool.aw]
     split at ef
     case h_2=>simp at ef
     split at ef
     all_goals grind [Bool.aw]
    .unfold lx at ef
     split at ef
     case h_2=>simp at ef
     split at ef
     .grind [BP,dH]
     .split at ef
      case h_2=>simp at ef
      unfold nO at ef
      split at ef
      .exact (xK ef).imp id .inl
      .exact .inr (.inl (Dg ef))
      .exact (FQ ef).imp id .inl
      .grind [SG,Bool.aw,dH]
      .obtain ⟨is,cs,qR,L,_,_,_,_,rfl⟩:=j4 ef
       exact .inr (.inl (by simp [dH]))
      .rename_i ds _ _ _ _ _ _ _ _ _
       revert ef
       generalize eU _=p
       intro ef
       cases p with
       | true=>exact (xK ef).imp id .inl
       | false=>exact .inr (.inl (Dg ef))
    .simp at ef
  | _=>simp [gk] at ef
theorem vI {dst:Option Tmp} {l:List Nat} {s':VS}:pM N s dst (.ct l)≠some s':=by simp [pM]
theorem C0 (bC:cZ P T) (hl:gw T P lo) (h:R T N ax w0 sp s a w E) (hn:bw s.sl) {o:Oper} {s':VS} (e:DK T lo hi N s o.dst o.op=some s')
  {next:Act->World->Prop} (l5:∀ a' w' E',Kept E E'->R T N ax w0 sp s' a' w' E'->bw s'.sl->next a' w'):Yt P true o a w next:=by
 have one:∀ {s:VS},R T N ax w0 sp s a w E->bw s.sl->∀ {ef:cn},fH T lo hi s.rs.length s o.dst o.op=some ef->pM N s o.dst ef=some s'->Yt P true o a w next:=by
  intro s h hn ef h1 h2
  have hd:=EH h1
  rcases qy bC hl h hn (.inr rfl) h1 (next:=next) (λv w' E' ha=>by
   obtain ⟨h3,h4⟩:=If hn h2 ha (λq=>by
    grind [vI])
   exact l5 _ _ _ (Kept.IM ha.1 (Nat.le_of_eq h.len)) h3 h4) with ⟨l,rfl⟩|h3
  .exact (vI h2).elim
  .exact h3
 unfold DK at e
 split at e
 .rename_i l _
  unfold PI at e
  split at e
  case h_2=>simp at e
  rename_i s1 hs1
  obtain ⟨h1,h2⟩:=h.gg hs1
  grind
 all_goals grind
theorem qD (h:R T N ax w0 sp s a w E) (hn:bw s.sl) {ops:Array Oper} {o:Oper} {b:Bool} (e:lV ops.toList s.sl o.guard=some b):Region.wanted o (yielded ops a.tmps)=b:=by
 unfold lV at e
 unfold Region.wanted
 split at e
 .grind
 .rename_i j want hg
  rw [hg]
  split at e
  case h_2=>simp at e
  rename_i p hp
  rw [bV,bg] at hp
  split at e
  case h_2=>simp at e
  rename_i t ht
  have hpo:ops[j]?=some p:=by simpa using hp
  unfold JM at e
  split at e
  .rename_i hl
   have hl:=ft hn hl
   simp only [au] at e
   subst e
   obtain ⟨hN,h1,h2⟩:=h.slots t _ _ hl
   obtain ⟨vs,hv,uV⟩:=h1 (bu.nil a)
   have gA:t<a.tmps.size:=by rw [h.size]; exact hN
   have hv':a.tmps[t]?=some (a.tmps.getD t undef):=by simp [gA]
   grind [yielded]
  .split at e
   case h_2=>simp at e
   rename_i x hx
   have hl:=ft hn (eB hx)
   simp only [au] at e
   subst e
   obtain ⟨hN,h1,h2⟩:=h.slots t _ _ hl
   have hv:=(h1 (bu.nil a)).1
   have gA:t<a.tmps.size:=by rw [h.size]; exact hN
   have hv':a.tmps[t]?=some (a.tmps.getD t undef):=by simp [gA]
   have hy:yielded ops a.tmps j=some x:=by
    grind [yielded]
   simp only [hy]
   cases x<;>cases want<;>rfl
theorem za {E:Env} {av:Nat->Prop} {w:World}:aQ E av w (.t []) undef:=⟨#[],rfl,.nil⟩
theorem qJ (bC:cZ P T) (hl:gw T P lo) {ops:Array Oper} {Q:Exit->Act->World->Prop} {sF:VS} {E0:Env} (hQ:∀ a' w' E',Kept E0 E'->R T N ax w0 sp sF a' w' E'->bw sF.sl->Q .normal a' w') :
  ∀ {l:List Oper} {s:VS} {a:Act} {w:World} {E:Env},Le T lo hi N ops.toList l s=some sF->Kept E0 E->R T N ax w0 sp s a w E->bw s.sl->wpListIn (Fr ρ) 0 P ops Q l a w
 | [],s,a,w,E,e,hk,h,hn=>by
   have e:some s=some sF:=e
   simp only [au] at e; subst e; exact hQ a w E hk h hn
 | o::l,s,a,w,E,e,hk,h,hn=>by
   have e:(match opF T lo hi N ops.toList s o with
    | some s'=>Le T lo hi N ops.toList l s'
    | none=>none)=some sF:=e
   split at e
   case h_2=>simp at e
   rename_i s' hs
   unfold opF at hs
   unfold wpListIn
   split at hs
   .rename_i hw
    rw [if_pos (qD h hn hw)]
    exact (C0 bC hl h hn hs λa' w' E' nG h' nr=>qJ bC hl hQ e (hk.trans nG) h' nr).wpIn
   .rename_i hw
    rw [if_neg (by rw [qD h hn hw]; simp)]
    obtain ⟨h1,h2⟩:=pU h hn hs za
    exact ⟨λ_ _=>trivial,qJ bC hl hQ e hk h1 h2⟩
   .simp at hs
end
section
variable {T:dk} {lo:Lo} {hi:Hint} {sl fI:aL} {rs aG:List ae} {df Iy:List Nat}
theorem tL:∀ {l:List Operand},(∀ x∈l,ch sl x=ch fI x)->yF sl l=yF fI l
 | [],_=>rfl
 | x::l,h=>by
   have e1:=h x (jl ..)
   have e2:=tL (l:=l) λy hy=>h y (fL _ hy)
   grind [yF]
theorem wE {p9:List (Nat×Nat)}:∀ {ps:List (Nat×Operand)},(∀ p∈ps,ch sl p.2=ch fI p.2)->uo p9 sl ps=uo p9 fI ps
 | [],_=>rfl
 | p::ps,h=>by
   have e1:=h p (jl ..)
   have e2:=wE (p9:=p9) (ps:=ps) λy hy=>h y (fL _ hy)
   funext l
   show (match aR p9 p.1 with
    | some o=>match ch sl p.2 with
      | some d=>match d.cells with
        | some cs=>(Bool.rec none (match put l o.1 cs with
          | some l'=>uo p9 sl ps l'
          | none=>none) (Nat.beq cs.length o.2&&Nat.blt 0 o.2):Option (List C))
        | none=>none
      | none=>none
    | none=>none)=_
   rw [e1,e2]; rfl
theorem uc {sz:Nat}:∀ {ps:List (Nat×Operand)},(∀ p∈ps,ch sl p.2=ch fI p.2)->n9 sz sl ps=n9 sz fI ps
 | [],_=>rfl
 | p::ps,h=>by
   have e1:=h p (jl ..)
   have e2:=uc (sz:=sz) (ps:=ps) λy hy=>h y (fL _ hy)
   grind [n9]
theorem K3 {ts:List TypeId} {xs:List Operand} (h:∀ x∈xs,ch sl x=ch fI x):O9 T ⟨sl,rs,df⟩ ts xs=O9 T ⟨fI,rs,Iy⟩ ts xs:=by
 unfold O9
 grind
theorem K7 {xs:List Operand} (h:∀ x∈xs,ch sl x=ch fI x):MF ⟨sl,rs,df⟩ xs=MF ⟨fI,rs,Iy⟩ xs:=by
 unfold MF
 grind
theorem JZ {xs:List Operand} (h:∀ x∈xs,ch sl x=ch fI x):OL ⟨sl,rs,df⟩ xs=OL ⟨fI,rs,Iy⟩ xs:=by
 unfold OL
 grind
theorem EV {t:Nat} {x:Operand} {l m k:Option Operand} (h0:ch sl x=ch fI x) (hl:∀ y,l=some y->ch sl y=ch fI y) (h:∀ y,m=some y->ch sl y=ch fI y):kb T ⟨sl,rs,df⟩ t x l m k=kb T ⟨fI,rs,Iy⟩ t x l m k:=by
 unfold kb
 grind
theorem Fl {op:Op} (h:∀ x∈op.operands.toList,ch sl x=ch fI x):eN T ⟨sl,rs,df⟩ op=eN T ⟨fI,rs,Iy⟩ op:=by
 cases op with
 | move x=>exact h x (by simp [Op.operands])
 | assign x=>exact h x (by simp [Op.operands])
 | pick c x y=>grind [eN,yT,Op.operands]
 | binOp o t x y t2=>simp only [eN,wO,uE,Jp,h x (by simp [Op.operands]),h y (by simp [Op.operands])]
 | unOp o t x=>simp only [eN,unF,h x (by simp [Op.operands])]
 | nilCheck x=>simp only [eN,vq,h x (by simp [Op.operands])]
 | fieldAddr t x f=>simp only [eN,B0,h x (by simp [Op.operands])]
 | indexAddr t x i=>grind [eN,mU,Op.operands]
 | load t x=>simp only [eN,ki,h x (by simp [Op.operands])]
 | extract x k=>simp only [eN,rL,h x (by simp [Op.operands])]
 | build t ps=>
   simp only [eN,Cz]
   have e:∀ fs,uo fs sl ps.toList=uo fs fI ps.toList:=λfs=>wE λp hp=>h p.2 (by grind [Op.operands])
   simp only [e]
 | makeFunc fn first dQ=>
   have e:yF sl dQ.toList=yF fI dQ.toList:=tL λp hp=>h p (by grind [Op.operands])
   simp only [eN,IB,e]
 | call c=>
   have e:∀ x∈c.args.toList,ch sl x=ch fI x:=λx hx=>h x (by grind [Op.operands,Call.operands])
   simp only [eN,Fp]
   split
   .rename_i b _
    unfold GX
    grind [K3,K7,JZ]
   .rfl
 | lookup t x i ok=>simp only [eN,mZ,ZH,h x (by simp [Op.operands]),h i (by simp [Op.operands])]
 | slice t x l m k=>exact EV (h x (by simp [Op.operands])) (λy hy=>h y (by simp [Op.operands,hy])) λy hy=>h y (by simp [Op.operands,hy])
 | convert t t' x=>simp only [eN,Tj,h x (by simp [Op.operands])]
 | _=>rfl
theorem KE {b:Nat} {ts:List TypeId} {xs:List Operand} (h:∀ x∈xs,ch sl x=ch fI x):ob T b ⟨sl,rs,df⟩ ts xs=ob T b ⟨fI,rs,Iy⟩ ts xs:=by
 unfold ob
 grind
theorem FX {b:Nat} {dst:Option Tmp} {op:Op} (h:∀ x∈op.operands.toList,ch sl x=ch fI x):gk T lo hi b ⟨sl,rs,df⟩ dst op=gk T lo hi b ⟨fI,rs,Iy⟩ dst op:=by
 cases op with
 | box t x=>simp only [gk,uL,h x (by simp [Op.operands])]
 | alloc t=>rfl
 | store t x v=>simp only [gk,gz,h x (by simp [Op.operands]),h v (by simp [Op.operands])]
 | buildSlice t n ps=>
   simp only [gk,LF]
   have e:∀ sz,n9 sz sl ps.toList=n9 sz fI ps.toList:=λsz=>uc λp hp=>h p.2 (by grind [Op.operands])
   simp only [e]
 | call c=>
   have e:∀ x∈c.args.toList,ch sl x=ch fI x:=λx hx=>h x (by grind [Op.operands,Call.operands])
   grind [gk,gL,KE,Op.operands,Call.operands,lx,tL]
 | makeMap t r=>rfl
 | makeSlice t l c=>simp only [gk,lI,h l (by simp [Op.operands]),h c (by simp [Op.operands])]
 | mapUpdate t m k v=>simp only [gk,lG,h m (by simp [Op.operands]),h k (by simp [Op.operands]),h v (by simp [Op.operands])]
 | _=>rfl
theorem KD {b:Nat} {dst:Option Tmp} {op:Op} (h:∀ x∈op.operands.toList,ch sl x=ch fI x):fH T lo hi b ⟨sl,rs,df⟩ dst op=fH T lo hi b ⟨fI,rs,Iy⟩ dst op:=by
 grind [fH,Fl,FX]
def oX (rs aG:List ae):Prop:=∀ (q:Nat) (x:ae),aR rs q=some x->x.live->aR aG q=some x
theorem oX.nth (h:oX rs aG) {q:Nat} {x:ae} (e:Go.V.nth rs q=some x) (hx:x.live):Go.V.nth aG q=some x:=by
 rw [<- bV]; exact h q x (by rw [bV]; exact e) hx
theorem RG (hr:oX rs aG) {c:C} {b:Bool} (e:Ls rs c=some b):Ls aG c=some b:=by
 unfold Ls at e ⊢
 split at e
 .exact e
 .split at e
  .rename_i hq; rw [hr _ _ hq trivial]; exact e
  .rename_i hq; rw [hr _ _ hq trivial]; exact e
  .rename_i hq; rw [hr _ _ hq trivial]; exact e
  .simp at e
 .simp at e
theorem Mk (hr:oX rs aG) {op:BinOp} {t:Nat} {x:Operand} {d:D} (e:uE T ⟨sl,rs,df⟩ op t x=some d):uE T ⟨sl,aG,df⟩ op t x=some d:=by
 unfold uE at e ⊢
 grind [RG]
theorem KZ (hr:oX rs aG) {sz:Nat} {i:Int} {c:C} {d:D} (e:qg rs sz i c=some d):qg aG sz i c=some d:=by
 unfold qg at e ⊢
 split at e
 .exact e
 .split at e
  .rename_i hq; rw [hr _ _ hq trivial]; exact e
  .rename_i hq; rw [hr _ _ hq trivial]; exact e
  .rename_i hq; rw [hr _ _ hq trivial]; exact e
  .simp at e
 .simp at e
theorem Nf (hr:oX rs aG) {y:Ty} {c:C} {d:D} (e:rp T rs y c=some d):rp T aG y c=some d:=by
 unfold rp at e ⊢
 split at e
 .rename_i r i j
  unfold wX at e ⊢
  split at e
  .rename_i hq; rw [hr _ _ hq trivial]; exact e
  .rename_i hq; rw [hr _ _ hq trivial]; exact e
  .rename_i hq; rw [hr _ _ hq trivial]; exact e
  .rename_i hq; rw [hr _ _ hq trivial]; exact e
  .simp at e
 all_goals grind
theorem Sb (hr:oX rs aG) {c:C} {l:List Int} (e:NH rs c=some l):NH aG c=some l:=by
 unfold NH at e ⊢
 split at e
 .split at e
  .rename_i hq; rw [hr _ _ hq trivial]; exact e
  .simp at e
 .exact e
 .simp at e
theorem JY (hr:oX rs aG) {c:C} {n:Int} {d:D} (e:mW rs c n=some d):mW aG c n=some d:=by
 unfold mW at e ⊢
 split at e
 .exact e
 .split at e
  .rename_i hq; rw [hr _ _ hq trivial]; exact e
  .rename_i hq; rw [hr _ _ hq trivial]; exact e
  .rename_i hq; rw [hr _ _ hq trivial]; exact e
  .simp at e
 .exact e
 .simp at e
theorem LS (hr:oX rs aG) {op:Op} {d:D} (e:eN T ⟨sl,rs,df⟩ op=some d):eN T ⟨sl,aG,df⟩ op=some d:=by
 cases op with
 | binOp o t x y t2=>
   have e:wO T ⟨sl,rs,df⟩ o t x y=some d:=e
   show wO T ⟨sl,aG,df⟩ o t x y=some d
   unfold wO at e ⊢
   split at e
   .exact Mk hr e
   .exact e
 | indexAddr t x i=>
   have e:mU T ⟨sl,rs,df⟩ t x i=some d:=e
   show mU T ⟨sl,aG,df⟩ t x i=some d
   grind [mU,KZ]
 | load t x=>
   have e:ki T ⟨sl,rs,df⟩ t x=some d:=e
   show ki T ⟨sl,aG,df⟩ t x=some d
   grind [ki,Nf]
 | lookup t x i ok=>
   have e:mZ T ⟨sl,rs,df⟩ t x i ok=some d:=e
   show mZ T ⟨sl,aG,df⟩ t x i ok=some d
   unfold mZ at e ⊢
   split at e
   .exact e
   .cases h0:KA T t with
    | false=>rw [h0] at e; exact e
    | true=>
    rw [h0] at e
    grind [Sb]
 | slice t x l m k=>
   have e:kb T ⟨sl,rs,df⟩ t x l m k=some d:=e
   show kb T ⟨sl,aG,df⟩ t x l m k=some d
   unfold kb at e ⊢
   grind [JY]
 | _=>exact e
end
section
variable {T:dk} {lo:Lo} {hi:Hint} {sl fI:aL} {rs aG:List ae} {df Iy:List Nat}
theorem yK (hr:oX rs aG) {q:Nat} {rec LY:List C->Option (List I)} (rG:∀ l r,rec l=some r->LY l=some r) {x:I} (e:jG rs q rec=some x):jG aG q LY=some x:=by
 unfold jG at e ⊢
 split at e
 case h_2=>simp at e
 rename_i h1
 split at e
 case h_2=>simp at e
 rename_i h2
 simp only [hr.nth h1 trivial,rG _ _ h2]
 exact e
theorem yN (hr:oX rs aG) {rec LY:List C->Option (List I)} (rG:∀ l r,rec l=some r->LY l=some r) {c:C} {x:I} (e:mG rs rec c=some x):mG aG LY c=some x:=by
 unfold mG at e ⊢
 split at e
 .exact e
 .exact yK hr rG e
 .split at e
  .rename_i h1; rw [hr.nth h1 trivial]; exact e
  .rename_i h1
   rw [hr.nth h1 trivial]
   grind
  .rename_i h1; rw [hr.nth h1 trivial]; exact e
  .simp at e
 .split at e
  .rename_i h1; rw [hr.nth h1 trivial]; exact e
  .simp at e
 .exact e
 all_goals grind [yK]
theorem Bj {α β:Type} {f g:α->Option β} (h:∀ x y,f x=some y->g x=some y):∀ {l:List α} {r:List β},qe f l=some r->qe g l=some r
 | [],r,e=>e
 | x::l,r,e=>by
   simp only [qe] at e ⊢
   split at e
   case h_2=>simp at e
   rename_i h1 h2
   simp only [h _ _ h1,Bj h h2]
   exact e
theorem rh (hr:oX rs aG):∀ (k:Nat) (l:List C) (r:List I),reify k rs l=some r->reify k aG l=some r
 | 0,l,r,e=>Bj (λx y h=>yN hr (λ_ _ h=>h) h) e
 | k+1,l,r,e=>Bj (λx y h=>yN hr (rh hr k) h) e
theorem zJ (hr:oX rs aG):∀ {l r:List (Bool×List C)},dg.reifyT rs l=some r->dg.reifyT aG l=some r
 | [],r,e=>e
 | (b,l)::m,r,e=>by
   simp only [dg.reifyT] at e ⊢
   split at e
   case h_2=>simp at e
   rename_i h1 h2
   simp only [rh hr _ _ _ h1,zJ hr h2]
   exact e
theorem KR (hr:oX rs aG) {d d':D} (e:dg rs d=some d'):dg aG d=some d':=by
 cases d with
 | c x=>
   grind [dg,rh]
 | a l=>
   grind [dg,rh]
 | t l=>
   grind [dg,zJ]
theorem mL (hr:oX rs aG):∀ {l r:List D},cQ rs l=some r->cQ aG l=some r
 | [],r,e=>e
 | d::l,r,e=>by
   simp only [cQ] at e ⊢
   split at e
   case h_2=>simp at e
   rename_i h1 h2
   simp only [KR hr h1,mL hr h2]
   exact e
theorem qd {rec:List C->Option (List Nat)}:∀ {l:List C},fj l=true->Eg rec rs l=some []
 | [],_=>rfl
 | c::l,h=>by
   cases c with
   | im x=>
     have:=qd (rec:=rec) (l:=l) (by simpa [fj] using h)
     show (match (some []:Option (List Nat)) with
      | some a=>match Eg rec rs l with
        | some b=>some (a++b)
        | none=>none
      | none=>none)=some []
     rw [this]; rfl
   | _=>simp [fj] at h
theorem Dr:∀ {ds:List D},ud rs ds=some []->ud aG ds=some []
 | [],_=>rfl
 | d::ds,h=>by
   have h:(match Gq rs d,ud rs ds with
    | some a,some b=>some (a++b)
    | _,_=>none)=some []:=h
   split at h
   case h_2=>simp at h
   rename_i m k hm hk
   simp only [au,List.append_eq_nil_iff] at h
   obtain ⟨rfl,rfl⟩:=h
   have hd:Gq aG d=some []:=by
    cases d with
    | c x=>exact qd (lZ (l:=[x]) hm)
    | a l=>exact qd (lZ (l:=l) hm)
    | t l=>simp [Gq] at hm
   show (match Gq aG d,ud aG ds with
    | some a,some b=>some (a++b)
    | _,_=>none)=some []
   rw [hd,Dr hk]; rfl
theorem we {ds:List D} {e e':cn} (hc:∀ l,e' ≠ .ct l) (h:jx rs ds e=some e'):jx aG ds e=some e':=by
 grind [jx,Dr]
theorem S7 (hr:oX rs aG) {f:FuncId} {ds:List D} {d:D} (e:yq lo rs f ds=some d):yq lo aG f ds=some d:=by
 grind [yq,mL]
theorem BV (hr:oX rs aG) {f:FuncId} {ds:List D} {b:Nat} {d:cn} (e:wP lo rs f ds b=some d):wP lo aG f ds b=some d:=by
 grind [wP,mL]
theorem yS (hr:oX rs aG) {f:FuncId} {ds:List D} {e:cn} (hc:∀ l,e ≠ .ct l) (h:gq lo rs f ds=some e):gq lo aG f ds=some e:=by
 unfold gq at h ⊢
 split at h
 case h_2=>simp at h
 rename_i d hd
 simp only [S7 hr hd]
 cases hp:gT d with
 | true=>rw [hp] at h; exact h
 | false=>
   rw [hp] at h
   cases hq:l3 d with
   | true=>rw [hq] at h; exact we hc h
   | false=>rw [hq] at h; simp at h
theorem Kk (hr:oX rs aG) {f:FuncId} {ds:List D} {b:Nat} {e:cn} (hc:∀ l,e ≠ .ct l) (h:fK lo rs f ds b=some e):fK lo aG f ds b=some e:=by
 unfold fK at h ⊢
 split at h
 .rename_i ho; rw [BV hr ho]; exact h
 .rename_i ho
  rw [BV hr ho]
  simp only
  revert h
  generalize eI _=p
  intro h
  cases p with
  | true=>exact h
  | false=>exact we hc h
 all_goals grind [BV,we]
theorem Rn (hr:oX rs aG) {f:FuncId} {ds:List D} {b:Nat} {e:cn} (h:yu lo rs f ds b=some e):yu lo aG f ds b=some e:=by
 grind [j4,yu,mL]
theorem GS {b:Nat} {f:FuncId} {ds:List D} {d:Option D} {ws:List (Nat×ae)} (h:yu lo rs f ds b=some (.wr d ws)):∃ x,ws=[(b,x)]:=by
 obtain ⟨is,cs,qR,L,hp,hi,hc,hm,he⟩:=j4 h
 grind
def Ai (lo:Lo):Prop:=∀ f ds rs oU r,rs.length=oU.length->(∀ (q:Nat) (x:ae),aR rs q=some x->x.live->aR oU q=some x)->lo.wr f ds rs=some r->lo.wr f ds oU=some r
theorem Xe (hm:Ai lo) (hlen:rs.length=aG.length) (hr:oX rs aG) {f:FuncId} {ds:List D} {e:cn} (h:SG lo rs f ds=some e):SG lo aG f ds=some e:=by
 unfold SG at h ⊢
 split at h
 case h_2=>simp at h
 rename_i d q x hd
 rw [hm _ _ _ _ _ hlen hr hd,<- hlen]
 exact h
theorem Pt (hm:Ai lo) (hlen:rs.length=aG.length) (hr:oX rs aG) {b:Nat} {f:FuncId} {ds:List D} {e:cn} (hc:∀ l,e ≠ .ct l) (ha:∀ d r,e=.all d r->rs=aG) (h:nO lo hi rs b f ds=some e):nO lo hi aG b f ds=some e:=by
 have hE:sV lo rs f ds=some e->sV lo aG f ds=some e:=λh=>by
  grind [sV]
 unfold nO at h ⊢
 split at h
 .exact yS hr hc h
 .exact hE h
 .exact Kk hr hc h
 .exact Xe hm hlen hr h
 .exact Rn hr h
 .cases hp:eU ds with
  | true=>rw [hp] at h; exact yS hr hc h
  | false=>rw [hp] at h; exact hE h
theorem Sn {r:Nat} {ds:List D} {e:cn} (ha:∀ d r,e=.all d r->rs=aG) (h:BP lo rs r ds=some e):BP lo aG r ds=some e:=by
 grind [BP]
theorem Rt (hr:oX rs aG) {c:C} {x:Nat×Nat×List C} (e:yf rs c=some x):yf aG c=some x:=by
 unfold yf at e ⊢
 split at e
 .exact e
 .exact e
 .split at e
  .rename_i hq; rw [hr _ _ hq trivial]; exact e
  .rename_i hq; rw [hr _ _ hq trivial]; exact e
  .simp at e
 .simp at e
theorem SJ (hr:oX rs aG) {sz:Nat} {c:C} {x:Nat×(Nat->Nat->I)} (e:rZ sz rs c=some x):rZ sz aG c=some x:=by
 unfold rZ at e ⊢
 split at e
 .exact e
 .exact e
 .split at e
  .rename_i hq; rw [hr _ _ hq trivial]; exact e
  .rename_i hq; rw [hr _ _ hq trivial]; exact e
  .simp at e
 .simp at e
theorem Yh (hr:oX rs aG) {c src:C} (e:Ly rs c src=true):Ly aG c src=true:=by
 unfold Ly at e ⊢
 split at e
 .split at e
  .rename_i hq; rw [hr _ _ hq trivial]
  .simp at e
 .split at e
  .rfl
  .split at e
   .rename_i hq; rw [hr _ _ hq trivial]
   .simp at e
  .simp at e
 .simp at e
theorem Rm (hr:oX rs aG) {el sz k:Nat} {l':Nat->Nat->I} {bytes b:Nat} {c:C} {e:cn} (h:qM el sz k l' bytes b rs c=some e):qM el sz k l' bytes b aG c=some e:=by
 unfold qM at h ⊢
 split at h
 .exact h
 .split at h
  .rename_i hq; rw [hr _ _ hq trivial]; exact h
  .simp at h
 .simp at h
theorem kf {l:List C} {e:cn} (h:nW rs l=some e):∃ m,e=.ct m:=by
 grind [nW]
theorem Hq {b:Nat} {t t':TypeId} {x y:Operand} {e:cn} {s:VS} (h:ob T b s [t,t'] [x,y]=some e):∃ Cf ie z0 el,T.ty t=some ⟨Cf,ie,z0,.slice el⟩/\Nat.beq t t'=true/\
  ((o5 T el b s.rs (cR (ch s.sl x)) (cR (ch s.sl y))=some (some e))∨(o5 T el b s.rs (cR (ch s.sl x)) (cR (ch s.sl y))=none/\nZ T el b s.rs (cR (ch s.sl x)) (cR (ch s.sl y))=some e)):=by
 obtain ⟨h1,h2⟩:=Bool.aw (show (Bool.rec none _ (Nat.beq t t'):Option cn)=some e from h)
 grind
theorem XF (hr:oX rs aG) {el sz k:Nat} {l':List C} {bytes b:Nat} {c:C} {e:cn} (h:CT el sz k l' bytes b rs c=some e):CT el sz k l' bytes b aG c=some e:=by
 unfold CT at h ⊢
 split at h
 .exact h
 .split at h
  .rename_i hq; rw [hr _ _ hq trivial]; exact h
  .rename_i hq; rw [hr _ _ hq trivial]; exact h
  .simp at h
 .simp at h
theorem Tb (hr:oX rs aG) {el b:Nat} {x src:Option C} {e:cn} (h:nZ T el b rs x src=some e):nZ T el b aG x src=some e:=by
 unfold nZ at h ⊢
 split at h
 case h_2=>simp at h
 rename_i h1
 split at h
 case h_2=>simp at h
 split at h
 all_goals grind [Rt,Bool.aw,XF]
theorem Te (hr:oX rs aG) {el b:Nat} {x src:Option C} {e:cn} (hc:∀ l,e ≠ .ct l) (h:o5 T el b rs x src=some (some e)):o5 T el b aG x src=some (some e):=by
 unfold o5 at h ⊢
 split at h
 all_goals grind [Yh,AE,Bool.aw,SJ,Rm,kf]
theorem WE (hr:oX rs aG) {el b:Nat} {c src:C} {e:cn} (h:nZ T el b rs (some c) (some src)=some e) (hg:Ly rs c src=false):Ly aG c src=false:=by
 unfold nZ at h
 split at h
 case h_2=>simp at h
 simp only at h
 split at h
 case h_2=>simp at h
 rename_i h3
 have hap:∃ sz k l' bytes,CT el sz k l' bytes b rs c=some e:=by
  grind [Bool.aw]
 obtain ⟨sz,k,l',bytes,hap⟩:=hap
 unfold CT at hap
 split at hap
 .unfold yf at h3
  split at h3
  .simp [Ly] at hg
  .rfl
  .split at h3
   .rename_i hq; simp only [Ly,hr _ _ hq trivial]
   .rename_i hq; simp [Ly,hq] at hg
   .simp at h3
  .simp at h3
 .split at hap
  .rename_i hq; simp only [Ly,hr _ _ hq trivial]
  .rename_i hq; simp only [Ly,hr _ _ hq trivial]
  .simp at hap
 .simp at hap
theorem TD (hr:oX rs aG) {b:Nat} {ts:List TypeId} {xs:List Operand} {e:cn} (hc:∀ l,e ≠ .ct l) (h:ob T b ⟨sl,rs,df⟩ ts xs=some e):ob T b ⟨sl,aG,df⟩ ts xs=some e:=by
 have h0:=h
 unfold ob at h ⊢
 split at h
 case h_2=>simp at h
 rename_i t t' x y
 obtain ⟨Cf,ie,z0,el,hy,ht,hcase⟩:=Hq h0
 simp only at hcase
 simp only [ht,hy]
 rcases hcase with hcase|⟨hn,hcase⟩
 .rw [Te hr hc hcase]
 .have nr:o5 T el b aG (cR (ch sl x)) (cR (ch sl y))=none:=by
   unfold o5 at hn ⊢
   grind [WE]
  rw [nr]
  exact Tb hr hcase
theorem N6 (hm:Ai lo) (hlen:rs.length=aG.length) (hr:oX rs aG) {b:Nat} {dst:Option Tmp} {op:Op} {e:cn} (hc:∀ l,e ≠ .ct l) (ha:∀ d r,e=.all d r->rs=aG)
  (h:gk T lo hi b ⟨sl,rs,df⟩ dst op=some e):gk T lo hi b ⟨sl,aG,df⟩ dst op=some e:=by
 cases op with
 | store t x v=>
   have h:gz T ⟨sl,rs,df⟩ dst t x v=some e:=h
   show gz T ⟨sl,aG,df⟩ dst t x v=some e
   unfold gz at h ⊢
   split at h
   .simp at h
   .split at h
    case h_2=>simp at h
    rename_i h1 h2
    split at h
    case h_2=>simp at h
    rename_i h3
    obtain ⟨h4,h⟩:=Bool.aw h
    split at h
    case h_2=>simp at h
    rename_i h5
    simp only at h2 h5 ⊢
    simp only [h1,h2,h3,h4,h5]
    unfold lA at h ⊢
    split at h
    .rename_i hq; rw [hr _ _ hq trivial]; exact h
    .rename_i hq; rw [hr _ _ hq trivial]; exact h
    .rename_i hq
     simp only [hr _ _ hq trivial]
     grind [kf]
    .rename_i hq; rw [hr _ _ hq trivial]; exact h
    .simp at h
 | mapUpdate t m k v=>
   have h:lG T ⟨sl,rs,df⟩ dst t m k v=some e:=h
   show lG T ⟨sl,aG,df⟩ dst t m k v=some e
   unfold lG at h ⊢
   split at h
   .simp at h
   .obtain ⟨h4,h⟩:=Bool.aw h
    split at h
    case h_2=>simp at h
    rename_i h1 h2 h3
    split at h
    case h_2=>simp at h
    rename_i h5
    simp only at h1 h2 h3 h5 ⊢
    simp only [h1,h2,h3,h4,hr _ _ h5 trivial]
    exact h
 | call c=>
   have h:gL T lo hi b ⟨sl,rs,df⟩ c=some e:=h
   show gL T lo hi b ⟨sl,aG,df⟩ c=some e
   unfold gL at h ⊢
   split at h
   .exact TD hr hc h
   .unfold lx at h ⊢
    split at h
    case h_2=>simp at h
    rename_i h1 h2
    simp only at h1 h2 ⊢
    simp only [h1,h2]
    grind [Sn,Pt]
   .simp at h
 | _=>exact h
theorem Hf {b:Nat} {s:VS} {dst:Option Tmp} {op:Op} {e:cn} (h:gk T lo hi b s dst op=some e):eN T s op=none:=by
 cases op with
 | call c=>
   have h:gL T lo hi b s c=some e:=h
   show Fp T s c=none
   unfold gL at h
   unfold Fp
   split at h
   .rename_i hc; rw [hc]; rfl
   all_goals grind
 | _=>first|rfl|simp [gk] at h
theorem GH (hm:Ai lo) (hlen:rs.length=aG.length) (hr:oX rs aG) {b:Nat} {dst:Option Tmp} {op:Op} (hs:∀ x∈op.operands.toList,ch sl x=ch fI x) {e:cn} (hc:∀ l,e ≠ .ct l) (ha:∀ d r,e=.all d r->rs=aG)
  (h:fH T lo hi b ⟨sl,rs,df⟩ dst op=some e):fH T lo hi b ⟨fI,aG,Iy⟩ dst op=some e:=by
 rw [<- KD (df:=df) (Iy:=Iy) hs]
 grind [fH,LS,N6,Hf]
def Shape (b:Nat) (rs:List ae) (ws:List (Nat×ae)):Prop:=
 (∃ x,ws=[(b,x)])∨(∃ q x,ws=[(q,x)]/\q<rs.length)∨(∃ q x y,ws=[(q,x),(b,y)])
theorem kv {α:Type} {l:List α} {q:Nat} {x:α} (h:aR l q=some x):q<l.length:=by
 grind [bV,bg]
theorem J2 {el sz k:Nat} {l':List C} {bytes b:Nat} {c:C} {d:Option D} {ws:List (Nat×ae)} (h:CT el sz k l' bytes b rs c=some (.wr d ws)):Shape b rs ws:=by
 unfold CT at h
 split at h
 .split at h
  .simp at h
  .replace h:=(Bool.aw h).2
   simp only [au,cn.wr.injEq] at h
   exact .inl ⟨_,h.2.symm⟩
 .split at h
  .replace h:=(Bool.aw h).2
   replace h:=(Bool.aw h).2
   simp only [au,cn.wr.injEq] at h
   exact .inr (.inr ⟨_,_,_,h.2.symm⟩)
  .split at h
   .replace h:=(Bool.aw h).2
    replace h:=(Bool.aw h).2
    simp only [au,cn.wr.injEq] at h
    exact .inr (.inr ⟨_,_,_,h.2.symm⟩)
   .simp at h
  .simp at h
 .simp at h
theorem qU {el sz n size r i j:Nat} {get:Nat->Nat->O} {dJ:Option (Nat×List Fc)} {cs:List C} {e:cn} (h:nF el sz n get dJ size r i j cs=some e):∃ x,e=.wr none [(r,x)]:=by
 grind [nF,Bool.aw]
theorem rW {el sz n size r i j:Nat} {get:Nat->Nat->O} {dJ:Option (Nat×List Fc)} {cs:List C} {e:cn} (h:qm el sz n get dJ size r i j cs=some e):∃ x,e=.wr none [(r,x)]:=by
 unfold qm at h
 split at h
 .exact qU h
 .rename_i x
  cases hb:Nat.beq i x.1 with
  | false=>rw [hb] at h; exact qU h
  | true=>
    rw [hb] at h
    grind [Bool.aw]
theorem Fy {el sz k:Nat} {l':Nat->Nat->I} {bytes b:Nat} {c:C} {d:Option D} {ws:List (Nat×ae)} (h:qM el sz k l' bytes b rs c=some (.wr d ws)):Shape b rs ws:=by
 unfold qM at h
 split at h
 .replace h:=(Bool.aw h).2
  simp only [au,cn.wr.injEq] at h
  exact .inl ⟨_,h.2.symm⟩
 .split at h
  .replace h:=(Bool.aw h).2
   replace h:=(Bool.aw h).2
   replace h:=(Bool.aw h).2
   simp only [au,cn.wr.injEq] at h
   exact .inr (.inr ⟨_,_,_,h.2.symm⟩)
  .simp at h
 .simp at h
theorem wi {ds:List D} {e:cn} {d:Option D} {ws:List (Nat×ae)} (h:jx rs ds e=some (.wr d ws)):e=.wr d ws:=by
 rcases mH h with ⟨l,hl⟩|⟨h,_⟩
 all_goals grind
theorem qT {f:FuncId} {ds:List D} {d:Option D} {ws:List (Nat×ae)} (h:gq lo rs f ds=some (.wr d ws)):False:=by
 unfold gq at h
 split at h
 case h_2=>simp at h
 rename_i d hd
 cases hp:gT d with
 | true=>rw [hp] at h; simp at h
 | false=>
   rw [hp] at h
   have h:=wi (Bool.aw h).2
   cases h
theorem Ay {b:Nat} {f:FuncId} {ds:List D} {d:Option D} {ws:List (Nat×ae)} (h:fK lo rs f ds b=some (.wr d ws)):Shape b rs ws:=by
 unfold fK at h
 split at h
 .simp at h
 .rename_i d1 q el sz n l ho
  rcases mi ho with ⟨is,q',n',oU,qQ,cL,l',_,_,_,_,_,hws⟩|⟨is,q',n',oU,qQ,cL,l',_,_,_,_,hws⟩
  case inr=>simp at hws
  simp only [List.cons.injEq,bs,and_true] at hws
  obtain ⟨rfl,_⟩:=hws
  revert h
  generalize eI _=p
  intro h
  cases p with
  | true=>simp only [au,cn.wr.injEq] at h; exact .inl ⟨_,h.2.symm⟩
  | false=>have h:=wi h; simp only [cn.wr.injEq] at h; exact .inl ⟨_,h.2.symm⟩
 .rename_i d1 q el sz n get ho
  rcases mi ho with ⟨is,q',n',oU,qQ,cL,l',_,_,_,_,_,hws⟩|⟨is,q',n',oU,qQ,cL,l',_,_,_,_,hws⟩
  case inl=>simp at hws
  simp only [List.cons.injEq,bs,and_true] at hws
  obtain ⟨rfl,_⟩:=hws
  have h:=wi h
  simp only [cn.wr.injEq] at h
  exact .inl ⟨_,h.2.symm⟩
 .simp at h
theorem xL {f:FuncId} {ds:List D} {d:Option D} {ws:List (Nat×ae)} (h:sV lo rs f ds=some (.wr d ws)):False:=by
 unfold sV at h
 split at h<;>simp at h
theorem wR {b:Nat} {s:VS} {dst:Option Tmp} {op:Op} {d:Option D} {ws:List (Nat×ae)} (h:fH T lo hi b s dst op=some (.wr d ws)):Shape b s.rs ws:=by
 unfold fH at h
 split at h
 .simp at h
 .cases op with
  | box t x=>
    have h:uL b s x=_:=h
    unfold uL at h
    split at h
    .split at h
     .simp only [au,cn.wr.injEq] at h; exact .inl ⟨_,h.2.symm⟩
     .simp at h
    .simp at h
  | alloc t=>
    have h:j6 T b t=_:=h
    unfold j6 at h
    split at h
    .split at h
     .simp only [au,cn.wr.injEq] at h; exact .inl ⟨_,h.2.symm⟩
     .simp at h
    .simp at h
  | store t x v=>
    have h:gz T s dst t x v=_:=h
    unfold gz at h
    split at h
    .simp at h
    .split at h
     case h_2=>simp at h
     split at h
     case h_2=>simp at h
     replace h:=(Bool.aw h).2
     split at h
     case h_2=>simp at h
     unfold lA at h
     split at h
     .rename_i hq
      split at h
      .split at h
       .simp only [au,cn.wr.injEq] at h; exact .inr (.inl ⟨_,_,h.2.symm,kv hq⟩)
       .simp at h
      .simp at h
     .rename_i hq
      split at h
      .simp only [au,cn.wr.injEq] at h; exact .inr (.inl ⟨_,_,h.2.symm,kv hq⟩)
      .simp at h
     .rename_i hq
      split at h
      .replace h:=(Bool.aw h).2
       replace h:=(Bool.aw h).2
       simp only [au,cn.wr.injEq] at h; exact .inr (.inl ⟨_,_,h.2.symm,kv hq⟩)
      .obtain ⟨m,hm⟩:=kf h
       cases hm
     .rename_i hq
      obtain ⟨x,hx⟩:=rW h
      simp only [cn.wr.injEq] at hx
      exact .inr (.inl ⟨_,_,hx.2,kv hq⟩)
     .simp at h
  | buildSlice t n ps=>
    have h:LF T b s (zf hi dst) t n ps.toList=_:=h
    unfold LF at h
    split at h
    case h_2=>simp at h
    split at h
    case h_2=>simp at h
    split at h
    case h_2=>simp at h
    split at h
    case h_2=>simp at h
    replace h:=(Bool.aw h).2
    rcases jq (zf hi dst) b _ _ n _ with hc|⟨_,_,hc⟩|⟨_,hc⟩
    .rw [hc] at h
     simp only [au,cn.wr.injEq] at h; exact .inl ⟨_,h.2.symm⟩
    .rw [hc] at h; simp at h
    .rw [hc] at h
     simp only [au,cn.wr.injEq] at h; exact .inl ⟨_,h.2.symm⟩
  | makeSlice t l c=>
    have h:lI T b s t l c=_:=h
    unfold lI at h
    split at h
    case h_2=>simp at h
    split at h
    case h_2=>simp at h
    split at h
    case h_2=>simp at h
    split at h
    case h_2=>simp at h
    split at h
    case h_2=>simp at h
    replace h:=(Bool.aw h).2
    replace h:=(Bool.aw h).2
    replace h:=(Bool.aw h).2
    simp only [au,cn.wr.injEq] at h; exact .inl ⟨_,h.2.symm⟩
  | makeMap t r=>
    have h:kp T b t r=_:=h
    unfold kp at h
    split at h
    .simp only [au,cn.wr.injEq] at h; exact .inl ⟨_,h.2.symm⟩
    .simp at h
  | mapUpdate t m k v=>
    have h:lG T s dst t m k v=_:=h
    unfold lG at h
    split at h
    .simp at h
    .replace h:=(Bool.aw h).2
     split at h
     case h_2=>simp at h
     split at h
     case h_2=>simp at h
     rename_i hq
     simp only [au,cn.wr.injEq] at h; exact .inr (.inl ⟨_,_,h.2.symm,kv hq⟩)
  | call c=>
    have h:gL T lo hi b s c=_:=h
    unfold gL at h
    split at h
    .unfold ob at h
     split at h
     case h_2=>simp at h
     replace h:=(Bool.aw h).2
     split at h
     case h_2=>simp at h
     split at h
     .rename_i e' he'
      subst h
      unfold o5 at he'
      split at he'
      all_goals grind [AE,Fy,Bool.aw,nW]
     unfold nZ at h
     split at h
     case h_2=>simp at h
     split at h
     all_goals grind [J2,Bool.aw]
    .unfold lx at h
     split at h
     case h_2=>simp at h
     split at h
     .unfold BP at h
      split at h<;>simp at h
     .split at h
      case h_2=>simp at h
      unfold nO at h
      split at h
      .exact (qT h).elim
      .exact (xL h).elim
      .exact Ay h
      .unfold SG at h
       split at h
       case h_2=>simp at h
       rename_i d' q x hd
       obtain ⟨hq,h⟩:=Bool.aw h
       simp only [au,cn.wr.injEq] at h
       exact .inr (.inl ⟨q,x,h.2.symm,by simp_all⟩)
      .exact .inl (GS h)
      .revert h
       generalize eU _=p
       intro h
       cases p with
       | true=>exact (qT h).elim
       | false=>exact (xL h).elim
    .simp at h
  | _=>simp [gk] at h
theorem oe {b b':Nat} {s:VS} {dst:Option Tmp} {op:Op} (h:dP op=0):fH T lo hi b s dst op=fH T lo hi b' s dst op:=by
 unfold fH
 have:gk T lo hi b s dst op=gk T lo hi b' s dst op:=by
  cases op with
  | call c=>
    show gL T lo hi b s c=gL T lo hi b' s c
    have h:FU c.callee=0:=h
    grind [gL,FU]
  | _=>first|rfl|simp [dP] at h
 rw [this]
end
open Go.RowKit
section
variable {P:Program} {T:dk} {lo:Lo} {hi:Hint} {N:Nat} {ax:Nat->Prop} {w0:Kp} {sp:List (D×Value)} {s:VS} {a:Act} {w:World} {E:Env} {ρ:Option Nat}
theorem th {sl:aL}:∀ {l:List Tmp},bw (tW sl l)
 | [],x,hx=>by cases hx
 | t::l,x,hx=>by
   simp only [tW] at hx
   split at hx
   .cases hx with
    | head=>rfl
    | tail _ hx=>exact th x hx
   .exact th x hx
theorem oh:∀ {l:List Tmp} {sl:aL} {t:Tmp} {d:D} {c:eF},look (tW sl l) t=some (d,c)->c=[]/\look sl t=some (d,[])
 | [],sl,t,d,c,h=>by simp [tW,look] at h
 | k::l,sl,t,d,c,h=>by
   simp only [tW] at h
   split at h
   .rename_i d' hk
    simp only [look] at h
    split at h
    .simp_all
    .exact oh h
   .exact oh h
theorem Iq (h:R T N ax w0 sp s a w E) (hn:bw s.sl) (f:FuncId) (id:Nat):R T N ax w0 sp (sy hi f id s) a w E/\bw (sy hi f id s).sl:=by
 unfold sy
 split
 .exact ⟨⟨h.size,h.defers,h.spec,h.below,h.len,h.outer,h.roots,h.cJ,h.dz,λt d c hl=>by
   obtain ⟨rfl,h1⟩:=oh hl
   exact h.slots t d [] h1,h.fS⟩,th⟩
 .exact ⟨h,hn⟩
theorem wj (bC:cZ P T) (hl:gw T P lo) (h:R T N ax w0 sp s a w E) (hn:bw s.sl) {f:FuncId} {ro:Option Nat} {id:Nat} {ops:Array Oper} {s':VS} (e:regionF T lo hi N f ro id ops.toList false s=some s')
  {b:Frame} {k:List Item} {cs:List Frame}:∃ a' w' E',Kept E E'/\R T N ax w0 sp s' a' w' E'/\bw s'.sl/\Steps P (lone (b.atR a (.code (.region id ops false)::k)) cs w) (lone (b.atR a' k) cs w'):=by
 unfold regionF at e
 simp only at e
 split at e
 case h_2=>simp at e
 rename_i s1 hs1
 simp only [au] at e
 subst e
 have hw:=qJ (ρ:=b.roundOf) (Q:=λen a' w'=>en=.normal/\∃ E',Kept E E'/\R T N ax w0 sp s1 a' w' E'/\bw s1.sl) bC hl (λa' w' E' hk h1 h2=>⟨rfl,E',hk,h1,h2⟩) hs1 (Kept.refl E) h hn
 obtain ⟨en,a',w',⟨rfl,E',hk,h1,h2⟩,harr⟩:=wpIn_region_list (id:=id) hw b k cs rfl trivial (I8 _ _)
 obtain ⟨h3,h4⟩:=Iq (hi:=hi) h1 h2 f id
 exact ⟨a',w',E',hk,h3,h4,StepsIn.steps harr⟩
end
section
theorem bW {α:Type} (l:List α) (i:Nat):aR l i=l[i]?:=by rw [bV,bg]
theorem qn {acc:List Nat} {j:Nat}:∀ {l:List Edge} {m:Nat},(nv acc l m).testBit j=true↔(m.testBit j=true∨∃ e∈l,Region.binds .any e=true/\(j=e.on∨∃ x,acc[e.on]?=some x/\x.testBit j=true))
 | [],m=>by simp [nv]
 | e::l,m=>by
   have hun:nv acc (e::l) m=(Bool.rec (nv acc l m) (nv acc l (Nat.lor (Nat.lor (Nat.shiftLeft 1 e.on) m) (match aR acc e.on with
    | some x=>x
    | none=>0))) (Region.binds .any e):Nat):=rfl
   rw [hun]
   cases hb:Region.binds .any e with
   | false=>
     show (nv acc l m).testBit j=true↔_
     rw [qn]
     grind
   | true=>
     show (nv acc l (((1 <<< e.on) ||| m) ||| (match aR acc e.on with
      | some x=>x
      | none=>0))).testBit j=true↔_
     rw [qn,bW]
     grind [Nat.one_shiftLeft]
theorem w7:∀ (l:List Oper) (acc:List Nat),∃ rest,iN l acc=acc++rest/\rest.length=l.length/\∀ i o,l[i]?=some o->rest[i]?=some (nv (acc++rest.take i) o.after.toList 0)
 | [],acc=>⟨[],by simp [iN],rfl,λi o h=>by simp at h⟩
 | o::l,acc=>by
   obtain ⟨rest,h1,h2,h3⟩:=w7 l (acc++[nv acc o.after.toList 0])
   refine ⟨nv acc o.after.toList 0::rest,?_,by simp [h2],λi o' h=>?_⟩
   .show iN l (acc++[nv acc o.after.toList 0])=_
    rw [h1]; simp
   .cases i with
    | zero=>simp at h; subst h; simp
    | succ i=>
      grind
structure Anc (ops:List Oper) (A:List Nat):Prop where
 len:A.length=ops.length
 bits:∀ i o m,ops[i]?=some o->A[i]?=some m->∀ j,m.testBit j=true↔∃ e∈o.after.toList,Region.binds .any e=true/\(j=e.on∨∃ x,(A.take i)[e.on]?=some x/\x.testBit j=true)
theorem Xy (ops:List Oper):Anc ops (iN ops []):=by
 obtain ⟨rest,h1,h2,h3⟩:=w7 ops []
 rw [List.nil_append] at h1
 rw [h1]
 refine ⟨h2,λi o m ho hm j=>?_⟩
 grind [qn]
theorem uk:∀ {l:List Nat} {k:Nat},Bm l k=true->∀ i m,l[i]?=some m->∀ j,m.testBit j=true->j<k+i
 | [],k,h,i,m,hm,j,hj=>by simp at hm
 | x::l,k,h,i,m,hm,j,hj=>by
   have h:(Bool.rec false (Bm l (k+1)) (Nat.blt x (Nat.shiftLeft 1 k)):Bool)=true:=h
   have h1:Nat.blt x (Nat.shiftLeft 1 k)=true/\Bm l (k+1)=true:=by
    cases hb:Nat.blt x (Nat.shiftLeft 1 k) with
    | true=>rw [hb] at h; exact ⟨rfl,h⟩
    | false=>rw [hb] at h; simp at h
   cases i with
   | zero=>
     simp at hm
     subst hm
     have eG:x<2 ^ k:=by
      have:=aM h1.1
      rwa [show Nat.shiftLeft 1 k=1 <<< k from rfl,Nat.one_shiftLeft] at this
     grind [Nat.testBit_lt_two_pow,Nat.lt_of_lt_of_le,Nat.pow_le_pow_right]
   | succ i=>
     simp only [List.getElem?_cons_succ] at hm
     have:=uk h1.2 i m hm j hj
     omega
theorem Bool.fW {x b:Bool} (h:(Bool.rec false x b:Bool)=true):b=true/\x=true:=by
 cases b with
 | false=>simp at h
 | true=>exact ⟨rfl,h⟩
theorem wx {t:Tmp}:∀ {l:List Oper} {k j:Nat},om t l k=some j->∃ i o,j=k+i/\l[i]?=some o/\o.dst=some t
 | [],k,j,h=>by simp [om] at h
 | o::l,k,j,h=>by
   have h:(match o.dst with
    | some t'=>(Bool.rec (om t l (k+1)) (some k) (Nat.beq t t'):Option Nat)
    | none=>om t l (k+1))=some j:=h
   have go:om t l (k+1)=some j->∃ i o',j=k+i/\(o::l)[i]?=some o'/\o'.dst=some t:=λh=>by
    obtain ⟨i,o',h1,h2,h3⟩:=wx h
    exact ⟨i+1,o',by omega,by simpa using h2,h3⟩
   split at h
   .rename_i t' ht
    cases hb:Nat.beq t t' with
    | true=>
      simp_all
    | false=>rw [hb] at h; exact go h
   .exact go h
theorem pY {t:Tmp}:∀ {l:List Oper} {k:Nat},om t l k=none->∀ (i:Nat) (o:Oper),l[i]?=some o->o.dst≠some t
 | [],k,h,i,o',ho=>by simp at ho
 | o::l,k,h,i,o',ho=>by
   have h:(match o.dst with
    | some t'=>(Bool.rec (om t l (k+1)) (some k) (Nat.beq t t'):Option Nat)
    | none=>om t l (k+1))=none:=h
   have both:o.dst≠some t/\om t l (k+1)=none:=by
    split at h
    .rename_i t' ht
     cases hb:Nat.beq t t' with
     | true=>rw [hb] at h; simp at h
     | false=>
       rw [hb] at h
       grind [Nat.beq_refl]
    grind
   cases i with
   | zero=>grind
   | succ i=>exact pY both.2 i o' (by simpa using ho)
theorem wJ:∀ {l:List Oper},EX l=true->∀ (i j:Nat) (o o':Oper) (t:Tmp),l[i]?=some o->l[j]?=some o'->o.dst=some t->o'.dst=some t->i=j
 | [],h,i,j,o,o',t,h1,h2,h3,h4=>by simp at h1
 | x::l,h,i,j,o,o',t,h1,h2,h3,h4=>by
   have h:(match x.dst with
    | some t=>(Bool.rec false (EX l) (Hn t l):Bool)
    | none=>EX l)=true:=h
   have both:EX l=true/\∀ t,x.dst=some t->∀ (i:Nat) (o:Oper),l[i]?=some o->o.dst≠some t:=by
    grind [Bool.fW,Hn,pY]
   cases i with
   | zero=>
     grind
   | succ i=>
     cases j with
     | zero=>
       grind
     | succ j=>rw [wJ both.1 i j o o' t (by simpa using h1) (by simpa using h2) h3 h4]
theorem kc {ops:List Oper} {m:Nat}:∀ {l:List Operand},rU ops m l=true->∀ t,.tmp t∈l->JL ops m t=true
 | [],h,t,ht=>by simp at ht
 | x::l,h,t,ht=>by
   cases x with
   | tmp k=>
     have h:(Bool.rec false (rU ops m l) (JL ops m k):Bool)=true:=h
     rcases List.mem_cons.1 ht with e|ht
     .grind [Bool.fW]
     .exact kc (Bool.fW h).2 t ht
   | const v=>
     have h:rU ops m l=true:=h
     rcases List.mem_cons.1 ht with e|ht
     .cases e
     .exact kc h t ht
   | func f=>
     have h:rU ops m l=true:=h
     rcases List.mem_cons.1 ht with e|ht
     .cases e
     .exact kc h t ht
   | global g=>
     have h:rU ops m l=true:=h
     rcases List.mem_cons.1 ht with e|ht
     .cases e
     .exact kc h t ht
theorem uq {ops:List Oper}:∀ {l:List Oper} {ms:List Nat},FO ops l ms=true->∀ (i:Nat) (o:Oper) (m:Nat),l[i]?=some o->ms[i]?=some m->Ax m o.guard=true/\rU ops m o.op.operands.toList=true
 | [],ms,h,i,o,m,h1,h2=>by simp at h1
 | x::l,[],h,i,o,m,h1,h2=>by simp at h2
 | x::l,y::ms,h,i,o,m,h1,h2=>by
   have h:(Bool.rec false (FO ops l ms) (Ax y x.guard&&rU ops y x.op.operands.toList):Bool)=true:=h
   obtain ⟨h3,h4⟩:=Bool.fW h
   cases i with
   | zero=>grind
   | succ i=>exact uq h4 i o m (by simpa using h1) (by simpa using h2)
noncomputable def dD (us:Nat->j8) (s0:VS) (L:Nat->Bool):Nat->VS
 | 0=>s0
 | k+1=>match L k with
   | true=>(us k).on (dD us s0 L k)
   | false=>dD us s0 L k
structure View (α:Type) where
 f:VS->α
 act:j8->α->α
 ny:j8->Prop
 on:∀ u s,f (u.on s)=act u (f s)
 idle:∀ u x,¬ ny u->act u x=x
section
variable {α:Type} (v:View α) {us:Nat->j8} {s0:VS} {L L':Nat->Bool}
theorem View.agree:∀ {m:Nat},(∀ k,k<m->v.ny (us k)->L k=L' k)->v.f (dD us s0 L m)=v.f (dD us s0 L' m)
 | 0,_=>rfl
 | m+1,h=>by
   have ih:=View.agree (m:=m) λk hk=>h k (by omega)
   simp only [dD]
   by_cases ht:v.ny (us m)
   .rw [h m (by omega) ht]
    split
    .rw [v.on,v.on,ih]
    .exact ih
   .split<;>split
    .rw [v.on,v.on,ih]
    .rw [v.on,v.idle _ _ ht,ih]
    .rw [v.on,v.idle _ _ ht,ih]
    .exact ih
theorem View.tail {i:Nat}:∀ {m:Nat},i<=m->(∀ k,i<=k->k<m->L k=true->¬ v.ny (us k))->v.f (dD us s0 L m)=v.f (dD us s0 L i)
 | 0,hi,_=>by rw [show i=0 by omega]
 | m+1,hi,h=>by
   rcases Nat.lt_or_ge i (m+1) with gI|gI
   .have ih:=View.tail (i:=i) (m:=m) (by omega) λk h1 h2=>h k h1 (by omega)
    rw [<- ih]
    simp only [dD]
    split
    .rename_i hL
     rw [v.on,v.idle _ _ (h m (by omega) (by omega) hL)]
    .rfl
   .rw [show i=m+1 by omega]
def more (L:Nat->Bool) (i k:Nat):Bool:=bif k==i then true else L k
theorem jZ (i:Nat):more L i i=true:=by simp [more]
theorem ik {i k:Nat} (h:k≠i):more L i k=L k:=by simp [more,h]
theorem View.step {i n:Nat} (hi:i<n) (hL:L i=false) (h:v.ny (us i)->∀ k,i<k->k<n->L k=true->¬ v.ny (us k)):v.f ((us i).on (dD us s0 L n))=v.f (dD us s0 (more L i) n):=by
 rw [v.on]
 by_cases ht:v.ny (us i)
 .have h:=h ht
  rw [v.tail (i:=i+1) (by omega) λk h1 h2 h3=>h k (by omega) h2 h3]
  rw [v.tail (L:=more L i) (i:=i+1) (by omega) λk h1 h2 h3=>h k (by omega) h2 (by rwa [ik (by omega)] at h3)]
  simp only [dD,hL,jZ]
  rw [v.on]
  rw [v.agree (L:=L) (L':=more L i) λk hk _=>(ik (by omega)).symm]
 .rw [v.idle _ _ ht]
  exact v.agree λk hk nG=>by
   rw [ik]
   grind
end
theorem mJ {us:Nat->j8} {s0:VS} {L:Nat->Bool} {i:Nat}:∀ {n:Nat},i<=n->dD us s0 (λk=>L k&&decide (k<i)) n=dD us s0 L i
 | 0,h=>by rw [show i=0 by omega]; rfl
 | n+1,h=>by
   rcases Nat.lt_or_ge n i with hn|hn
   .have hi:i=n+1:=by omega
    subst hi
    have:∀ m,m<=n+1->dD us s0 (λk=>L k&&decide (k<n+1)) m=dD us s0 L m:=by
     intro m
     induction m with
     | zero=>intro _; rfl
     | succ m ih=>
       grind [dD]
    grind
   .simp only [dD]
    rw [show (L n&&decide (n<i))=false by grind]
    exact mJ hn
theorem xF (k:Tmp) (d:D) (c:eF) (sl:aL) (t:Tmp):dW ((k,d,c)::sl) t=(Bool.rec (dW sl t) (some d) (Nat.beq k t):Option D):=rfl
def j8.at (u:j8) (t:Tmp):Option D:=match u.dst with
 | some t'=>match u.val with
   | some d=>match Nat.beq t' t with
     | true=>some d
     | false=>none
   | none=>none
 | none=>none
noncomputable def QN (t:Tmp):View (Option D) where
 f s:=dW s.sl t
 act u x:=match u.at t with
  | some d=>some d
  | none=>x
 ny u:=u.at t≠none
 on u s:=by
  unfold j8.on yw j8.at
  cases u.dst with
  | none=>rfl
  | some t' =>
    cases u.val with
    | none=>rfl
    | some d=>
      simp only [xF]
      cases Nat.beq t' t<;>rfl
 idle u x h:=by
  grind
theorem j8.Vm {u:j8} {t:Tmp} (h:u.at t≠none):u.dst=some t:=by
 grind [j8.at,cg]
def Lk (q:Nat):List (Nat×ae)->Option ae->Option ae
 | [],x=>x
 | p::ws,x=>Lk q ws (match Nat.beq p.1 q with
   | true=>match x with
     | some _=>some p.2
     | none=>none
   | false=>x)
theorem xR (q:Nat):∀ (ws:List (Nat×ae)) (rs:List ae),aR (writes ws rs) q=Lk q ws (aR rs q)
 | [],rs=>rfl
 | p::ws,rs=>by
   show aR (writes ws (setAt rs p.1 p.2)) q=_
   rw [xR q ws]
   grind [Lk,bW,ba,cg,Nat.beq_refl]
theorem zh {q:Nat}:∀ {ws:List (Nat×ae)} {x:Option ae},q ∉ ws.map (·.1)->Lk q ws x=x
 | [],x,_=>rfl
 | p::ws,x,h=>by
   simp only [List.map_cons,List.mem_cons,not_or] at h
   simp only [Lk]
   have:Nat.beq p.1 q=false:=by
    grind [cg]
   rw [this]
   exact zh h.2
noncomputable def N7 (q:Nat):View (Option ae) where
 f s:=aR s.rs q
 act u x:=Lk q u.ws (match u.al with
  | some rs=>aR rs q
  | none=>x)
 ny u:=u.al≠none∨q∈u.ws.map (·.1)
 on u s:=by
  have:(u.on s).rs=writes u.ws (CC u.al s.rs):=by
   unfold j8.on yw
   grind
  grind [xR,CC]
 idle u x h:=by
  grind [zh]
end
end Go.V
