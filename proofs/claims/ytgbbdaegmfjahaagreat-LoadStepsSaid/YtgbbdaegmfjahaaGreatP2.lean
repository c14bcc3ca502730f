/- The executor's operations that only compute: the machine does them. -/
import Derived.Test.YtgbbdaegmfjahaaGreatP1
set_option linter.unusedSimpArgs false
set_option linter.unusedVariables false
namespace Go.V
open Go.RowKit
theorem Bool.ay {α:Type} {x:Option α} {b:Bool} {y:α} (h:(Bool.rec none x b:Option α)=some y):b=true/\x=some y:=by
 cases b with
 | false=>simp at h
 | true=>exact ⟨rfl,h⟩
def bT (sl:a8):Prop:=∀ x∈sl,x.2.2=[]
theorem bT.cons {sl:a8} (h:bT sl) (t:Tmp) (d:D):bT ((t,d,[])::sl):=λx hx=>by
 cases hx with
 | head=>rfl
 | tail _ hx=>exact h x hx
theorem cx {α:Type}:∀ (l:List α) (i:Nat),bh l i=nth l i
 | [],_=>rfl
 | _::_,0=>rfl
 | _::l,i+1=>cx l i
theorem gh:∀ {sl:a8} {t:Tmp} {d:D},bT sl->eT sl t=some d->look sl t=some (d,[])
 | [],t,d,_,h=>by simp [eT] at h
 | x::sl,t,d,hn,h=>by
   have hs:bT sl:=λy hy=>hn y (gJ _ hy)
   obtain ⟨k,e,c⟩:=x
   have hc:c=[]:=hn _ (kz ..)
   subst hc
   simp only [look]
   have h:(Bool.rec (eT sl t) (some e) (Nat.beq k t):Option D)=some d:=h
   cases hk:Nat.beq k t with
   | true=>simp_all
   | false=>rw [hk] at h; exact gh hs h
section
variable {P:Program} {T:ec} {N:Nat} {aA:Nat->Prop} {w0:Kp} {sp:List (D×Value)} {s:VS} {a:Act} {w:World} {E:Env}
theorem dW (hn:bT s.sl) {x:Operand} {d:D} (e:cF s.sl x=some d):s.ev [] x=some d:=by
 cases x with
 | tmp t=>simp only [cF] at e; simp [VS.ev,gh hn e,sub]
 | const v=>exact e
 | func f=>exact e
 | global g=>exact e
theorem bP.nil (a:Act):bP a []:=λp hp=>by cases hp
theorem R.cF (h:R T N aA w0 sp s a w E) (hn:bT s.sl) {x:Operand} {d:D} (e:cF s.sl x=some d):bj E (AV aA s.rs E) w d (a.eval x):=
 h.ev (bP.nil a) (dW hn e)
theorem oh (hn:bT s.sl):∀ {l:List Operand} {ds:List D},B1 s.sl l=some ds->Jy s [] l=some ds
 | [],ds,e=>e
 | x::l,ds,e=>by
   have e:(match Go.V.cF s.sl x with
    | some d=>match B1 s.sl l with
      | some r=>some (d::r)
      | none=>none
    | none=>none)=some ds:=e
   split at e
   .rename_i d hd
    split at e
    .rename_i r hr
     simp only [Jy,dW hn hd,oh hn hr]
     exact e
    .simp at e
   .simp at e
theorem oz {d:Option D} {v:Value} (e:Jo d=some v):d=some (.c (.im (.v v))):=by
 unfold Jo at e
 split at e
 .rename_i x
  unfold an1 at e
  split at e
  .rename_i i
   unfold ao4 at e
   grind
  .simp at e
 .simp at e
theorem eu {d:Option D} {n:Int} (e:ja d=some n):d=some (int n):=by
 unfold ja at e
 split at e
 .rename_i v hv
  unfold L6 at e
  grind [oz]
 .simp at e
theorem fh {d:Option D} {b:Bool} (e:jU d=some b):d=some (bool b):=by
 unfold jU at e
 split at e
 .rename_i v hv
  unfold Cm at e
  grind [oz]
 .simp at e
theorem cr {d:Option D} {c:C} (e:dJ d=some c):d=some (.c c):=by
 unfold dJ at e
 grind
theorem CO {d:Option D} {l:List C} (e:YQ d=some l):d=some (.a l):=by
 unfold YQ at e
 grind
theorem OY {d:Option D} {l:List (Bool×List C)} (e:aF4 d=some l):d=some (.t l):=by
 unfold aF4 at e
 grind
def cQ (P:Program) (aA:Nat->Prop) (s:VS) (a:Act) (w:World) (E:Env) (o:Oper) (d:D):Prop:=
 ∃ v,(execOp a.eval o).run P w=.ok (.value v) w/\bj E (AV aA s.rs E) w d v
theorem cQ.dg (bZ:dU P T) (h:R T N aA w0 sp s a w E) {o:Oper} {p:Option Prop} {d:D} (e:bs T s [] o.op=some (p,d)) (hp:need p):cQ P aA s a w E o d:=by
 obtain ⟨v,h1,h2⟩:=DH bZ h (bP.nil a) e hp
 exact ⟨v,h1 w (Below.refl _ _),h2⟩
theorem Hi (h:R T N aA w0 sp s a w E) (hn:bT s.sl) {o:Oper} {c x y:Operand} (ho:o.op=.pick c x y) {d:D} (e:Cz s c x y=some d):cQ P aA s a w E o d:=by
 unfold Cz at e
 split at e
 case h_2=>simp at e
 rename_i b hb
 have hb:=fh hb
 split at e
 case h_2=>simp at e
 rename_i z hz
 simp only [aw] at e
 subst e
 have hb:=(h.cF hn hb).1
 cases b with
 | true=>
   have hz:jU (cF s.sl x)=some z:=hz
   have hx:=(h.cF hn (fh hz)).1
   exact ⟨.bool z,by simp [execOp,ho,hb,asBool,hx],rfl,rfl⟩
 | false=>
   have hz:jU (cF s.sl y)=some z:=hz
   have hx:=(h.cF hn (fh hz)).1
   exact ⟨.bool z,by simp [execOp,ho,hb,asBool,hx],rfl,rfl⟩
theorem K0 (h:R T N aA w0 sp s a w E) {c:C} {v:Value} {b:Bool} (hc:bp E (AV aA s.rs E) w c v) (e:Pm s.rs c=some b) :
  (b=true/\∃ n k,v=.slice none n k)∨(b=false/\∃ ad n k,v=.slice (some ad) n k):=by
 unfold Pm at e
 split at e
 .rename_i x
  unfold pk at e
  split at e
  .obtain ⟨rfl,_⟩:=hc
   grind
  .obtain ⟨rfl,_⟩:=hc
   grind
  .rename_i sz n get
   simp only [aw] at e
   obtain ⟨ao,cap,rfl,_,_,h3⟩:=hc
   obtain ⟨ad,rfl,_⟩:=h3 (by omega)
   grind
  .simp at e
 .rename_i r m
  split at e
  case h_4=>simp at e
  .rename_i el sz n l hl
   simp only [aw] at e
   rw [cx,bz] at hl
   obtain ⟨e',ao,n',cap,h1,h2,h3,rfl⟩:=hc
   obtain ⟨q1,q2,xs,⟨_,q3⟩,q4⟩:=h.roots r _ _ hl h1
   grind
  .rename_i el sz n l hl
   simp only [aw] at e
   rw [cx,bz] at hl
   obtain ⟨e',ao,n',cap,h1,h2,h3,rfl⟩:=hc
   obtain ⟨q1,q2,xs,⟨_,q3⟩,q4⟩:=h.roots r _ _ hl h1
   grind
  .rename_i el sz n get eI hl
   simp only [aw] at e
   rw [cx,bz] at hl
   obtain ⟨e',ao,n',cap,h1,h2,h3,rfl⟩:=hc
   obtain ⟨q1,q2,xs,⟨_,q3⟩,q4⟩:=h.roots r _ _ hl h1
   grind
 .simp at e
theorem Zx {t el:TypeId} (hu:P.underlying t=some (.slice el)) (b:Bool) {ao:Option Addr} {n k:Nat} (hb:ao.isNone=b) (x y:Operand) :
  (do eqGuard .eql t x y (.slice ao n k) (.slice none 0 0); binOp .eql t (.slice ao n k) (.slice none 0 0)).run P w=.ok (.bool b) w/\
  (do eqGuard .neq t x y (.slice ao n k) (.slice none 0 0); binOp .neq t (.slice ao n k) (.slice none 0 0)).run P w=.ok (.bool (!b)) w:=by
 have he:∀ d,(Op.equalIn (d+1) t (.slice ao n k) (.slice none 0 0)).run P w=.ok b w:=λd=>by
  unfold Op.equalIn
  cases ao<;>simp [run_underlying hu,<- hb]
 have h0:(Op.equal t (.slice ao n k) (.slice none 0 0)).run P w=.ok b w:=he 9999
 constructor
 .show ((do eqGuard .eql t x y (.slice ao n k) (.slice none 0 0); (do pure (.bool (<- Op.equal t (.slice ao n k) (.slice none 0 0)))):Sem Value)).run P w=_
  rw [Sem.run_bind]
  simp [eqGuard,h0]
 .show ((do eqGuard .neq t x y (.slice ao n k) (.slice none 0 0); (do pure (.bool !(<- Op.equal t (.slice ao n k) (.slice none 0 0)))):Sem Value)).run P w=_
  rw [Sem.run_bind]
  simp [eqGuard,h0]
theorem Jp (bZ:dU P T) (h:R T N aA w0 sp s a w E) (hn:bT s.sl) {o:Oper} {op:BinOp} {t t2:TypeId} {x y:Operand} (ho:o.op=.binOp op t x y t2) (hy:isNil y=true) {d:D} (e:xt T s op t x=some d):cQ P aA s a w E o d:=by
 have hy':y=.const (.slice none 0 0):=by
  grind [isNil]
 subst hy'
 unfold xt at e
 split at e
 case h_2=>simp at e
 rename_i Eb jL z0 el rK
 have hu:=(bZ.ty _ _ rK).slice rfl
 split at e
 case h_2=>simp at e
 rename_i c hc
 have hc:=h.cF hn (cr hc)
 split at e
 case h_2=>simp at e
 rename_i b hb
 have hv:∃ ao n k,a.eval x=.slice ao n k/\ao.isNone=b:=by
  rcases K0 h hc hb with ⟨rfl,n,k,hv⟩|⟨rfl,ad,n,k,hv⟩
  all_goals grind
 obtain ⟨ao,n,k,hv,hb⟩:=hv
 have hr:=Zx (P:=P) (w:=w) hu b (n:=n) (k:=k) hb x (.const (.slice none 0 0))
 have hce:a.eval (.const (.slice none 0 0))=.slice none 0 0:=rfl
 split at e
 .simp only [aw] at e
  subst e
  exact ⟨.bool b,by simp only [execOp,ho,hv,hce]; exact ck hr.1,rfl,rfl⟩
 .simp only [aw] at e
  subst e
  exact ⟨.bool (!b),by simp only [execOp,ho,hv,hce]; exact ck hr.2,rfl,rfl⟩
 .simp at e
theorem cC.ptr {P:Program} {t:TypeId} {y:Ty} (h:cC P t y) {e:Nat} (hk:y.kd=.ptr e):∃ e',P.underlying t=some (.pointer e'):=by
 have:=h.kd
 grind [wb]
theorem TJ {t e:TypeId} (hu:P.underlying t=some (.pointer e)) (b:Bool) {ao:Option Addr} (hb:ao.isNone=b) (x y:Operand) :
  (do eqGuard .eql t x y (.pointer ao) (.pointer none); binOp .eql t (.pointer ao) (.pointer none)).run P w=.ok (.bool b) w/\
  (do eqGuard .neq t x y (.pointer ao) (.pointer none); binOp .neq t (.pointer ao) (.pointer none)).run P w=.ok (.bool (!b)) w:=by
 have he:∀ d,(Op.equalIn (d+1) t (.pointer ao) (.pointer none)).run P w=.ok b w:=λd=>by
  unfold Op.equalIn
  cases ao<;>simp [run_underlying hu,<- hb]
 have h0:(Op.equal t (.pointer ao) (.pointer none)).run P w=.ok b w:=he 9999
 constructor
 .show ((do eqGuard .eql t x y (.pointer ao) (.pointer none); (do pure (.bool (<- Op.equal t (.pointer ao) (.pointer none)))):Sem Value)).run P w=_
  rw [Sem.run_bind]
  simp [eqGuard,h0]
 .show ((do eqGuard .neq t x y (.pointer ao) (.pointer none); (do pure (.bool !(<- Op.equal t (.pointer ao) (.pointer none)))):Sem Value)).run P w=_
  rw [Sem.run_bind]
  simp [eqGuard,h0]
theorem cC.func {P:Program} {t:TypeId} {y:Ty} (h:cC P t y) (hk:y.kd=.func):∃ a b c,P.underlying t=some (.func a b c):=by
 have:=h.kd
 grind [wb]
theorem SG {t:TypeId} (hu:∃ a b c,P.underlying t=some (.func a b c)) (b:Bool) {v:Value} (hv:(b=true/\v=.nilFunc)∨(b=false/\∃ f m vs,v=.func f m vs)) (x y:Operand) :
  (do eqGuard .eql t x y v .nilFunc; binOp .eql t v .nilFunc).run P w=.ok (.bool b) w/\
  (do eqGuard .neq t x y v .nilFunc; binOp .neq t v .nilFunc).run P w=.ok (.bool (!b)) w:=by
 obtain ⟨_,_,_,hu⟩:=hu
 have he:∀ d,(Op.equalIn (d+1) t v .nilFunc).run P w=.ok b w:=λd=>by
  unfold Op.equalIn
  rcases hv with ⟨rfl,rfl⟩|⟨rfl,f,m,vs,rfl⟩<;>simp [run_underlying hu]
 have h0:(Op.equal t v .nilFunc).run P w=.ok b w:=he 9999
 rcases hv with ⟨_,rfl⟩|⟨_,f,m,vs,rfl⟩
 .constructor
  .show ((do eqGuard .eql t x y .nilFunc .nilFunc; (do pure (.bool (<- Op.equal t .nilFunc .nilFunc))):Sem Value)).run P w=_
   rw [Sem.run_bind]
   simp [eqGuard,h0]
  .show ((do eqGuard .neq t x y .nilFunc .nilFunc; (do pure (.bool !(<- Op.equal t .nilFunc .nilFunc))):Sem Value)).run P w=_
   rw [Sem.run_bind]
   simp [eqGuard,h0]
 .constructor
  .show ((do eqGuard .eql t x y (.func f m vs) .nilFunc; (do pure (.bool (<- Op.equal t (.func f m vs) .nilFunc))):Sem Value)).run P w=_
   rw [Sem.run_bind]
   simp [eqGuard,h0]
  .show ((do eqGuard .neq t x y (.func f m vs) .nilFunc; (do pure (.bool !(<- Op.equal t (.func f m vs) .nilFunc))):Sem Value)).run P w=_
   rw [Sem.run_bind]
   simp [eqGuard,h0]
theorem Iv (bZ:dU P T) (h:R T N aA w0 sp s a w E) (hn:bT s.sl) {o:Oper} {op:BinOp} {t t2:TypeId} {x y:Operand} (ho:o.op=.binOp op t x y t2) {d:D} (e:MN T s op t x y=some d):cQ P aA s a w E o d:=by
 unfold MN at e
 split at e
 case h_2=>simp at e
 rename_i ty rK
 have rK:=bZ.ty _ _ rK
 split at e
 case h_2=>simp at e
 rename_i c hc
 have hc:=h.cF hn (cr hc)
 split at e
 case h_2=>simp at e
 rename_i b hb
 unfold aV8 at hb
 split at hb
 .split at hb
  case h_2=>simp at hb
  rename_i el hk
  obtain ⟨e',hu⟩:=rK.ptr hk
  have hv:∃ ao,a.eval x=.pointer ao/\ao.isNone=b:=by
   unfold be2 at hb
   split at hb
   .simp only [aw] at hb
    obtain ⟨_,_,_,q⟩:=hc
    grind
   .simp only [aw] at hb
    obtain ⟨_,q,_⟩:=hc
    grind
   .simp only [aw] at hb
    obtain ⟨q,_⟩:=hc
    grind
   .simp at hb
  obtain ⟨ao,hv,hb⟩:=hv
  have hr:=TJ (P:=P) (w:=w) hu b hb x (.const (.pointer none))
  have hce:a.eval (.const (.pointer none))=.pointer none:=rfl
  split at e
  .simp only [aw] at e
   subst e
   exact ⟨.bool b,by simp only [execOp,ho,hv,hce]; exact ck hr.1,rfl,rfl⟩
  .simp only [aw] at e
   subst e
   exact ⟨.bool (!b),by simp only [execOp,ho,hv,hce]; exact ck hr.2,rfl,rfl⟩
  .simp at e
 .split at hb
  case h_2=>simp at hb
  rename_i hk
  have hu:=rK.func hk
  have hv:(b=true/\a.eval x=.nilFunc)∨(b=false/\∃ f m vs,a.eval x=.func f m vs):=by
   unfold am0 at hb
   split at hb
   .simp only [aw] at hb
    obtain ⟨vs,q,_⟩:=hc
    grind
   .simp only [aw] at hb
    obtain ⟨vs,q,_⟩:=hc
    grind
   .simp only [aw] at hb
    obtain ⟨q,_⟩:=hc
    grind
   .simp at hb
  have hr:=SG (P:=P) (w:=w) hu b hv x (.const .nilFunc)
  have hce:a.eval (.const .nilFunc)=.nilFunc:=rfl
  split at e
  .simp only [aw] at e
   subst e
   exact ⟨.bool b,by simp only [execOp,ho,hce]; exact ck hr.1,rfl,rfl⟩
  .simp only [aw] at e
   subst e
   exact ⟨.bool (!b),by simp only [execOp,ho,hce]; exact ck hr.2,rfl,rfl⟩
  .simp at e
 .simp at hb
theorem Jc {b:Int} (h:geB b=true):0<=b:=by
 cases b with
 | ofNat k=>grind
 | negSucc k=>simp [geB] at h
theorem PC {op:BinOp} {a b:Int} {z:Value} (e:Ah op a b=some z):EB op (.int .i64 a) (.int .i64 b)=some z∨(EB op (.int .i64 a) (.int .i64 b)=none/\∃ p,BZ op (.int .i64 a) (.int .i64 b)=some (p,z)/\p):=by
 cases op
 case quo=>
  right
  refine ⟨rfl,b≠0,?_,?_⟩<;>(simp only [Ah] at e; cases hb:b==0<;>rw [hb] at e<;>simp_all [BZ])
 case rem=>
  right
  refine ⟨rfl,b≠0,?_,?_⟩<;>(simp only [Ah] at e; cases hb:b==0<;>rw [hb] at e<;>simp_all [BZ])
 case shl=>
  right
  simp only [Ah] at e
  obtain ⟨h1,e⟩:=Bool.ay e
  exact ⟨rfl,0<=b,by simp only [BZ,aw] at e ⊢; rw [e],Jc h1⟩
 case shr=>
  right
  simp only [Ah] at e
  obtain ⟨h1,e⟩:=Bool.ay e
  exact ⟨rfl,0<=b,by simp only [BZ,aw] at e ⊢; rw [e],Jc h1⟩
 case and=>left; exact e
 case andNot=>left; exact e
 all_goals grind [Ah,EB]
theorem CS {v:Value} {n:Int} (e:L6 v=some n):v=.int .i64 n:=by
 unfold L6 at e
 grind
theorem yS {v:Value} {b:Bool} (e:Cm v=some b):v=.bool b:=by
 unfold Cm at e
 grind
theorem Mj (bZ:dU P T) (h:R T N aA w0 sp s a w E) (hn:bT s.sl) {o:Oper} {op:BinOp} {t t2:TypeId} {x y:Operand} (ho:o.op=.binOp op t x y t2) {d:D} (e:A7 T s op t x y=some d):cQ P aA s a w E o d:=by
 unfold A7 at e
 split at e
 .rename_i hy; exact Jp bZ h hn ho hy e
 split at e
 .exact Iv bZ h hn ho e
 rename_i hy
 split at e
 .rename_i u v hu hv
  have hu:=dW hn (oz hu)
  have hv:=dW hn (oz hv)
  split at e
  case h_2=>simp at e
  rename_i z hz
  simp only [aw] at e
  subst e
  unfold J8 at hz
  split at hz
  .rename_i n m zd hm'
   have zd:=CS zd
   have hm':=CS hm'
   subst zd hm'
   rcases PC hz with hz|⟨hz,p,hz2,hp⟩
   .exact cQ.dg (p:=none) bZ h (by simp only [ho,bs,hu,hv,hz]) trivial
   .exact cQ.dg (p:=some p) bZ h (by simp only [ho,bs,hu,hv,hz,hz2]) hp
  .split at hz
   .rename_i b c hb hc
    have hb:=yS hb
    have hc:=yS hc
    subst hb hc
    unfold bd9 at hz
    split at hz
    case h_2=>simp at hz
    rename_i Eb jL z0 rK
    split at hz
    .simp only [aw] at hz; subst hz
     exact cQ.dg (p:=none) bZ h (by simp only [ho,bs,hu,hv,rK]) trivial
    .simp only [aw] at hz; subst hz
     exact cQ.dg (p:=none) bZ h (by simp only [ho,bs,hu,hv,rK]) trivial
    .simp at hz
   .rename_i hnb
    refine cQ.dg (p:=none) bZ h ?_ trivial
    simp only [ho,bs,hu,hv]
    split
    .rename_i b c hb hc
     simp only [aw,D.c.injEq,C.im.injEq,I.v.injEq] at hb hc
     subst hb hc
     exact (hnb _ _ rfl rfl).elim
    all_goals grind
 .split at e
  case h_2=>simp at e
  rename_i l m hl hm
  have hl:=dW hn (CO hl)
  have hm:=dW hn (CO hm)
  unfold eqF at e
  split at e
  case h_2=>simp at e
  rename_i ks hks
  split at e
  case h_2=>simp at e
  rename_i b hb
  split at e
  .simp only [aw] at e; subst e
   exact cQ.dg (p:=none) bZ h (by simp only [ho,bs,hl,hm,hks,hb]) trivial
  .simp only [aw] at e; subst e
   exact cQ.dg (p:=none) bZ h (by simp only [ho,bs,hl,hm,hks,hb]) trivial
  .simp at e
theorem Qe (bZ:dU P T) (h:R T N aA w0 sp s a w E) (hn:bT s.sl) {o:Oper} {op:UnOp} {t:TypeId} {x:Operand} (ho:o.op=.unOp op t x) {d:D} (e:unF s op x=some d):cQ P aA s a w E o d:=by
 unfold unF at e
 split at e
 .split at e
  case h_2=>simp at e
  rename_i b hb
  simp only [aw] at e; subst e
  exact cQ.dg (p:=none) bZ h (by simp only [ho,bs,dW hn (fh hb)]) trivial
 .split at e
  case h_2=>simp at e
  rename_i b hb
  simp only [aw] at e; subst e
  exact cQ.dg (p:=none) bZ h (by simp only [ho,bs,dW hn (eu hb)]) trivial
 .simp at e
theorem BP (bZ:dU P T) (h:R T N aA w0 sp s a w E) (hn:bT s.sl) {o:Oper} {x:Operand} (ho:o.op=.nilCheck x) {d:D} (e:yG s x=some d):cQ P aA s a w E o d:=by
 unfold yG at e
 split at e
 case h_2=>simp at e
 rename_i c hc
 have hc:=dW hn (cr hc)
 split at e<;>first|(simp at e; done)|(simp only [aw] at e; subst e; exact cQ.dg (p:=none) bZ h (by simp only [ho,bs,hc]) trivial)
theorem Ff (bZ:dU P T) (h:R T N aA w0 sp s a w E) (hn:bT s.sl) {o:Oper} {t:TypeId} {x:Operand} {f:Nat} (ho:o.op=.fieldAddr t x f) {d:D} (e:Fq T s t x f=some d):cQ P aA s a w E o d:=by
 unfold Fq at e
 split at e
 case h_2=>simp at e
 rename_i Eb jL z0 fs hy
 split at e
 case h_2=>simp at e
 rename_i p hp
 rw [cx] at hp
 obtain ⟨o1,sz⟩:=p
 split at e
 case h_2=>simp at e
 rename_i c hc
 have hc:=dW hn (cr hc)
 obtain ⟨gk,e⟩:=Bool.ay e
 unfold Ur at e
 split at e
 .simp only [aw] at e; subst e
  exact cQ.dg (p:=none) bZ h (by simp only [ho,bs,hy,hp,gk,hc]) trivial
 .obtain ⟨hle,e⟩:=Bool.ay e
  simp only [aw] at e; subst e
  exact cQ.dg (p:=none) bZ h (by simp only [ho,bs,hy,hp,gk,hc,hle]) trivial
 .simp at e
theorem uq {i:Int} {n:Nat} (h:bQ i n=true):0<=i/\i<(n:Int):=by
 unfold bQ at h
 split at h
 all_goals simp_all
theorem zJ {i:Int} {n:Nat} (h:Js i n=true):0<=i/\i<=(n:Int):=by
 unfold Js at h
 split at h
 all_goals simp_all
theorem tn {t:Nat} {y:Ty} (e:uo T t=some y):∃ Eb jL z0 el,T.ty t=some ⟨Eb,jL,z0,.slice el⟩/\T.ty el=some y:=by
 grind [uo]
theorem cC.array {P:Program} {t:TypeId} {y:Ty} (h:cC P t y) {n e:Nat} (hk:y.kd=.array n e):P.underlying t=some (.array n e):=by
 have:=h.kd
 grind [wb]
theorem CV {t:Nat} {n:Nat} {y:Ty} (e:O7 T t=some (n,y)):∃ Eb jL z0 el,T.ty t=some ⟨Eb,jL,z0,.array n el⟩/\T.ty el=some y:=by
 grind [O7]
theorem Dy (bZ:dU P T) (h:R T N aA w0 sp s a w E) (hn:bT s.sl) {o:Oper} {t:TypeId} {x ix:Operand} (ho:o.op=.indexAddr t x ix) {n:Nat} {y:Ty} (hy:O7 T t=some (n,y)) {i:Int} (hi:ja (cF s.sl ix)=some i) {c:C} (hc:dJ (cF s.sl x)=some c) {d:D} (e:EY n y.size i c=some d):cQ P aA s a w E o d:=by
 obtain ⟨Eb,jL,z0,el,hy1,hy2⟩:=CV hy
 have hu:=(bZ.ty _ _ hy1).array rfl
 have hye:=bZ.ty _ _ hy2
 replace hi:=(h.cF hn (eu hi)).1
 replace hc:=h.cF hn (cr hc)
 unfold EY at e
 split at e
 .rename_i r k j
  obtain ⟨h1,e⟩:=Bool.ay e
  simp only [aw] at e
  subst e
  obtain ⟨h2,h3⟩:=uq h1
  obtain ⟨b,sz,jQ,hv⟩:=hc
  refine ⟨.pointer (some ((⟨b,k*sz+j,none⟩:Addr).add (i.toNat*y.size))),?_,b,sz,jQ,?_⟩
  .simp only [execOp,ho,hv,hi]
   refine ck ?_
   simp [Instr.indexAt,run_underlying hu,asIntOf,Instr.sureAddr,h2,h3,run_sizeOf hye.sz]
  grind [Addr.add_mid]
 .simp at e
theorem Dr (bZ:dU P T) (h:R T N aA w0 sp s a w E) (hn:bT s.sl) {o:Oper} {t:TypeId} {x ix:Operand} (ho:o.op=.indexAddr t x ix) {n:Nat} {y:Ty} (hy:O7 T t=some (n,y)) {i:Int} (hi:ja (cF s.sl ix)=some i) {c:C} (hc:dJ (cF s.sl x)=some c) {d:D} (e:AG T n y.size i c=some d):cQ P aA s a w E o d:=by
 unfold AG at e
 split at e
 case h_2=>exact Dy bZ h hn ho hy hi hc e
 rename_i q
 obtain ⟨Eb,jL,z0,el,hy1,hy2⟩:=CV hy
 have hu:=(bZ.ty _ _ hy1).array rfl
 have hye:=bZ.ty _ _ hy2
 replace hi:=(h.cF hn (eu hi)).1
 replace hc:=h.cF hn (cr hc)
 unfold Lb at e
 split at e
 case h_2=>simp at e
 rename_i g hg
 obtain ⟨h0,e⟩:=Bool.ay e
 obtain ⟨h1,e⟩:=Bool.ay e
 simp only [aw] at e
 subst e
 have h0:=cE h0
 obtain ⟨h2,h3⟩:=uq h1
 obtain ⟨ad,g1,g2,g3,g4,g5⟩:=h.gP q g hg
 simp only [Value.pointer.injEq,aw] at g1
 subst g1
 have hv:a.eval x=.pointer (some ⟨q,0,none⟩):=hc
 have eW:i.toNat*y.size+y.size<=n*y.size:=by
  have:i.toNat+1<=n:=by omega
  have:=iV y.size this
  grind
 refine ⟨.pointer (some ((⟨q,0,none⟩:Addr).add (i.toNat*y.size))),?_,_,rfl,?_,?_,?_,λj hj=>?_⟩
 .simp only [execOp,ho,hv,hi]
  refine ck ?_
  simp [Instr.indexAt,run_underlying hu,asIntOf,Instr.sureAddr,h2,h3,run_sizeOf hye.sz]
 .rw [Addr.add_mid]
 .rw [Addr.add_mid]; exact g3
 .rw [Addr.add_mid]; exact g4
 .obtain ⟨z,q1,q2⟩:=g5 (i.toNat*y.size+j) (by rw [<- h0]; omega)
  grind [Addr.add_mid]
theorem DC (bZ:dU P T) (h:R T N aA w0 sp s a w E) (hn:bT s.sl) {o:Oper} {t:TypeId} {x ix:Operand} (ho:o.op=.indexAddr t x ix) {d:D} (e:pj T s t x ix=some d):cQ P aA s a w E o d:=by
 unfold pj at e
 split at e
 .grind [Dr]
 split at e
 case h_2=>simp at e
 rename_i y hy
 obtain ⟨Eb,jL,z0,el,hy1,hy2⟩:=tn hy
 split at e
 case h_2=>simp at e
 rename_i i hi
 have hi:=dW hn (eu hi)
 split at e
 case h_2=>simp at e
 rename_i c hc
 have hc:=dW hn (cr hc)
 unfold tF at e
 split at e
 .obtain ⟨h1,e⟩:=Bool.ay e
  obtain ⟨h2,e⟩:=Bool.ay e
  simp only [aw] at e; subst e
  refine cQ.dg (p:=some _) bZ h (by simp only [ho,bs,hy1,hy2,hi,hc,h1]) (uq h2)
 .split at e
  case h_4=>simp at e
  all_goals
   rename_i hl
   rw [cx] at hl
   obtain ⟨h1,e⟩:=Bool.ay e
   obtain ⟨h2,e⟩:=Bool.ay e
   simp only [aw] at e; subst e
   refine cQ.dg (p:=some _) bZ h (by simp only [ho,bs,hy1,hy2,hi,hc,hl,h1]) (uq h2)
 .simp at e
theorem AM (hn:bT s.sl) {t:TypeId} {x:Operand} {d:D} (e:l7 T s t x=some d):∃ p,bs T s [] (.load t x)=some (p,d)/\need p:=by
 unfold l7 at e
 split at e
 case h_2=>simp at e
 rename_i y hy
 split at e
 case h_2=>simp at e
 rename_i c hc
 have hc:=dW hn (cr hc)
 have box:∀ {l:List C} {j:Nat},uA y l j=some d->(match y.kd.agg with
   | true=>match takeN y.size (Aj j l) with
     | some cs=>some (none,D.a cs)
     | none=>none
   | false=>match nth l j with
     | some c=>some (none,.c c)
     | none=>none)=some ((none:Option Prop),d):=by
  grind [uA,cx]
 unfold uD at e
 split at e
 .rename_i r i j
  unfold zL at e
  split at e
  .rename_i l hl
   rw [cx] at hl
   split at e
   .simp only [bs,hy,hc,hl]
    exact ⟨_,box e,trivial⟩
   .simp at e
  .rename_i sz n l hl
   rw [cx] at hl
   simp only [bs,hy,hc,hl]
   exact ⟨_,box e,trivial⟩
  .rename_i el sz n get hl
   rw [cx] at hl
   unfold M3 at e
   split at e
   .rename_i hagg
    obtain ⟨h1,e⟩:=Bool.ay e
    obtain ⟨h2,e⟩:=Bool.ay e
    simp only [aw] at e; subst e
    exact ⟨some (_<n),by simp only [bs,hy,hc,hl,hagg,h1],bc h2⟩
   .rename_i hagg
    obtain ⟨h1,e⟩:=Bool.ay e
    obtain ⟨h2,e⟩:=Bool.ay e
    simp only [aw] at e; subst e
    exact ⟨some (_<n),by simp only [bs,hy,hc,hl,hagg,h1],bc h2⟩
  .rename_i el sz n get eI hl
   rw [cx] at hl
   unfold GW at e
   split at e
   .rename_i hagg
    obtain ⟨h1,e⟩:=Bool.ay e
    obtain ⟨h2,e⟩:=Bool.ay e
    split at e
    case h_2=>simp at e
    rename_i hg
    simp only [aw] at e; subst e
    exact ⟨some (_<n),by simp only [bs,hy,hc,hl,hagg,h1,hg],bc h2⟩
   .rename_i hagg
    obtain ⟨h1,e⟩:=Bool.ay e
    obtain ⟨h2,e⟩:=Bool.ay e
    split at e
    case h_2=>simp at e
    rename_i hg
    simp only [aw] at e; subst e
    exact ⟨some (_<n),by simp only [bs,hy,hc,hl,hagg,h1,hg],bc h2⟩
  .simp at e
 .rename_i q
  unfold ai1 at e
  split at e
  case h_2=>simp at e
  rename_i z hz
  split at e
  .simp at e
  .rename_i hagg
   simp only [aw] at e; subst e
   exact ⟨none,by simp only [bs,hy,hc,hagg,hz],trivial⟩
 .rename_i n get
  unfold VK at e
  split at e
  .rename_i hagg
   obtain ⟨h1,e⟩:=Bool.ay e
   simp only [aw] at e; subst e
   exact ⟨none,by simp only [bs,hy,hc,hagg,h1],trivial⟩
  .rename_i hagg
   obtain ⟨h1,e⟩:=Bool.ay e
   simp only [aw] at e; subst e
   exact ⟨none,by simp only [bs,hy,hc,hagg,h1],trivial⟩
 .simp at e
theorem A5 (bZ:dU P T) (h:R T N aA w0 sp s a w E) (hn:bT s.sl) {o:Oper} {x:Operand} {k:Nat} (ho:o.op=.extract x k) {d:D} (e:tY s x k=some d):cQ P aA s a w E o d:=by
 unfold tY at e
 split at e
 case h_2=>simp at e
 rename_i l hl
 have hl:=dW hn (OY hl)
 rw [cx] at e
 split at e
 .rename_i cs hc
  simp only [aw] at e; subst e
  exact cQ.dg (p:=none) bZ h (by simp only [ho,bs,hl,hc]) trivial
 .rename_i cs hc
  simp only [aw] at e; subst e
  exact cQ.dg (p:=none) bZ h (by simp only [ho,bs,hl,hc]) trivial
 .simp at e
theorem xD (hn:bT s.sl) {fs:List (Nat×Nat)}:∀ {ps:List (Nat×Operand)} {l r:List C},xz fs s.sl ps l=some r->AH fs s [] ps l=some r
 | [],l,r,e=>e
 | p::ps,l,r,e=>by
   obtain ⟨k,x⟩:=p
   have e:(match bh fs k with
    | some o=>match Go.V.cF s.sl x with
      | some d=>match d.cells with
        | some cs=>(Bool.rec none (match put l o.1 cs with
          | some l'=>xz fs s.sl ps l'
          | none=>none) (Nat.beq cs.length o.2&&Nat.blt 0 o.2):Option (List C))
        | none=>none
      | none=>none
    | none=>none)=some r:=e
   split at e
   case h_2=>simp at e
   rename_i o ho
   rw [cx] at ho
   obtain ⟨o1,o2⟩:=o
   split at e
   case h_2=>simp at e
   rename_i d hd
   split at e
   case h_2=>simp at e
   rename_i cs hcs
   obtain ⟨h1,e⟩:=Bool.ay e
   split at e
   case h_2=>simp at e
   rename_i l' xX
   simp only at h1 xX
   simp only [AH,ho,dW hn hd,hcs,h1,xX]
   exact xD hn e
theorem Ga (bZ:dU P T) (h:R T N aA w0 sp s a w E) (hn:bT s.sl) {o:Oper} {t:TypeId} {ps:Array (Nat×Operand)} (ho:o.op=.build t ps) {d:D} (e:Eo T s t ps.toList=some d):cQ P aA s a w E o d:=by
 unfold Eo at e
 split at e
 case h_2=>simp at e
 rename_i y hy
 split at e
 case h_2=>simp at e
 rename_i fs hk
 split at e
 case h_2=>simp at e
 rename_i z hz
 split at e
 case h_2=>simp at e
 rename_i l hl
 simp only [aw] at e; subst e
 exact cQ.dg (p:=none) bZ h (by simp only [ho,bs,hy,hk,hz,xD hn hl]) trivial
theorem Hf (bZ:dU P T) (h:R T N aA w0 sp s a w E) (hn:bT s.sl) {o:Oper} {fn:Fn} {first eO:Array Operand} (ho:o.op=.makeFunc fn first eO) {d:D} (e:M9 s fn first.toList eO.toList=some d):cQ P aA s a w E o d:=by
 unfold M9 at e
 split at e
 case h_2=>simp at e
 split at e
 case h_2=>simp at e
 rename_i hf
 split at e
 .rename_i hc
  simp only [aw] at e; subst e
  exact cQ.dg (p:=none) bZ h (by simp only [ho,bs,hf,oh hn hc]) trivial
 .rename_i hc
  simp only [aw] at e; subst e
  exact cQ.dg (p:=none) bZ h (by simp only [ho,bs,hf,oh hn hc]) trivial
 .rename_i hc
  simp only [aw] at e; subst e
  exact cQ.dg (p:=none) bZ h (by simp only [ho,bs,hf,oh hn hc]) trivial
 .rename_i hc
  simp only [aw] at e; subst e
  exact cQ.dg (p:=none) bZ h (by simp only [ho,bs,hf,oh hn hc]) trivial
 .simp at e
theorem Mm (bZ:dU P T) (h:R T N aA w0 sp s a w E) (hn:bT s.sl) {o:Oper} {c:Call} (ho:o.op=.call c) {d:D} (e:J4 T s c=some d):cQ P aA s a w E o d:=by
 unfold J4 at e
 split at e
 case h_2=>simp at e
 rename_i b hb
 have go:gW T b c.argTypes.toList (Jy s [] c.args.toList)=some (none,d)->cQ P aA s a w E o d:=λq=>
  cQ.dg (p:=none) bZ h (by simp only [ho,bs,hb]; exact q) trivial
 unfold JG at e
 split at e
 .apply go
  unfold Ve at e
  split at e
  case h_2=>simp at e
  rename_i t x hts hxs
  rw [hts,hxs]
  split at e
  .rename_i hy
   split at e
   case h_2=>simp at e
   rename_i cc hc
   have hc:=dW hn (cr hc)
   unfold aU4 at e
   grind [gW,Jy]
  .rename_i hy
   split at e
   case h_2=>simp at e
   rename_i b hc
   have hc:=dW hn (oz hc)
   grind [gW,Jy]
  .simp at e
 .apply go
  unfold Ri at e
  split at e
  case h_2=>simp at e
  rename_i x y hxs
  split at e
  case h_2=>simp at e
  rename_i n m h1 h2
  simp only [aw] at e; subst e
  rw [hxs]
  simp only [gW,Jy,dW hn (eu h1),dW hn (eu h2)]
 .apply go
  unfold Tm at e
  split at e
  case h_2=>simp at e
  rename_i x y hxs
  split at e
  case h_2=>simp at e
  rename_i n m h1 h2
  simp only [aw] at e; subst e
  rw [hxs]
  simp only [gW,Jy,dW hn (eu h1),dW hn (eu h2)]
 .simp at e
theorem Hk (n:Int):∀ l:List (Int×FuncId),Q6 n l=Ct n l
 | []=>rfl
 | x::l=>by
   show (Bool.rec (Q6 n l) (some x.2) (n==x.1):Option FuncId)=Ct n (x::l)
   unfold Ct
   cases n==x.1 with
   | true=>rfl
   | false=>exact Hk n l
theorem Cd (bZ:dU P T) (h:R T N aA w0 sp s a w E) (hn:bT s.sl) {o:Oper} {t:TypeId} {x i:Operand} {ok:Bool} (ho:o.op=.lookup t x i ok) {d:D} (e:fmF T s t x i ok=some d):cQ P aA s a w E o d:=by
 unfold fmF at e
 obtain ⟨hk,e⟩:=Bool.ay e
 unfold fmK at hk
 split at hk
 case h_2=>simp at hk
 rename_i k el rK
 split at hk
 case h_2=>simp at hk
 rename_i CU hye
 have rK:=(bZ.ty _ _ rK).map rfl
 have CU:=(bZ.ty _ _ CU).int rfl
 have hye:=bZ.ty _ _ hye
 obtain ⟨inf,hin,_,_,hz⟩:=hye.full
 split at e
 case h_2=>simp at e
 rename_i l n hx hi
 simp only [aw] at e
 subst e
 obtain ⟨b,es,clock,hx,_,h2,h3⟩:=h.cF hn (cr hx)
 have hi:=(h.cF hn (eu hi)).1
 rw [Hk]
 have hu:(Go.underlying t).run P w=.ok (.map k el) w:=by simp [Go.underlying,Go.program,Sem.run,rK]
 have huk:(Go.underlying k).run P w=.ok (.int .i64) w:=by simp [Go.underlying,Go.program,Sem.run,CU]
 have hg':(getObj b).run P w=.ok (.map es clock) w:=by simp [getObj,Sem.run,h2]
 have hz0:(zeroValue el).run P w=.ok .nilFunc w:=by simp [zeroValue,typeInfo,hin,hz]
 rcases h3 n with ⟨h4,h5⟩|⟨q,f,h4,h5⟩
 .have hf:(Instr.findKey k (.int .i64 n) es.toList).run P w=.ok none w:=by simp [Instr.findKey,huk,h4]
  rw [h5]
  cases ok with
  | true=>
    refine ⟨.tuple #[.nilFunc,.bool false],?_,_,rfl,.cons ⟨_,rfl,rfl,rfl⟩ (.cons ⟨_,rfl,rfl,rfl⟩ .nil)⟩
    simp only [execOp,ho,hx,hi]
    refine ck ?_
    unfold Instr.lookup
    simp [Sem.run_bind,hu,hg',Result.andThen_ok,fX CU,hf,hz0]
  | false=>
    refine ⟨.nilFunc,?_,rfl,rfl⟩
    simp only [execOp,ho,hx,hi]
    refine ck ?_
    unfold Instr.lookup
    simp [Sem.run_bind,hu,hg',Result.andThen_ok,fX CU,hf,hz0]
 .have hf:(Instr.findKey k (.int .i64 n) es.toList).run P w=.ok (some (q,.func (.func f) #[] #[])) w:=by simp [Instr.findKey,huk,h4]
  rw [h5]
  have hrel:dw (AV aA s.rs E) w (.fn f 0 λ_=>.v (.bool false)) (.func (.func f) #[] #[]):=⟨#[],rfl,rfl,λj hj=>by omega⟩
  cases ok with
  | true=>
    refine ⟨.tuple #[.func (.func f) #[] #[],.bool true],?_,_,rfl,.cons ⟨_,rfl,hrel⟩ (.cons ⟨_,rfl,rfl,rfl⟩ .nil)⟩
    simp only [execOp,ho,hx,hi]
    refine ck ?_
    unfold Instr.lookup
    simp [Sem.run_bind,hu,hg',Result.andThen_ok,fX CU,hf]
  | false=>
    refine ⟨.func (.func f) #[] #[],?_,hrel⟩
    simp only [execOp,ho,hx,hi]
    refine ck ?_
    unfold Instr.lookup
    simp [Sem.run_bind,hu,hg',Result.andThen_ok,fX CU,hf]
theorem BO (bZ:dU P T) (h:R T N aA w0 sp s a w E) (hn:bT s.sl) {o:Oper} {t:TypeId} {x i:Operand} {ok:Bool} (ho:o.op=.lookup t x i ok) {d:D} (e:o5 T s t x i ok=some d):cQ P aA s a w E o d:=by
 unfold o5 at e
 split at e
 .exact Cd bZ h hn ho e
 cases hk:Pr T t with
 | false=>rw [hk] at e; exact Cd bZ h hn ho e
 | true=>
 rw [hk] at e
 simp only at e
 unfold Pr at hk
 split at hk
 case h_2=>simp at hk
 rename_i hy
 split at hk
 case h_2=>simp at hk
 rename_i hy1 hy2
 split at e
 case h_2=>simp at e
 rename_i c n hc hi
 have hc:=dW hn (cr hc)
 have hi:=dW hn (eu hi)
 split at e
 case h_2=>simp at e
 rename_i l hl
 simp only [aw] at e; subst e
 unfold UU at hl
 split at hl
 .split at hl
  case h_2=>simp at hl
  rename_i hr
  rw [cx] at hr
  simp only [aw] at hl; subst hl
  exact cQ.dg (p:=none) bZ h (by simp only [ho,bs,hy,hy1,hy2,hc,hi,hr]) trivial
 .simp only [aw] at hl; subst hl
  exact cQ.dg (p:=none) bZ h (by simp only [ho,bs,hy,hy1,hy2,hc,hi]) trivial
 .simp at hl
theorem FO (bZ:dU P T) (h:R T N aA w0 sp s a w E) (hn:bT s.sl) {o:Oper} {t:TypeId} {x l:Operand} (ho:o.op=.slice t x (some l) none none) {y:Ty} (hy:uo T t=some y) {c:C} (hc:dJ (cF s.sl x)=some c) {q:Int} (hl:ja (cF s.sl l)=some q) {d:D} (e:A1 y.size c q=some d):cQ P aA s a w E o d:=by
 obtain ⟨Eb,jL,z0,el,hy1,hy2⟩:=tn hy
 have rK:=(bZ.ty _ _ hy1).slice rfl
 replace hc:=h.cF hn (cr hc)
 replace hl:=(h.cF hn (eu hl)).1
 unfold A1 at e
 split at e
 case h_2=>simp at e
 rename_i sz n get
 obtain ⟨h1,e⟩:=Bool.ay e
 simp only [fC] at h1
 obtain ⟨h2,h3⟩:=zJ h1.1
 have h4:=cE h1.2
 subst h4
 simp only [aw] at e
 subst e
 obtain ⟨ao,cap,hv,g1,g2,g3⟩:=hc
 have he:P.elem t=el:=by simp [Program.elem,rK]
 have ht:P.underlying t=some (.slice (P.elem t)):=by rw [he]; exact rK
 have hqn:q.toNat<=n:=by omega
 have e1:n-q.toNat<=cap-q.toNat:=Nat.sub_le_sub_right g1 _
 have e2:n-q.toNat<=maxLen:=cT (Nat.sub_le _ _) g2
 have e3:0<n-q.toNat->0<n/\cap≠q.toNat:=λh0=>⟨by omega,by omega⟩
 have e4:∀ i,i<n-q.toNat->q.toNat+i<n:=λi hi=>by omega
 refine ⟨sliced ao q.toNat n cap y.size,?_,_,_,rfl,e1,e2,λh0=>?_⟩
 .simp only [execOp,ho,hv,hl,Option.map_some,Option.map_none]
  refine ck ?_
  rw [run_sliceAt_slice w t _ _ _ _ ht,run_slice_l w t ao n cap ht .i64 q h2 h3,he,run_sizeOf (bZ.ty _ _ hy2).sz,Result.andThen_ok]
 grind [zq,block_add,add_add]
theorem DV (bZ:dU P T) (h:R T N aA w0 sp s a w E) (hn:bT s.sl) {o:Oper} {t:TypeId} {x:Operand} {lo hi mx:Option Operand} (ho:o.op=.slice t x lo hi mx) {d:D} (e:lO T s t x lo hi mx=some d):cQ P aA s a w E o d:=by
 unfold lO at e
 split at e
 case h_3=>simp at e
 case h_2=>
  grind [FO]
 rename_i hi
 split at e
 case h_2=>simp at e
 rename_i y hy
 obtain ⟨Eb,jL,z0,el,hy1,hy2⟩:=tn hy
 split at e
 case h_2=>simp at e
 rename_i c n hc hh
 have hc:=dW hn (cr hc)
 have hh:=dW hn (eu hh)
 unfold oS at e
 split at e
 .obtain ⟨h1,e⟩:=Bool.ay e
  simp only [aw] at e; subst e
  exact cQ.dg (p:=some _) bZ h (by simp only [ho,bs,hy1,hy2,hc,hh]) (zJ h1)
 .split at e
  case h_4=>simp at e
  all_goals
   rename_i hl
   rw [cx] at hl
   obtain ⟨h1,e⟩:=Bool.ay e
   simp only [aw] at e; subst e
   exact cQ.dg (p:=some _) bZ h (by simp only [ho,bs,hy1,hy2,hc,hh,hl]) (zJ h1)
 .obtain ⟨h1,e⟩:=Bool.ay e
  simp only [aw] at e; subst e
  exact cQ.dg (p:=some _) bZ h (by simp only [ho,bs,hy1,hy2,hc,hh]) (show n=0 by simpa using h1)
 .simp at e
theorem LD (bZ:dU P T) (h:R T N aA w0 sp s a w E) (hn:bT s.sl) {o:Oper} {t t':TypeId} {x:Operand} (ho:o.op=.convert t t' x) {d:D} (e:ad3 T s t t' x=some d):cQ P aA s a w E o d:=by
 unfold ad3 at e
 split at e
 case h_2=>simp at e
 rename_i y z b v hy hz
 split at e
 case h_2=>simp at e
 rename_i n hx
 simp only [aw] at e
 subst e
 have hx:=(h.cF hn (cr hx)).1
 obtain ⟨u,hu,_⟩:=(bZ.ty _ _ hy).und
 have hu':=(bZ.ty _ _ hz).int rfl
 refine ⟨.int .i64 (IntKind.i64.wrap n),?_,rfl,rfl⟩
 simp only [execOp,ho,hx]
 simp [convert,run_underlying hu,run_underlying hu',Sem.run_bind,Conv.intToInt]
theorem IP (bZ:dU P T) (h:R T N aA w0 sp s a w E) (hn:bT s.sl) {o:Oper} {d:D} (e:fw T s o.op=some d):cQ P aA s a w E o d:=by
 generalize hop:o.op=op at e
 cases op with
 | move x=>exact cQ.dg (p:=none) bZ h (by simp only [hop,bs,dW hn (show Go.V.cF s.sl x=some d from e)]) trivial
 | assign x=>exact cQ.dg (p:=none) bZ h (by simp only [hop,bs,dW hn (show Go.V.cF s.sl x=some d from e)]) trivial
 | pick c x y=>exact Hi h hn hop e
 | binOp op t x y t2=>exact Mj bZ h hn hop e
 | unOp op t x=>exact Qe bZ h hn hop e
 | nilCheck x=>exact BP bZ h hn hop e
 | fieldAddr t x f=>exact Ff bZ h hn hop e
 | indexAddr t x i=>exact DC bZ h hn hop e
 | load t x=>
   obtain ⟨p,h1,h2⟩:=AM hn e
   grind [cQ.dg]
 | extract x k=>exact A5 bZ h hn hop e
 | build t ps=>exact Ga bZ h hn hop e
 | makeFunc fn first eO=>exact Hf bZ h hn hop e
 | call c=>exact Mm bZ h hn hop e
 | lookup t x i ok=>exact BO bZ h hn hop e
 | slice t x lo hi mx=>exact DV bZ h hn hop e
 | convert t t2 x=>exact LD bZ h hn hop e
 | _=>exact absurd e (by simp [fw])
end
open Go.RowKit
theorem Qt (x:ah) (rs:List ah):place rs.length x rs=rs++[x]:=by simp [place,dv]
theorem iU {b:Nat} (x:ah) {rs:List ah} (h:b<rs.length):place b x rs=rs.set b x:=by
 have:Nat.beq b rs.length=false:=by
  grind [Nat.eq_of_beq_eq_true]
 simp [place,this,bg]
section
variable {P:Program} {T:ec} {N:Nat} {aA:Nat->Prop} {w0:Kp} {sp:List (D×Value)} {s:VS} {a:Act} {w:World} {E:Env}
def mm (s:VS) (E:Env) (b:Nat):Prop:=(s.rs[b]?=some .dead/\E[b]?=some hole)∨b=s.rs.length
structure ot (b:Nat) (E E':Env):Prop where
 le:Env.le E E'
 free:∀ q,q≠b->E[q]?=some hole->E'[q]?=some hole
theorem ot.refl (b:Nat) (E:Env):ot b E E:=⟨Env.le_refl E,λ_ _ h=>h⟩
theorem R.make (h:R T N aA w0 sp s a w E) {b:Nat} (hf:mm s E b) {dead:Option Nat} {x:ah} {e:fG} {w':World} {row:Option Nat}
  (hg:w.grownBy w' row)
  (pc:∀ k,row=some k->∃ r y q,dead=some r/\s.rs[r]?=some y/\y.live/\bB E r k q)
  (kh:∀ k,e.1=some k->some k=row∨w.heap.size<=k) (eW:∀ k,e.1=some k->k<w'.heap.size)
  (hx:∀ E' dx,Env.le E E'->(∀ k,k<w.heap.size->dx k->AV aA s.rs E k)->(∀ k,dx k->AV aA s.rs E k∨e.has k)->bl (AV aA s.rs E) w w'->ba E' dx w0.base w' e x)
  (vz:∀ k,e.2.1.2 k->(∃ r y q,dead=some r/\s.rs[r]?=some y/\y.live/\dt E r k q)∨(w.heap.size<=k/\k<w'.heap.size):=by intro k hk; exact hk.elim) :
  ∃ E',R T N aA w0 sp { s with rs:=place b x (kill dead s.rs) } a w' E'/\E'[b]?=some e/\ot b E E'/\(∀ k,k<w.heap.size->AV aA (place b x (kill dead s.rs)) E' k->AV aA s.rs E k)/\∀ k,AV aA (place b x (kill dead s.rs)) E' k->AV aA s.rs E k∨e.has k:=by
 have hkl:(kill dead s.rs).length=s.rs.length:=by cases dead<;>simp [kill]
 rcases hf with ⟨hb,hE⟩|rfl
 .have hbl:b<(kill dead s.rs).length:=by grind
  have hbE:b<E.length:=(List.getElem?_eq_some_iff.1 hE).1
  obtain ⟨h1,h2,ig⟩:=h.at (b:=b) (dead:=dead) (x:=x) (e:=e) (w':=w') (row:=row) hb hE hg pc kh eW (λfa ub hk=>hx _ _ (Env.A6 e hE) fa ub hk) vz
  rw [iU x hbl]
  refine ⟨_,h1,by grind,⟨Env.A6 e hE,λq hq h3=>?_⟩,h2,ig⟩
  grind
 .have h0:=h.aj4 1
  have hle:Env.le E (E++List.replicate 1 hole):=Env.ey _ _
  have Ju:(s.rs++List.replicate 1 ah.dead)[s.rs.length]?=some .dead:=by simp
  have hEs:(E++List.replicate 1 hole)[s.rs.length]?=some hole:=by rw [<- h.len]; simp
  have hav0:∀ k,AV aA (s.rs++List.replicate 1 .dead) (E++List.replicate 1 hole) k->AV aA s.rs E k:=by
   rintro k (q|⟨r,y,sz,h1,h2,hh,h3⟩)
   .exact .inl q
   .rcases Nat.lt_or_ge r s.rs.length with hr|hr
    .rw [iz hr] at h1
     rw [iz (by rw [h.len]; exact hr)] at h3
     exact .inr ⟨r,y,sz,h1,h2,hh,h3⟩
    .rw [nv hr,List.getElem?_replicate] at h1
     split at h1
     .simp only [aw] at h1; subst h1; exact h2.elim
     .simp at h1
  have hav1:∀ k,AV aA s.rs E k->AV aA (s.rs++List.replicate 1 .dead) (E++List.replicate 1 hole) k:=by
   rintro k (q|⟨r,y,sz,h1,h2,h3⟩)
   .exact .inl q
   .exact .inr ⟨r,y,sz,by grind,h2,GH _ h3⟩
  obtain ⟨h1,h2,ig⟩:=h0.at (b:=s.rs.length) (dead:=dead) (x:=x) (e:=e) (w':=w') (row:=row) Ju hEs hg (λk hk=>by
   obtain ⟨r,y,q,h3,h4,h5,h6⟩:=pc k hk
   exact ⟨r,y,q,h3,by grind,h5,hle.at_ h6⟩) kh eW
   (λfa ub hk=>hx _ _ (hle.trans (Env.A6 e hEs)) (λk qD q=>hav0 k (fa k qD q)) (λk q=>(ub k q).imp (hav0 k) id) ⟨hk.size,λk qD hn=>hk.same k qD λq=>hn (hav0 k q)⟩) (λk hk=>by
   rcases vz k hk with ⟨r,y,q,h3,h4,h5,h6⟩|h7
   .exact .inl ⟨r,y,q,h3,by grind,h5,GH _ h6⟩
   .exact .inr h7)
  have hk2:(kill dead (s.rs++List.replicate 1 .dead)).set s.rs.length x=place s.rs.length x (kill dead s.rs):=by
   rw [<- hkl,Qt]
   cases dead with
   | none=>simp [kill]
   | some r=>
     grind [kill,List.set_eq_of_length_le]
  simp only at h1 h2 ig
  rw [hk2] at h1 h2 ig
  refine ⟨_,h1,?_,⟨hle.trans (Env.A6 e hEs),λq hq h3=>?_⟩,λk hk q=>hav0 k (h2 k hk q),λk q=>(ig k q).imp (hav0 k) id⟩
  all_goals grind
def eG (e:cP):Option D:=match e with
 | .val d=>some d
 | .wr d _=>d
 | .all d _=>some d
 | .cU _=>none
def jy (T:ec) (N:Nat) (aA:Nat->Prop) (w0:Kp) (sp:List (D×Value)) (s:VS) (a:Act) (w:World) (E:Env) (b:Nat) (e:cP) (v:Value) (w':World) (E':Env):Prop:=
 ot b E E'/\R T N aA w0 sp { s with rs:=Jd e s.rs } a w' E'/\∀ d,eG e=some d->bj E' (AV aA (Jd e s.rs) E') w' d v
theorem UP {α:Type} (l m:List α) (o k n:Nat) (hm:m.length=k) (h:o+k<=n) (hn:n<=l.length):(l.take o++m++l.drop (o+k)).take n=(l.take n).take o++m++(l.take n).drop (o+k):=by
 apply List.ext_getElem?
 grind
theorem se (get:Nat->I):∀ (n o q:Nat),q<n->(eo get o n)[q]?=some (.im (get (o+q)))
 | 0,_,_,h=>by omega
 | n+1,o,0,_=>by simp [eo]
 | n+1,o,q+1,h=>by
   simp only [eo,List.getElem?_cons_succ]
   rw [se get n (o+1) q (by omega)]
   congr 3; omega
theorem iN (get:Nat->I):∀ (n o:Nat),(eo get o n).length=n
 | 0,_=>rfl
 | n+1,o=>by simp [eo,iN get n]
theorem wR (get:Nat->Nat->I) (sz i n:Nat):xO get sz i (n+1)=eo (get i) 0 sz++xO get sz (i+1) n:=rfl
theorem om (get:Nat->Nat->I) (sz:Nat):∀ (n i:Nat),(xO get sz i n).length=n*sz
 | 0,_=>by simp; rfl
 | n+1,i=>by rw [wR,List.length_append,iN,om get sz n,Nat.add_mul,Nat.one_mul]; omega
theorem qi (get:Nat->Nat->I) (sz:Nat):∀ (n i k j:Nat),k<n->j<sz->(xO get sz i n)[k*sz+j]?=some (.im (get (i+k) j))
 | 0,_,_,_,h,_=>by omega
 | n+1,i,0,j,_,hj=>by
   grind [wR,iN,se]
 | n+1,i,k+1,j,h,hj=>by
   have:(k+1)*sz+j=sz+(k*sz+j):=by grind
   rw [wR,nv (by rw [iN]; omega),iN,show (k+1)*sz+j-sz=k*sz+j by omega,qi get sz n (i+1) k j (by omega) hj]
   congr 3; omega
theorem aF.Mp {α β:Type} {Rr:α->β->Prop}:∀ {l:List α} {m:List β},l.length=m.length->(∀ (i:Nat) (x:α),l[i]?=some x->∃ y,m[i]?=some y/\Rr x y)->aF Rr l m
 | [],[],_,_=>.nil
 | x::l,y::m,h,k=>by
   obtain ⟨y',h1,h2⟩:=k 0 x rfl
   simp only [List.getElem?_cons_zero,aw] at h1
   subst h1
   exact .cons h2 (aF.Mp (by simpa using h) λi x hx=>by simpa using k (i+1) x (by simpa using hx))
 | [],_::_,h,_=>by simp at h
 | _::_,[],h,_=>by simp at h
theorem R.swap (h:R T N aA w0 sp s a w E) {r:Nat} {x y:ah} (hr:s.rs[r]?=some x) (hl:y.live->x.live)
  (hx:∀ e av,ba E av w0.base w e x->(∀ b,av b->AV aA s.rs E b)->ba E av w0.base w e y):R T N aA w0 sp { s with rs:=s.rs.set r y } a w E:=by
 have eW:r<s.rs.length:=(List.getElem?_eq_some_iff.1 hr).1
 have key:∀ (q:Nat) (z:ah),(s.rs.set r y)[q]?=some z->z.live->∃ z',s.rs[q]?=some z'/\z'.live/\(z=z'∨(q=r/\z=y/\z'=x)):=by
  grind
 have fa:∀ b,AV aA (s.rs.set r y) E b->AV aA s.rs E b:=by
  rintro b (q|⟨q,z,sz,h1,h2,h3⟩)
  .exact .inl q
  .obtain ⟨z',h4,h5,_⟩:=key q z h1 h2
   exact .inr ⟨q,z',sz,h4,h5,h3⟩
 refine h.BJ (aV:=s.rs.set r y) (Env.le_refl E) (bl.refl _ w) h.below (λb _ q=>fa b q) (by simpa using h.len) ?_ ?_ ?_
 .intro q z e h1 h2
  by_cases hz:z.live
  .obtain ⟨z',h4,h5,h6⟩:=key q z h1 hz
   have h7:=ba.mono (Env.le_refl E) (bl.refl _ w) (λb _ q=>fa b q) (λ_ _ _=>rfl) (h.roots q z' e h4 h2)
   grind
  .cases z with
   | dead=>trivial
   | _=>exact (hz trivial).elim
 .intro q z b sz h1 h2 h3
  obtain ⟨z',h4,h5,_⟩:=key q z h1 h2
  exact h.dp q z' b sz h4 h5 h3
 .intro q q' z z' b sz dE h1 nD h2 ig h3 lD
  obtain ⟨u,h4,h5,_⟩:=key q z h1 h2
  obtain ⟨u',h4',h5',_⟩:=key q' z' nD ig
  exact h.dT q q' u u' b sz dE h4 h4' h5 h5' h3 lD
theorem YE {E:Env} {av:Nat->Prop} {base:Nat} {w:World} {e:fG} {el sz n:Nat} {get:Nat->Nat->I} (h:ba E av base w e (.arr el sz n get)):ba E av base w e (.row el sz n (xO get sz 0 n)):=by
 obtain ⟨h1,h2,xs,h3,h4⟩:=h
 refine ⟨h1,h2,xs,h3,aF.Mp (by rw [om,h3.1]) λq x hx=>?_⟩
 have hq:q<n*sz:=by grind [om]
 have hz:0<sz:=by
  grind
 have e1:q/sz*sz+q%sz=q:=by rw [Nat.mul_comm]; exact Nat.div_add_mod q sz
 have hk:q/sz<n:=Nat.div_lt_of_lt_mul (by grind)
 have hm:q%sz<sz:=Nat.mod_lt _ hz
 obtain ⟨y,h7,h8⟩:=h4 (q/sz) hk (q%sz) hm
 have h9:=qi get sz n 0 (q/sz) (q%sz) hk hm
 rw [e1] at h7 h9
 rw [hx] at h9
 simp only [Nat.zero_add,aw] at h9
 subst h9
 exact ⟨y,h7,h8⟩
theorem Yc {E:Env} {av:Nat->Prop} {base:Nat} {w:World} {e:fG} {el sz n:Nat} {l:List C} {get:Nat->Nat->I} (h:ba E av base w e (.row el sz n l)) (hl:∀ i,i<n->∀ j,j<sz->l[i*sz+j]?=some (.im (get i j))):ba E av base w e (.arr el sz n get):=by
 obtain ⟨h1,h2,xs,h3,h4⟩:=h
 refine ⟨h1,h2,xs,h3,λi hi j hj=>?_⟩
 obtain ⟨y,h5,h6⟩:=h4.nth (i:=i*sz+j) (x:=.im (get i j)) (by rw [bz]; exact hl i hi j hj)
 exact ⟨y,h5,h6⟩
theorem XF (get:Nat->Nat->I) (i j:Nat) (ys:List I):B2 get i j ys=BJ get i j ys:=by
 funext i' j'
 unfold B2 BJ
 by_cases h:i'=i/\j<=j'/\j'<j+ys.length
 .rw [if_pos h]
  obtain ⟨rfl,h2,h3⟩:=h
  have e1:Nat.beq i' i'=true:=dv i'
  have e2:Nat.ble j j'=true:=Nat.ble_eq▸h2
  have e3:Nat.blt j' (j+ys.length)=true:=by simp_all
  rw [e1,e2,e3]; rfl
 .rw [if_neg h]
  cases hb:(Nat.beq i' i&&(Nat.ble j j'&&Nat.blt j' (j+ys.length))) with
  | false=>rfl
  | true=>
    simp only [fC] at hb
    exact (h ⟨cE hb.1,eN hb.2.1,bc hb.2.2⟩).elim
theorem Z3 (n:Nat) (get get':Nat->Nat->I):fZ n get get'=app n get get':=by
 funext i j
 unfold fZ app
 by_cases h:i<n
 .rw [if_pos h,(by simp_all:Nat.blt i n=true)]
 .rw [if_neg h]
  cases hb:Nat.blt i n with
  | false=>rfl
  | true=>exact (h (bc hb)).elim
theorem mB:∀ ys:List I,(lift ys).length=ys.length
 | []=>rfl
 | y::ys=>by simp [lift,mB ys]
theorem rU:∀ {ys:List I} {j:Nat},j<ys.length->(lift ys)[j]?=some (.im (iR ys j))
 | [],j,h=>by simp at h
 | y::ys,0,h=>rfl
 | y::ys,j+1,h=>by
   have:=rU (ys:=ys) (j:=j) (by simpa using h)
   simpa [lift,iR,nth] using this
structure StN (get:Nat->Nat->O) (eI:Option (Nat×List Fc)) (get':Nat->Nat->O) (mV:Option (Nat×List Fc)) (i j:Nat) (cs:List C):Prop where
 out:∀ i' j',¬ (i'=i/\j<=j'/\j'<j+cs.length)->gy get' mV i' j'=gy get eI i' j'
 in_:∀ k,k<cs.length->∃ c x,cs[k]?=some x/\gy get' mV i (j+k)=some c/\(c=.c x∨∃ y,x=.im y/\c=.o (.im y))
 eI:∀ {n sz:Nat},(∀ x,eI=some x->x.1<n/\x.2.length=sz)->∀ x,mV=some x->x.1<n/\x.2.length=sz
theorem CG:∀ {ys:List C} {l r:List Fc} {o:Nat},RE ys l o=some r->r.length=l.length/\(∀ q,¬ (o<=q/\q<o+ys.length)->r[q]?=l[q]?)/\∀ (k:Nat) (y:C),ys[k]?=some y->r[o+k]?=some (.c y)
 | [],l,r,o,h=>by
   have h:some l=some r:=h
   grind
 | y::ys,l,r,o,h=>by
   have h:(match bh l o with
    | some _=>RE ys (setAt l o (.c y)) (o+1)
    | none=>none)=some r:=h
   split at h
   case h_2=>simp at h
   rename_i z hz
   rw [cx,bz] at hz
   have ho:o<l.length:=(List.getElem?_eq_some_iff.1 hz).1
   obtain ⟨h1,h2,h3⟩:=CG h
   rw [bg] at h1 h2
   grind
theorem XX (get:Nat->Nat->O) (i j k:Nat) (ys:List I) (h:k<ys.length):Po get i j ys i (j+k)=.im (iR ys k):=by
 have h1:(Nat.beq i i&&(Nat.ble j (j+k)&&Nat.blt (j+k) (j+ys.length)))=true:=by
  simp_all
 unfold Po
 rw [h1]
 grind
theorem T4 (get:Nat->Nat->O) (i j i' j':Nat) (ys:List I) (h:¬ (i'=i/\j<=j'/\j'<j+ys.length)):Po get i j ys i' j'=get i' j':=by
 have h1:(Nat.beq i' i&&(Nat.ble j j'&&Nat.blt j' (j+ys.length)))=false:=by
  rw [Bool.eq_false_iff]
  simp_all
 unfold Po
 rw [h1]
theorem xE {el sz n size r i j:Nat} {get:Nat->Nat->O} {eI:Option (Nat×List Fc)} {cs:List C} {e:cP} (ik:cs.length=size) (hf:∀ x,eI=some x->Nat.beq i x.1=false) (h:qs el sz n get eI size r i j cs=some e) :
  ∃ get' mV,e=.wr none [(r,.bo el sz n get' mV)]/\j+size<=sz/\i<n/\StN get eI get' mV i j cs:=by
 unfold qs at h
 split at h
 case h_2=>simp at h
 rename_i ys hys
 obtain ⟨h1,h⟩:=Bool.ay h
 obtain ⟨h2,h⟩:=Bool.ay h
 simp only [aw] at h; subst h
 have him:=s9 hys
 have hl:ys.length=cs.length:=by rw [him,mB]
 have nf:∀ (g:Nat->Nat->O) (j:Nat),gy g eI i j=some (.o (g i j)):=λg j=>by
  unfold gy
  grind
 refine ⟨_,eI,rfl,eN h1,bc h2,⟨λi' j' hn=>?_,λk hk=>?_,λhq=>hq⟩⟩
 .rw [<- hl] at hn
  unfold gy
  rw [T4 get i j i' j' ys hn]
 .have hk2:k<ys.length:=by omega
  refine ⟨_,_,ib hk,nf _ _,.inr ⟨iR ys k,?_,by rw [XX _ _ _ _ _ hk2]⟩⟩
  have:(lift ys)[k]?=some (.im (iR ys k)):=by
   have:=rU (ys:=ys) (j:=k) hk2
   exact this
  grind
theorem Ie {el sz n size r i j:Nat} {get:Nat->Nat->O} {eI:Option (Nat×List Fc)} {cs:List C} {e:cP} (ik:cs.length=size) (h:s7 el sz n get eI size r i j cs=some e) :
  ∃ get' mV,e=.wr none [(r,.bo el sz n get' mV)]/\j+size<=sz/\(i<n∨∃ x,eI=some x/\i=x.1)/\StN get eI get' mV i j cs:=by
 unfold s7 at h
 split at h
 .obtain ⟨get',mV,h1,h2,h3,h4⟩:=xE ik (λx hx=>by cases hx) h
  grind
 .rename_i x
  cases hb:Nat.beq i x.1 with
  | false=>
    rw [hb] at h
    grind [xE]
  | true=>
    rw [hb] at h
    have h:(match RE cs x.2 j with
     | some l=>(Bool.rec none (some (.wr none [(r,.bo el sz n get (some (x.1,l)))])) (Nat.ble (j+size) sz):Option cP)
     | none=>none)=some e:=h
    split at h
    case h_2=>simp at h
    rename_i l hl
    obtain ⟨h1,h⟩:=Bool.ay h
    simp only [aw] at h; subst h
    obtain ⟨p1,p2,p3⟩:=CG hl
    have hi:=Nat.eq_of_beq_eq_true hb
    refine ⟨get,_,rfl,eN h1,.inr ⟨x,rfl,hi⟩,⟨λi' j' hn=>?_,λk hk=>?_,λhq y hy=>?_⟩⟩
    .grind [gy,Nat.eq_of_beq_eq_true,bz]
    .refine ⟨.c cs[k],cs[k],ib hk,?_,.inl rfl⟩
     grind [gy,bz]
    grind
theorem Ef (bZ:dU P T) (h:R T N aA w0 sp s a w E) (hn:bT s.sl) {dst:Option Tmp} {t:TypeId} {x v:Operand} {e:cP} (ef:iu T s dst t x v=some e) (b:Nat) :
  (∃ l,e=.cU l)∨dst=none/\∃ w',(Instr.storeAt t (a.eval x) (a.eval v)).run P w=.ok () w'/\jy T N aA w0 sp s a w E b e undef w' E:=by
 unfold iu at ef
 split at ef
 .simp at ef
 split at ef
 case h_2=>simp at ef
 rename_i y d hy hd
 have hv:=h.cF hn hd
 split at ef
 case h_2=>simp at ef
 rename_i cs hcs
 obtain ⟨ik,ef⟩:=Bool.ay ef
 split at ef
 case h_2=>simp at ef
 rename_i r i j hx
 have hx:=h.cF hn (cr hx)
 have hcv:=ox hv hcs
 unfold mN at ef
 split at ef
 .rename_i l hl
  refine .inr ⟨rfl,?_⟩
  rw [cx] at hl
  split at ef
  case h_2=>simp at ef
  split at ef
  case h_2=>simp at ef
  rename_i l' xX
  simp only [aw] at ef
  subst ef
  have hr:r<s.rs.length:=by rw [bz] at hl; grind
  obtain ⟨s',w',h1,h2,h3⟩:=xq (t:=t) bZ h hx hv (K:=λs'=>s'={ s with rs:=setAt s.rs r (.box l') }) (by
   simp only [Gk,hy,hcs,ik,hl,xX])
  subst h3
  refine ⟨w',h1,ot.refl _ _,?_,λd hd=>by simp [eG] at hd⟩
  show R T N aA w0 sp { s with rs:=place r (.box l') s.rs } a w' E
  rw [iU _ hr,<- bg]
  exact h2
 .rename_i el asz n l hl
  refine .inr ⟨rfl,?_⟩
  rw [cx,bz] at hl
  split at ef
  case h_2=>simp at ef
  rename_i l' xX
  simp only [aw] at ef
  subst ef
  have hy:=bZ.ty _ _ hy
  simp only [fC] at ik
  obtain ⟨ik,gk⟩:=ik
  have ik:=cE ik
  have gk:=bc gk
  have xG:(a.eval v).cells.size=y.size:=by have:=hcv.length; grind
  have hr:r<s.rs.length:=(List.getElem?_eq_some_iff.1 hl).1
  obtain ⟨b',sz,⟨sj,hE⟩,hpx⟩:=hx
  obtain ⟨q1,q2,xs,q3,q4⟩:=h.roots r _ _ hl hE
  have q1:sz=asz:=q1
  have q2:some b'=sj.1.ownBlock:=q2
  subst q1
  obtain ⟨q5,q6⟩:=q3
  have q6:(sj.1=.slice none 0 0/\n=0)∨∃ g cap cur,sj.1=.slice (some ⟨g,0,none⟩) n cap/\w0.base<=g/\w.heap[g]?=some (.cells cur el (0,0))/\n<=cap/\cap<=maxLen/\cur.size=cap*sz/\cur.toList.take (n*sz)=xs:=q6
  rcases q6 with ⟨q6,_⟩|⟨g',cap,cur,q6,q7,q8,q9,q10,q11,q12⟩
  .rw [q6] at q2; simp [Value.ownBlock] at q2
  rw [q6] at q2
  simp only [Value.ownBlock,aw] at q2
  subst q2
  have hfit0:i*sz+j+y.size<=n*sz:=by
   have hlen:=q4.length
   rcases tX xX with h1|h1
   all_goals grind
  have hcap:n*sz<=cap*sz:=iV _ q9
  have hrun:=iX (w:=w) hy (o:=i*sz+j) q8 xG (by omega) (hcv.uU)
  rw [hpx]
  refine ⟨_,hrun,ot.refl _ _,?_,λd hd=>by simp [eG] at hd⟩
  show R T N aA w0 sp { s with rs:=place r _ s.rs } a _ E
  rw [iU _ hr]
  have hl2:(a.eval v).cells.toList.length=y.size:=by simpa using xG
  have hk:bl (AV aA s.rs E) w (w.setRow b' (cur.toList.take (i*sz+j)++(a.eval v).cells.toList++cur.toList.drop (i*sz+j+y.size)).toArray):=
    ⟨by simp,λk hk hn=>setRow_other w _ k _ λe=>by subst e; exact hn (.inr ⟨r,_,sz,hl,trivial,bB.own ⟨sj,hE⟩⟩)⟩
  have hp:=aV2 xX q4 hcv
  rw [hl2,<- q12,<- UP cur.toList _ (i*sz+j) y.size (n*sz) hl2 hfit0 (by simp; omega)] at hp
  refine h.turn hl trivial hE (by simp) (λk hk=>setRow_other w _ k _ hk) ⟨rfl,rfl,rfl⟩ ⟨rfl,by rw [q6]; rfl,_,⟨?_,.inr ⟨b',cap,_,q6,q7,setRow_heap w b' cur _ el (0,0) q8,q9,q10,?_,rfl⟩⟩,?_⟩
  .simp [hl2]
   omega
  .simp [hl2]
   omega
  .exact hp.mono λ_ _ q=>bp.mono (Env.le_refl E) hk (λ_ _ q=>q) q
 .rename_i el asz n get hl
  rw [cx] at hl
  split at ef
  .rename_i ys hys
   refine .inr ⟨rfl,?_⟩
   obtain ⟨h1,ef⟩:=Bool.ay ef
   obtain ⟨h2,ef⟩:=Bool.ay ef
   simp only [aw] at ef
   subst ef
   have hr:r<s.rs.length:=by rw [bz] at hl; grind
   obtain ⟨s',w',h3,h4,h5⟩:=xq (t:=t) bZ h hx hv (K:=λs'=>s'={ s with rs:=setAt s.rs r (.arr el asz n (BJ get i j ys)) }) (by
    grind [Gk,bc])
   subst h5
   refine ⟨w',h3,ot.refl _ _,?_,λd hd=>by simp [eG] at hd⟩
   show R T N aA w0 sp { s with rs:=place r (.arr el asz n (B2 get i j ys)) s.rs } a w' E
   rw [iU _ hr,<- bg,XF]
   exact h4
  grind [qo]
 .rename_i el asz n get eI hl
  refine .inr ⟨rfl,?_⟩
  rw [cx,bz] at hl
  have hy:=bZ.ty _ _ hy
  simp only [fC] at ik
  obtain ⟨ik,gk⟩:=ik
  have ik:=cE ik
  obtain ⟨get',mV,rfl,hjs,hin,ny⟩:=Ie ik ef
  have hr:r<s.rs.length:=(List.getElem?_eq_some_iff.1 hl).1
  obtain ⟨b',sz,⟨sj,hE⟩,hpx⟩:=hx
  obtain ⟨q1,q2,xs,q3,Ks,hK,hf,q4⟩:=h.roots r _ _ hl hE
  have q1:sz=asz:=q1
  have q2:some b'=sj.1.ownBlock:=q2
  have hK:Nk sj.2 sj.1.ownBlock Ks:=hK
  subst q1
  have xG:(a.eval v).cells.size=y.size:=by have:=hcv.length; grind
  obtain ⟨q5,q6⟩:=q3
  have q6:(sj.1=.slice none 0 0/\n=0)∨∃ g cap cur,sj.1=.slice (some ⟨g,0,none⟩) n cap/\w0.base<=g/\w.heap[g]?=some (.cells cur el (0,0))/\n<=cap/\cap<=maxLen/\cur.size=cap*sz/\cur.toList.take (n*sz)=xs:=q6
  rcases q6 with ⟨q6,_⟩|⟨g',cap,cur,q6,q7,q8,q9,q10,q11,q12⟩
  .grind
  have Qs:sj.1.ownBlock=some b':=q2.symm
  rw [q6] at q2
  simp only [Value.ownBlock,aw] at q2
  subst q2
  have hi:i<n:=hin.elim id λ⟨x,g1,g2⟩=>g2▸(hf x g1).1
  have hjs:j+y.size<=sz:=hjs
  have hfit0:i*sz+j+y.size<=n*sz:=by
   have:=iV sz (show i+1<=n by omega)
   grind
  have hcap:n*sz<=cap*sz:=iV _ q9
  have hrun:=iX (w:=w) hy (o:=i*sz+j) q8 xG (by omega) (hcv.uU)
  rw [hpx]
  refine ⟨_,hrun,ot.refl _ _,?_,λd hd=>by simp [eG] at hd⟩
  show R T N aA w0 sp { s with rs:=place r _ s.rs } a _ E
  rw [iU _ hr]
  have hl2:(a.eval v).cells.toList.length=y.size:=by simpa using xG
  have hk:bl (AV aA s.rs E) w (w.setRow b' (cur.toList.take (i*sz+j)++(a.eval v).cells.toList++cur.toList.drop (i*sz+j+y.size)).toArray):=
    ⟨by simp,λk hk hn=>setRow_other w _ k _ λe=>by subst e; exact hn (.inr ⟨r,_,sz,hl,trivial,bB.own ⟨sj,hE⟩⟩)⟩
  refine h.turn hl trivial hE (by simp) (λk hk=>setRow_other w _ k _ hk) ⟨rfl,rfl,rfl⟩ ⟨rfl,by rw [q6]; rfl,_,⟨?_,.inr ⟨b',cap,_,q6,q7,setRow_heap w b' cur _ el (0,0) q8,q9,q10,?_,rfl⟩⟩,Ks,hK,ny.eI hf,?_⟩
  .simp [hl2]
   omega
  .simp [hl2]
   omega
  .intro i' nA j' hj'
   have hq:i'*sz+j'<n*sz:=by
    grind
   have hxs:∀ q,q<n*sz->((cur.toList.take (i*sz+j)++(a.eval v).cells.toList++cur.toList.drop (i*sz+j+y.size)).toArray.toList.take (n*sz))[q]?=if i*sz+j<=q/\q<i*sz+j+y.size then (a.eval v).cells.toList[q-(i*sz+j)]? else xs[q]?:=by
    intro q hq
    rw [nH,if_pos hq,<- q12,nH,if_pos hq]
    have h1:(cur.toList.take (i*sz+j)).length=i*sz+j:=by grind
    split
    .grind
    .rename_i hc
     rcases Nat.lt_or_ge q (i*sz+j) with eW|hge
     .grind
     .have hge2:i*sz+j+y.size<=q:=by omega
      rw [nv (by grind),List.getElem?_drop,List.length_append,h1,hl2]
      congr 1; omega
   have hs:∀ b,Ks i' j' b->(w.setRow b' (cur.toList.take (i*sz+j)++(a.eval v).cells.toList++cur.toList.drop (i*sz+j+y.size)).toArray).heap[b]?=w.heap[b]?:=λb hb=>setRow_other w _ b _ λe=>by
    subst e
    exact hK.ne _ _ _ hb Qs
   by_cases hc:i'=i/\j<=j'/\j'<j+y.size
   .obtain ⟨rfl,h2,h3⟩:=hc
    obtain ⟨c,x,g1,g2,g3⟩:=ny.in_ (j'-j) (by rw [ik]; omega)
    obtain ⟨u,g4,g5⟩:=hcv.nth (i:=j'-j) (x:=x) (by rw [bz]; exact g1)
    refine ⟨u,c,?_,by simp_all,?_⟩
    .rw [hxs _ hq,if_pos (by omega),show i'*sz+j'-(i'*sz+j)=j'-j by omega]; exact g4
    .have g6:=bp.mono (Env.le_refl E) hk (λ_ _ q=>q) g5
     rcases g3 with rfl|⟨z,rfl,rfl⟩
     .exact g6
     .exact g6
   .obtain ⟨u,c,g1,g2,g3⟩:=q4 i' nA j' hj'
    refine ⟨u,c,?_,by rw [ny.out i' j' (by rw [ik]; exact hc)]; exact g2,jq.mono (Env.le_refl E) hk (λ_ _ q=>q) hs g3⟩
    rw [hxs _ hq,if_neg]
    .exact g1
    .rintro ⟨h1,h2⟩
     refine hc ?_
     have hii:i'=i:=by
      rcases Nat.lt_trichotomy i' i with h3|h3|h3
      .have:=iV sz (show i'+1<=i by omega)
       grind
      .exact h3
      .have:=iV sz (show i+1<=i' by omega)
       grind
     subst hii
     omega
 .simp at ef
theorem R.My (h:R T N aA w0 sp s a w E) {b:Nat} (hf:mm s E b) {l:List C} {cs:Array Value} (hl:aF (bp E (AV aA s.rs E) w) l cs.toList) (t:TypeId) :
  ∃ E',jy T N aA w0 sp s a w E b (.wr (some (.c (.rt b 0 0))) [(b,.box l)]) (.pointer (some ⟨w.heap.size,0,none⟩)) (w.alloc (.cells cs t)) E':=by
 obtain ⟨E',h1,h2,h3,h4⟩:=h.make hf (dead:=none) (x:=.box l) (e:=(some w.heap.size,mY,l.length)) (w':=w.alloc (.cells cs t)) (row:=none) (World.grownBy_alloc w _ none) (λk hk=>by cases hk)
  (λk hk=>by simp at hk; omega) (λk hk=>by simp at hk ⊢; omega) (λE' dx hE fa _ hk=>⟨w.heap.size,cs,t,rfl,rfl,heap_alloc_new w _,hl.mono λ_ _ q=>bp.mono hE hk fa q⟩)
 refine ⟨E',h3,h1,λd hd=>?_⟩
 simp only [eG,aw] at hd
 subst hd
 exact ⟨w.heap.size,l.length,⟨mY,h2⟩,by simp⟩
theorem J0 (h:R T N aA w0 sp s a w E) (hn:bT s.sl) {b:Nat} (hf:mm s E b) {x:Operand} (t:TypeId) {e:cP} (ef:xJ b s x=some e) :
  ∃ E',jy T N aA w0 sp s a w E b e (.pointer (some ⟨w.heap.size,0,none⟩)) (w.alloc (.cells (a.eval x).cells t)) E':=by
 unfold xJ at ef
 split at ef
 case h_2=>simp at ef
 rename_i d hd
 split at ef
 case h_2=>simp at ef
 rename_i l hl
 simp only [aw] at ef
 subst ef
 exact h.My hf (ox (h.cF hn hd) hl) t
theorem EA (bZ:dU P T) (h:R T N aA w0 sp s a w E) {b:Nat} (hf:mm s E b) {t:TypeId} {e:cP} (ef:lH T b t=some e) :
  ∃ v w' E',(∀ o:Oper,o.op=.alloc t->(execOp a.eval o).run P w=.ok (.value v) w')/\jy T N aA w0 sp s a w E b e v w' E':=by
 unfold lH at ef
 split at ef
 case h_2=>simp at ef
 rename_i y hy
 have hy:=bZ.ty _ _ hy
 split at ef
 case h_2=>simp at ef
 rename_i l hl
 simp only [aw] at ef
 subst ef
 obtain ⟨i,hi,_,_,hz⟩:=hy.full
 obtain ⟨E',h1⟩:=h.My hf (cs:=y.zero.cells) (lZ hl) t
 refine ⟨_,_,E',λo ho=>?_,h1⟩
 have hz0:(zeroValue t).run P w=.ok y.zero w:=by simp [zeroValue,typeInfo,hi,hz]
 simp only [execOp,ho,Instr.alloc,Sem.run_bind,hz0,Result.andThen_ok]
 rfl
theorem FP (h:R T N aA w0 sp s a w E) {b:Nat} (hf:mm s E b) {t:TypeId} {r:Option Operand} {e:cP} (ef:lB T b t r=some e) :
  r=none/\∃ E',jy T N aA w0 sp s a w E b e (.map (some w.heap.size)) (w.alloc (.map #[] 0)) E':=by
 unfold lB at ef
 split at ef
 case h_2=>simp at ef
 simp only [aw] at ef
 subst ef
 refine ⟨rfl,?_⟩
 obtain ⟨E',h1,h2,h3,h4⟩:=h.make hf (dead:=none) (x:=.set []) (e:=(some w.heap.size,mY,0)) (w':=w.alloc (.map #[] 0)) (row:=none) (World.grownBy_alloc w _ none) (λk hk=>by cases hk)
  (λk hk=>by simp at hk; omega) (λk hk=>by simp at hk ⊢; omega) (λE' dx hE fa _ hk=>⟨w.heap.size,#[],0,rfl,heap_alloc_new w _,.nil⟩)
 refine ⟨E',h3,h1,λd hd=>?_⟩
 simp only [eG,aw] at hd
 subst hd
 exact ⟨w.heap.size,0,⟨mY,h2⟩,rfl⟩
theorem II (bZ:dU P T) (h:R T N aA w0 sp s a w E) (hn:bT s.sl) {dst:Option Tmp} {t:TypeId} {m k v:Operand} {e:cP} (ef:n9 T s dst t m k v=some e) (b:Nat) :
  dst=none/\∃ w',(Instr.mapUpdate t (a.eval m) (a.eval k) (a.eval v)).run P w=.ok () w'/\jy T N aA w0 sp s a w E b e undef w' E:=by
 unfold n9 at ef
 split at ef
 .simp at ef
 refine ⟨rfl,?_⟩
 obtain ⟨hk,ef⟩:=Bool.ay ef
 unfold Pr at hk
 split at hk
 case h_2=>simp at hk
 rename_i rK
 have rK:=(bZ.ty _ _ rK).map rfl
 split at hk
 case h_2=>simp at hk
 rename_i CU _
 have CU:=(bZ.ty _ _ CU).int rfl
 split at ef
 case h_2=>simp at ef
 rename_i r n hm hk hv
 obtain ⟨b',sz,⟨hh,hE⟩,hm⟩:=h.cF hn (cr hm)
 have hk:=(h.cF hn (eu hk)).1
 have hv:=(h.cF hn (fh hv)).1
 split at ef
 case h_2=>simp at ef
 rename_i l hl
 rw [cx,bz] at hl
 simp only [aw] at ef
 subst ef
 obtain ⟨w',h1,h2⟩:=P2 h hl hE rK CU
 rw [hm,hk,hv]
 refine ⟨w',h1,ot.refl _ _,?_,λd hd=>by simp [eG] at hd⟩
 show R T N aA w0 sp { s with rs:=place r _ s.rs } a _ E
 grind [iU]
theorem R.Ft (h:R T N aA w0 sp s a w E) {b:Nat} (hf:mm s E b) {el sz n:Nat} {l:List C} {w':World} {hd:Value} {xs:List Value} {row:Option Nat} {dead:Option Nat}
  (hg:w.grownBy w' row) (eP:w'.ownsRow w0.base el sz hd n xs)
  (pc:∀ k,row=some k->∃ r x q,dead=some r/\s.rs[r]?=some x/\x.live/\bB E r k q)
  (kh:∀ k,hd.ownBlock=some k->some k=row∨w.heap.size<=k)
  (hl:aF (bp E (AV aA s.rs E) w) l xs) :
  ∃ E',R T N aA w0 sp { s with rs:=place b (.row el sz n l) (kill dead s.rs) } a w' E'/\ot b E E'/\bj E' (AV aA (place b (.row el sz n l) (kill dead s.rs)) E') w' (.c (.sa b n)) hd:=by
 obtain ⟨E',h1,h2,h3,h4⟩:=h.make hf (dead:=dead) (x:=.row el sz n l) (e:=(hd.ownBlock,oE hd,sz)) (w':=w') (row:=row) hg pc kh (λk hk=>by
   rcases eP.2 with ⟨h1,_⟩|⟨g,cap,cur,h1,h2,h3,_⟩
   all_goals grind [Value.ownBlock])
  (λE' dx hE fa _ hk=>⟨rfl,rfl,xs,eP,hl.mono λ_ _ q=>bp.mono hE hk fa q⟩)
 refine ⟨E',h1,h3,?_⟩
 rcases eP.2 with ⟨q5,q6⟩|⟨g,cap,cur,q5,_⟩
 .exact ⟨_,none,0,0,h2,q5,by omega,by rw [q5,q6]⟩
 .exact ⟨_,_,n,cap,h2,q5,bF _,q5⟩
theorem R.ya (h:R T N aA w0 sp s a w E) {b:Nat} (hf:mm s E b) {el sz n:Nat} {get:Nat->Nat->I} {w':World} {hd:Value} {xs:List Value} {row:Option Nat} {dead:Option Nat}
  (hg:w.grownBy w' row) (eP:w'.ownsRow w0.base el sz hd n xs)
  (pc:∀ k,row=some k->∃ r x q,dead=some r/\s.rs[r]?=some x/\x.live/\bB E r k q)
  (kh:∀ k,hd.ownBlock=some k->some k=row∨w.heap.size<=k)
  (hl:∀ i,i<n->∀ j,j<sz->∃ x,xs[i*sz+j]?=some x/\dw (AV aA s.rs E) w (get i j) x) :
  ∃ E',R T N aA w0 sp { s with rs:=place b (.arr el sz n get) (kill dead s.rs) } a w' E'/\ot b E E'/\bj E' (AV aA (place b (.arr el sz n get) (kill dead s.rs)) E') w' (.c (.sa b n)) hd:=by
 obtain ⟨E',h1,h2,h3,h4⟩:=h.make hf (dead:=dead) (x:=.arr el sz n get) (e:=(hd.ownBlock,oE hd,sz)) (w':=w') (row:=row) hg pc kh (λk hk=>by
   rcases eP.2 with ⟨h1,_⟩|⟨g,cap,cur,h1,h2,h3,_⟩
   all_goals grind [Value.ownBlock])
  (λE' dx hE fa _ hk=>⟨rfl,rfl,xs,eP,λi hi j hj=>by
   grind [dw.mono]⟩)
 refine ⟨E',h1,h3,?_⟩
 rcases eP.2 with ⟨q5,q6⟩|⟨g,cap,cur,q5,_⟩
 .exact ⟨_,none,0,0,h2,q5,by omega,by rw [q5,q6]⟩
 .exact ⟨_,_,n,cap,h2,q5,bF _,q5⟩
theorem R.X9 (h:R T N aA w0 sp s a w E) {b:Nat} (hf:mm s E b) {el sz n:Nat} {get:Nat->Nat->O} {eI:Option (Nat×List Fc)} {w':World} {hd:Value} {xs:List Value} {row:Option Nat} {dead:Option Nat} {K:Nat->Prop} {Ks:Nat->Nat->Nat->Prop}
  (hg:w.grownBy w' row) (eP:w'.ownsRow w0.base el sz hd n xs)
  (pc:∀ k,row=some k->∃ r x q,dead=some r/\s.rs[r]?=some x/\x.live/\bB E r k q)
  (kh:∀ k,hd.ownBlock=some k->some k=row∨w.heap.size<=k)
  (hK:∀ k,K k->∃ r x q,dead=some r/\s.rs[r]?=some x/\x.live/\dt E r k q)
  (hP:Nk K hd.ownBlock Ks) (hfo:∀ x,eI=some x->x.1<n/\x.2.length=sz) (N9:∀ i j b,Ks i j b->w'.heap[b]?=w.heap[b]?)
  (hl:∀ i,i<n->∀ j,j<sz->∃ x c,xs[i*sz+j]?=some x/\gy get eI i j=some c/\jq E (AV aA s.rs E) w0.base w c (Ks i j) x) :
  ∃ E',R T N aA w0 sp { s with rs:=place b (.bo el sz n get eI) (kill dead s.rs) } a w' E'/\ot b E E'/\bj E' (AV aA (place b (.bo el sz n get eI) (kill dead s.rs)) E') w' (.c (.sa b n)) hd:=by
 obtain ⟨E',h1,h2,h3,h4⟩:=h.make hf (dead:=dead) (x:=.bo el sz n get eI) (e:=(hd.ownBlock,(hd,K),sz)) (w':=w') (row:=row) hg pc kh (λk hk=>by
   rcases eP.2 with ⟨h1,_⟩|⟨g,cap,cur,h1,h2,h3,_⟩
   all_goals grind [Value.ownBlock])
  (λE' dx hE fa _ hk=>⟨rfl,rfl,xs,eP,Ks,hP,hfo,λi hi j hj=>by
   grind [jq.mono]⟩) (λk q=>.inl (hK k q))
 refine ⟨E',h1,h3,?_⟩
 rcases eP.2 with ⟨q5,q6⟩|⟨g,cap,cur,q5,_⟩
 .exact ⟨_,none,0,0,h2,q5,by omega,by rw [q5,q6]⟩
 .exact ⟨_,_,n,cap,h2,q5,bF _,q5⟩
theorem ur (hn:bT s.sl) {sz:Nat}:∀ {ps:List (Nat×Operand)} {l r:List C},qV sz s.sl ps l=some r->AP sz s [] ps l=some r
 | [],l,r,e=>e
 | p::ps,l,r,e=>by
   obtain ⟨k,x⟩:=p
   have e:(match Go.V.cF s.sl x with
    | some d=>match d.cells with
      | some cs=>(Bool.rec none (match put l (k*sz) cs with
        | some l'=>qV sz s.sl ps l'
        | none=>none) (Nat.beq cs.length sz&&Nat.blt 0 sz):Option (List C))
      | none=>none
    | none=>none)=some r:=e
   split at e
   case h_2=>simp at e
   rename_i d hd
   split at e
   case h_2=>simp at e
   rename_i cs hcs
   obtain ⟨h1,e⟩:=Bool.ay e
   split at e
   case h_2=>simp at e
   rename_i l' xX
   simp only [AP,dW hn hd,hcs,h1,xX]
   exact ur hn e
theorem Qo (bZ:dU P T) (h:R T N aA w0 sp s a w E) (hn:bT s.sl) {b:Nat} (hf:mm s E b) {t n:Nat} {ps:Array (Nat×Operand)} {e:cP} {cU:Bool} (ef:Qy T b s cU t n ps.toList=some e) :
  ∃ v w' E',(Instr.buildSlice t n (ps.map λ(i,x)=>(i,a.eval x))).run P w=.ok v w'/\jy T N aA w0 sp s a w E b e v w' E':=by
 unfold Qy at ef
 split at ef
 case h_2=>simp at ef
 rename_i Eb jL z0 el uL
 have uL:=bZ.ty _ _ uL
 split at ef
 case h_2=>simp at ef
 rename_i y hy
 have hy:=bZ.ty _ _ hy
 split at ef
 case h_2=>simp at ef
 rename_i z hz
 split at ef
 case h_2=>simp at ef
 rename_i l hl
 obtain ⟨hb,ef⟩:=Bool.ay ef
 simp only [aw] at ef
 subst ef
 simp only [fC] at hb
 have gk:=bc hb.1
 have L3:=eN hb.2
 have Gz:z.length=y.size:=by
  have:=(lZ (E:=E) (av:=AV aA s.rs E) (w:=w) hz).length
  rw [this]
  simpa using hy.zs
 obtain ⟨cs,h1,h2,h3⟩:=zK bZ h (bP.nil a) uL rfl hy hz (ur hn hl) Gz gk L3
 have hm:n<=maxLen:=by
  have:n<=n*y.size:=Nat.le_mul_of_pos_right _ gk
  simp only [maxLen]; omega
 have eP:=World.ownsRow_lit (e:=el) (size:=y.size) (base:=w0.base) w cs n h.size_le hm (by rw [<- h3,h2.length]; simp)
 rcases kA cU b el y.size n l with hc|⟨is,hi,hc⟩|⟨vo,hc⟩
 case inr.inr=>
  rw [hc]
  subst vo
  obtain ⟨E',h4,h5,h6⟩:=h.ya hf (dead:=none) (row:=none) (n:=0) (get:=jA) (World.grownBy_alloc w _ none) eP (λk hk=>by cases hk) (λk hk=>by simp [Value.ownBlock] at hk; right; omega) (λi hi=>by omega)
  refine ⟨_,_,E',h1,h5,h4,λd hd=>?_⟩
  simp only [eG,aw] at hd
  subst hd
  exact h6
 case inr.inl=>
  rw [hc]
  have hb:=jo w (.cells cs el)
  refine ⟨_,_,E,h1,ot.refl _ _,h.grown hb,λd hd=>?_⟩
  simp only [eG,aw] at hd
  subst hd
  have him:=s9 hi
  subst him
  have hx:=yE h2
  have hxl:=hx.length
  have hE:=(h.grown hb)
  refine ⟨_,n,rfl,bF _,hm,λh0=>⟨_,rfl,rfl,λq=>?_,by simp_all,λi nA j hj=>?_⟩⟩
  .have:w.heap.size<w.heap.size:=by
    rcases q with q|⟨r,x,sz,g1,g2,g3⟩
    .exact h.kr q
    .exact (h.dp r x _ sz g1 g2 g3).2
   omega
  .have eW:i*y.size+j<n*y.size:=by
    have:=iV y.size (show i+1<=n by omega)
    grind
   obtain ⟨x,h5,h6⟩:=qg hx (q:=i*y.size+j) (by rw [hxl,<- h2.length,h3]; exact eW)
   refine ⟨x,?_,dw.mono (bl.nN hb) (λ_ _ q=>q) h6⟩
   grind [Addr.add_mid,du,heap_alloc_new]
 rw [hc]
 obtain ⟨E',h4,h5,h6⟩:=h.Ft hf (dead:=none) (row:=none) (n:=n) (l:=l) (World.grownBy_alloc w _ none) eP (λk hk=>by cases hk) (λk hk=>by simp [Value.ownBlock] at hk; right; omega) h2
 refine ⟨_,_,E',h1,h5,h4,λd hd=>?_⟩
 simp only [eG,aw] at hd
 subst hd
 exact h6
theorem Ig (bZ:dU P T) (h:R T N aA w0 sp s a w E) (hn:bT s.sl) {b:Nat} (hf:mm s E b) {t:TypeId} {l c:Operand} {e:cP} (ef:nR T b s t l c=some e) :
  ∃ v w' E',(Instr.makeSlice t (a.eval l) (a.eval c)).run P w=.ok v w'/\jy T N aA w0 sp s a w E b e v w' E':=by
 unfold nR at ef
 split at ef
 case h_2=>simp at ef
 rename_i Eb jL z0 el uL
 have hu:=(bZ.ty _ _ uL).slice rfl
 split at ef
 case h_2=>simp at ef
 rename_i y hy
 have hy:=bZ.ty _ _ hy
 split at ef
 case h_2=>simp at ef
 rename_i z hz
 split at ef
 case h_2=>simp at ef
 rename_i n m hl hc
 split at ef
 case h_2=>simp at ef
 rename_i is his
 obtain ⟨gk,ef⟩:=Bool.ay ef
 obtain ⟨hb,ef⟩:=Bool.ay ef
 obtain ⟨h1,ef⟩:=Bool.ay ef
 simp only [aw] at ef
 subst ef
 simp only [fC] at hb
 have h1:=cE h1
 subst h1
 have gk:=bc gk
 have hm:=eN hb.1
 have hby:=eN hb.2
 have hl:=(h.cF hn (eu hl)).1
 have hc:=(h.cF hn (eu hc)).1
 have hzr:=lZ (E:=E) (av:=AV aA s.rs E) (w:=w) hz
 have Gz:z.length=y.size:=by rw [hzr.length]; simpa using hy.zs
 obtain ⟨inf,hin,ik,hbytes,hzero⟩:=hy.full
 obtain ⟨w',hr,eP,hg⟩:=run_make_full w w0.base t el inf y.zero y.size hu hin hzero ik .i64 .i64 n (by grind) hm h.size_le
 have Vx:aF (bp E (AV aA s.rs E) w) (WW z n) (madeCells y.zero.cells (n*y.size)).toList:=by
  refine aF.wU (by rw [lW,Gz]; simp [size_madeCells]) λi x v hx hv=>?_
  have hi:i<n*z.length:=by
   grind [lW]
  rw [yJ z n i hi] at hx
  have nA:i<n*y.size:=by rw [<- Gz]; exact hi
  have hcs:y.zero.cells.size=y.size:=hy.zs
  grind [madeCells,aF.get]
 have hil:z=lift is:=s9 his
 have hisl:is.length=y.size:=by rw [<- Gz,hil,mB]
 have hcells2:∀ i,i<n->∀ j,j<y.size->∃ x,(madeCells y.zero.cells (n*y.size)).toList[i*y.size+j]?=some x/\dw (AV aA s.rs E) w (iR is j) x:=by
  intro i hi j hj
  have eW:i*y.size+j<n*y.size:=by
   have:=iV y.size (show i+1<=n by omega)
   grind
  have e1:(WW z n)[i*y.size+j]?=some (.im (iR is j)):=by
   grind [yJ,Nat.mul_comm,Nat.mul_add_mod,Nat.mod_eq_of_lt,rU]
  obtain ⟨x,h7,h8⟩:=Vx.nth (i:=i*y.size+j) (x:=.im (iR is j)) (by rw [bz]; exact e1)
  exact ⟨x,h7,h8⟩
 obtain ⟨E',h4,h5,h6⟩:=h.ya hf (dead:=none) (row:=none) (n:=n) (get:=λ_=>iR is) hg eP (λk hk=>by cases hk) (λk hk=>by simp [Value.ownBlock] at hk; right; omega) hcells2
 refine ⟨.slice (some ⟨w.heap.size,0,none⟩) n n,w',E',?_,h5,h4,λd hd=>?_⟩
 .rw [hl,hc]; exact hr
 .simp only [eG,aw] at hd
  subst hd
  exact h6
theorem OU (get:Nat->Nat->I) (sz n i k:Nat) (h:k<=n):(xO get sz i n).take (k*sz)=xO get sz i k:=by
 apply List.ext_getElem?
 intro q
 rw [nH]
 split
 .rename_i hq
  have hz:0<sz:=by
   grind
  have e1:q/sz*sz+q%sz=q:=by rw [Nat.mul_comm]; exact Nat.div_add_mod q sz
  grind [Nat.div_lt_of_lt_mul,Nat.mod_lt,qi]
 grind [om]
theorem uI {e:fG} {el sz n:Nat} {l:List C} {base:Nat} {av:Nat->Prop} (hrr:ba E av base w e (.row el sz n l)) {ao:Option Addr} {n' cap k:Nat} (h2:e.2.1.1=.slice ao n' cap) (h3:k<=n') (hkn:k<=n) :
  ∃ ao' cap',Value.slice ao k cap=.slice ao' k cap'/\(ao'=none->k=0)/\∃ news:List Value,news.length=k*sz/\(∀ ad,ao'=some ad->∀ j u,news[j]?=some u->w.cell? (ad.add j)=some u)/\(∀ u∈news,u.oneCell'=true)/\
   aF (bp E av w) (l.take (k*sz)) news:=by
 obtain ⟨q1,q2,xs,q3,q4⟩:=hrr
 have hxl:=q3.1
 have hks:k*sz<=n*sz:=iV _ hkn
 have hxk:(xs.take (k*sz)).length=k*sz:=by grind
 rcases q3.2 with ⟨q5,q6⟩|⟨g,cap',cur,q5,q6,q7,q8,q9,q10,q11⟩
 .rw [h2] at q5
  simp only [jw] at q5
  obtain ⟨rfl,rfl,rfl⟩:=q5
  have:k=0:=by omega
  subst this
  exact ⟨none,0,rfl,λ_=>rfl,[],by simp,λ_ _ j u hj=>(by simp at hj),λu hu=>(by cases hu),by simp; exact .nil⟩
 .rw [h2] at q5
  simp only [jw] at q5
  obtain ⟨rfl,rfl,rfl⟩:=q5
  refine ⟨_,cap,rfl,λe=>(by simp at e),xs.take (k*sz),hxk,?_,?_,q4.take _⟩
  all_goals grind [Addr.add_mid,du,aF.uU]
theorem A4 (h:R T N aA w0 sp s a w E) {c:C} {vs:Value} {sz k:Nat} {l':List C} (hs:Ap s.rs c=some (sz,k,l')) (hr:bp E (AV aA s.rs E) w c vs) :
  ∃ ao cap,vs=.slice ao k cap/\(ao=none->k=0)/\∃ news:List Value,news.length=k*sz/\(∀ ad,ao=some ad->∀ j u,news[j]?=some u->w.cell? (ad.add j)=some u)/\(∀ u∈news,u.oneCell'=true)/\
   aF (bp E (AV aA s.rs E) w) l' news:=by
 unfold Ap at hs
 split at hs
 .rename_i dE k' get
  simp only [aw,bN] at hs
  obtain ⟨rfl,rfl,rfl⟩:=hs
  obtain ⟨ao,cap,h1,h2,news,h3,h4,h5,h6⟩:=O1 h (src:=.c (.im (.sl dE k' get))) rfl hr
  refine ⟨ao,cap,h1,h2,news,h3,h4,h5,aF.Mp (by rw [om,h3]) λq x hx=>?_⟩
  have hq:q<k'*dE:=by grind [om]
  have hz:0<dE:=by
   grind
  have e1:q/dE*dE+q%dE=q:=by rw [Nat.mul_comm]; exact Nat.div_add_mod q dE
  have hk:q/dE<k':=Nat.div_lt_of_lt_mul (by grind)
  have hm:q%dE<dE:=Nat.mod_lt _ hz
  obtain ⟨y,h7,h8⟩:=h6 (q/dE) hk (q%dE) hm
  have h9:=qi get dE k' 0 (q/dE) (q%dE) hk hm
  rw [e1] at h7 h9
  rw [hx] at h9
  simp only [Nat.zero_add,aw] at h9
  subst h9
  exact ⟨y,h7,h8⟩
 .obtain ⟨rfl,_⟩:=hr
  simp only [aw,bN] at hs
  obtain ⟨rfl,rfl,rfl⟩:=hs
  exact ⟨none,0,rfl,λ_=>rfl,[],rfl,λ_ q=>(by cases q),λ_ q=>(by cases q),.nil⟩
 .rename_i q k'
  split at hs
  case h_3=>simp at hs
  .rename_i el dE n l hl
   rw [cx,bz] at hl
   obtain ⟨hkn,hs⟩:=Bool.ay hs
   split at hs
   case h_2=>simp at hs
   rename_i l2 hl2
   obtain ⟨rfl,hlen⟩:=od _ _ _ hl2
   simp only [aw,bN] at hs
   obtain ⟨rfl,rfl,rfl⟩:=hs
   obtain ⟨e,ao,n',cap,h1,h2,h3,rfl⟩:=hr
   exact uI (h.roots q _ _ hl h1) h2 h3 (eN hkn)
  .rename_i el dE n get hl
   rw [cx,bz] at hl
   obtain ⟨hkn,hs⟩:=Bool.ay hs
   simp only [aw,bN] at hs
   obtain ⟨rfl,rfl,rfl⟩:=hs
   obtain ⟨e,ao,n',cap,h1,h2,h3,rfl⟩:=hr
   have:=uI (YE (h.roots q _ _ hl h1)) h2 h3 (eN hkn)
   rwa [OU _ _ _ _ _ (eN hkn)] at this
 .simp at hs
theorem KV (h:R T N aA w0 sp s a w E) {c:C} {vs:Value} {sz k:Nat} {get:Nat->Nat->I} (hs:tQ sz s.rs c=some (k,get)) (hr:bp E (AV aA s.rs E) w c vs) :
  ∃ ao cap,vs=.slice ao k cap/\(ao=none->k=0)/\∃ news:List Value,news.length=k*sz/\(∀ ad,ao=some ad->∀ j u,news[j]?=some u->w.cell? (ad.add j)=some u)/\(∀ u∈news,u.oneCell'=true)/\
   (∀ i,i<k->∀ j,j<sz->∃ x,news[i*sz+j]?=some x/\dw (AV aA s.rs E) w (get i j) x):=by
 have fin:∀ {l':List C},Ap s.rs c=some (sz,k,l')->(∀ i,i<k->∀ j,j<sz->l'[i*sz+j]?=some (.im (get i j)))->∃ ao cap,vs=.slice ao k cap/\(ao=none->k=0)/\∃ news:List Value,news.length=k*sz/\(∀ ad,ao=some ad->∀ j u,news[j]?=some u->w.cell? (ad.add j)=some u)/\(∀ u∈news,u.oneCell'=true)/\
   (∀ i,i<k->∀ j,j<sz->∃ x,news[i*sz+j]?=some x/\dw (AV aA s.rs E) w (get i j) x):=by
  intro l' h1 h2
  obtain ⟨ao,cap,q1,q2,news,q3,q4,q5,q6⟩:=A4 h h1 hr
  refine ⟨ao,cap,q1,q2,news,q3,q4,q5,λi hi j hj=>?_⟩
  obtain ⟨x,q7,q8⟩:=q6.nth (i:=i*sz+j) (x:=.im (get i j)) (by rw [bz]; exact h2 i hi j hj)
  exact ⟨x,q7,q8⟩
 have nF:∀ (n:Nat) (g:Nat->Nat->I),∀ i,i<n->∀ j,j<sz->(xO g sz 0 n)[i*sz+j]?=some (.im (g i j)):=λn g i hi j hj=>by
  grind [qi]
 unfold tQ at hs
 split at hs
 .rename_i dE k' get'
  replace hs:=Bool.ay hs
  obtain ⟨h1,h2⟩:=hs
  have h1:=cE h1
  subst h1
  simp only [aw,bN] at h2
  obtain ⟨rfl,rfl⟩:=h2
  exact fin (l':=xO get' dE 0 k') rfl (nF _ _)
 .obtain ⟨rfl,_⟩:=hr
  simp only [aw,bN] at hs
  obtain ⟨rfl,rfl⟩:=hs
  simp_all
 .rename_i q k'
  split at hs
  case h_3=>simp at hs
  .rename_i el dE n l hl
   obtain ⟨h1,hs⟩:=Bool.ay hs
   simp only [fC] at h1
   have h2:=cE h1.2
   subst h2
   split at hs
   case h_2=>simp at hs
   rename_i l2 hl2
   split at hs
   case h_2=>simp at hs
   rename_i is his
   simp only [aw,bN] at hs
   obtain ⟨rfl,rfl⟩:=hs
   refine fin (l':=l2) (by simp only [Ap,hl,h1.1,hl2]) λi hi j hj=>?_
   have him:=s9 his
   obtain ⟨rfl,hlen⟩:=od _ _ _ hl2
   have eW:i*dE+j<k'*dE:=by
    have:=iV dE (show i+1<=k' by omega)
    grind
   have hil:is.length=k'*dE:=by rw [<- mB,<- him,List.length_take]; omega
   rw [him]
   exact rU (by rw [hil]; exact eW)
  .rename_i el dE n get' hl
   replace hs:=Bool.ay hs
   obtain ⟨h1,h3⟩:=hs
   have h1:=cE h1
   subst h1
   obtain ⟨h2,h4⟩:=Bool.ay h3
   simp only [aw,bN] at h4
   obtain ⟨rfl,rfl⟩:=h4
   exact fin (l':=xO get' dE 0 k') (by simp only [Ap,hl,h2]) (nF _ _)
 .simp at hs
theorem zr {t el:TypeId} {y0 y:Ty} (uL:cC P t y0) (hk:y0.kd=.slice el) (hy:cC P el y) (ao:Option Addr) (cap:Nat) (ty:TypeId) :
  (Builtin.append_ #[t,t] ty #[.slice none 0 0,.slice ao 0 cap]).run P w=.ok (.slice none 0 0) w:=by
 obtain ⟨i,hi,_⟩:=hy.full
 cases ao<;>simp [Builtin.append_,run_underlying (uL.slice hk),sizeOf,typeInfo,hi,Builtin.lenOf,Builtin.firstCells,loadCells,loadCellsFrom]
theorem Co (h:R T N aA w0 sp s a w E) {b:Nat} (hf:mm s E b) {t el:TypeId} {y0 y:Ty} (uL:cC P t y0) (hk:y0.kd=.slice el) (hy:cC P el y) (gk:0<y.size)
  {k:Nat} {l':List C} {c:C} {v:Value} (hc:bp E (AV aA s.rs E) w c v) {ao:Option Addr} {cap:Nat} (vz:ao=none->k=0) {news:List Value} (hl:news.length=k*y.size)
  (hcell:∀ ad,ao=some ad->∀ j u,news[j]?=some u->w.cell? (ad.add j)=some u) (h1:∀ u∈news,u.oneCell'=true) (hrel:aF (bp E (AV aA s.rs E) w) l' news)
  {e:cP} (ef:GB el y.size k l' y.bytes b s.rs c=some e) (ty:TypeId) :
  ∃ v' w' E',(Builtin.append_ #[t,t] ty #[v,.slice ao k cap]).run P w=.ok v' w'/\jy T N aA w0 sp s a w E b e v' w' E':=by
 unfold GB at ef
 split at ef
 .obtain ⟨rfl,_⟩:=hc
  split at ef
  .simp only [aw] at ef
   subst ef
   refine ⟨_,w,E,zr uL hk hy ao cap ty,ot.refl _ _,h,λd hd=>?_⟩
   simp only [eG,aw] at hd
   subst hd
   exact ⟨rfl,rfl⟩
  .obtain ⟨hroom,ef⟩:=Bool.ay ef
   simp only [aw] at ef
   subst ef
   rename_i k
   simp only [cw,fC] at hroom
   have hroom:room (k+1) y.bytes:=⟨eN hroom.1,eN hroom.2⟩
   obtain ⟨v',w',q1,q2,q3,q4⟩:=gx uL hk hy gk (w.ownsRow_nil w0.base el y.size) h.size_le vz hl hcell h1 (by simpa using hroom) ty
   simp only [Nat.zero_add,List.nil_append] at q2
   obtain ⟨E',h4,h5,h6⟩:=h.Ft hf (dead:=none) (row:=none) (n:=k+1) (l:=l') q3 q2 (λk hk=>by cases hk) (λk hk=>by
    grind [Value.ownBlock]) hrel
   refine ⟨v',w',E',q1,h5,h4,λd hd=>?_⟩
   simp only [eG,aw] at hd
   subst hd
   exact h6
 .rename_i r m
  split at ef
  case h_3=>simp at ef
  .rename_i tN dE n l hlr
   rw [cx,bz] at hlr
   obtain ⟨he,ef⟩:=Bool.ay ef
   obtain ⟨hroom,ef⟩:=Bool.ay ef
   simp only [aw] at ef
   subst ef
   simp only [fC] at he hroom
   have he1:=cE he.1
   have he2:=cE he.2
   subst he1 he2
   have hmn:=cE hroom.1
   subst hmn
   have hroom:=hroom.2
   simp only [cw,fC] at hroom
   have hroom:room (m+k) y.bytes:=⟨eN hroom.1,eN hroom.2⟩
   obtain ⟨e',a',n',cap',h2,h3,h4,rfl⟩:=hc
   obtain ⟨q1,q2,xs,q3,q4⟩:=h.roots r _ _ hlr h2
   have zd:n'=m:=by
    rcases q3.2 with ⟨q5,q6⟩|⟨g,cap2,cur,q5,_⟩
    all_goals grind
   subst zd
   rw [<- h3]
   obtain ⟨v',w',p1,p2,p3,p4⟩:=gx uL hk hy gk q3 h.size_le vz hl hcell h1 hroom ty
   have jQ:∀ b,e'.2.1.1.ownBlock=some b->bB E r b e'.2.2:=by
    intro b hb
    obtain ⟨e1,e2,e3⟩:=e'
    have q2:e1=e2.1.ownBlock:=q2
    have hb:e2.1.ownBlock=some b:=hb
    rw [hb] at q2
    subst q2
    exact ⟨e2,h2⟩
   obtain ⟨E',h5,h6,h7⟩:=h.Ft hf (dead:=some r) (row:=e'.2.1.1.ownBlock) (n:=n'+k) (l:=l++l') p3 p2 (λb hb=>⟨r,_,_,rfl,hlr,trivial,jQ b hb⟩) (λb hb=>p4 b hb) (q4.append hrel)
   have hkill:kill (some r) s.rs=setAt s.rs r .dead:=by rw [bg]; rfl
   rw [hkill] at h5 h7
   refine ⟨v',w',E',p1,h6,h5,λd hd=>?_⟩
   simp only [eG,aw] at hd
   subst hd
   exact h7
  .rename_i tN dE n get hlr
   rw [cx,bz] at hlr
   split at ef
   case h_2=>simp at ef
   obtain ⟨he,ef⟩:=Bool.ay ef
   obtain ⟨hroom,ef⟩:=Bool.ay ef
   simp only [aw] at ef
   subst ef
   simp only [fC] at he hroom
   have he1:=cE he.1
   have he2:=cE he.2
   subst he1 he2
   have hmn:=cE hroom.1
   subst hmn
   have hroom:=hroom.2
   simp only [cw,fC] at hroom
   have hroom:room (m+1) y.bytes:=⟨eN hroom.1,eN hroom.2⟩
   obtain ⟨e',a',n',cap',h2,h3,h4,rfl⟩:=hc
   obtain ⟨q1,q2,xs,q3,Ks,hK,hfo,q4⟩:=h.roots r _ _ hlr h2
   have zd:n'=m:=by
    rcases q3.2 with ⟨q5,q6⟩|⟨g,cap2,cur,q5,_⟩
    all_goals grind
   subst zd
   rw [<- h3]
   obtain ⟨v',w',p1,p2,p3,p4⟩:=gx uL hk hy gk q3 h.size_le vz hl hcell h1 hroom ty
   have jQ:∀ b,e'.2.1.1.ownBlock=some b->bB E r b e'.2.2:=by
    intro b hb
    obtain ⟨e1,e2,e3⟩:=e'
    have q2:e1=e2.1.ownBlock:=q2
    have hb:e2.1.ownBlock=some b:=hb
    rw [hb] at q2
    subst q2
    exact ⟨e2,h2⟩
   have hKo:∀ k,e'.2.1.2 k->dt E r k e'.2.2:=λk hk=>⟨e',h2,rfl,.inr hk⟩
   have hxl:=q3.1
   have hl1:l'.length=y.size:=by rw [hrel.length,hl]; omega
   obtain ⟨E',h5,h6,h7⟩:=h.X9 hf (dead:=some r) (row:=e'.2.1.1.ownBlock) (n:=n'+1) (get:=get) (eI:=some (n',l'.map Fc.c)) (K:=e'.2.1.2) (Ks:=Ks) p3 p2 (λb hb=>⟨r,_,_,rfl,hlr,trivial,jQ b hb⟩) (λb hb=>p4 b hb)
    (λk hk=>⟨r,_,_,rfl,hlr,trivial,hKo k hk⟩)
    ⟨hK.sub,λi j b hb e=>by
     rcases p4 b e with p5|p5
     .exact hK.ne i j b hb p5.symm
     .have:=(h.dp r _ b _ hlr trivial (hKo b (hK.sub i j b hb))).2
      omega,hK.inj⟩
    (λx hx=>by grind)
    (λi j b hb=>p3.block b (h.dp r _ b _ hlr trivial (hKo b (hK.sub i j b hb))).2 λe=>hK.ne i j b hb e.symm)
    (λi hi j hj=>by
     unfold gy
     cases hb:Nat.beq i n' with
     | true=>
       have nA:=Nat.eq_of_beq_eq_true hb
       subst nA
       simp only [bz]
       have hjl:j<l'.length:=by omega
       have hx:=ib hjl
       obtain ⟨u,g1,g2⟩:=hrel.nth (i:=j) (x:=l'[j]) (by rw [bz]; exact hx)
       exact ⟨u,.c l'[j],by grind,by grind,g2⟩
     | false=>
       have qG:i≠n':=λe=>by grind
       obtain ⟨u,c,g1,g2,g3⟩:=q4 i (by omega) j hj
       have eW:i*y.size+j<xs.length:=(List.getElem?_eq_some_iff.1 g1).1
       exact ⟨u,c,by grind,by simp only [hb]; exact g2,g3⟩)
   have hkill:kill (some r) s.rs=setAt s.rs r .dead:=by rw [bg]; rfl
   rw [hkill] at h5 h7
   refine ⟨v',w',E',p1,h6,h5,λd hd=>?_⟩
   simp only [eG,aw] at hd
   subst hd
   exact h7
 .simp at ef
theorem LN (h:R T N aA w0 sp s a w E) {b:Nat} (hf:mm s E b) {t el:TypeId} {y0 y:Ty} (uL:cC P t y0) (hk:y0.kd=.slice el) (hy:cC P el y) (gk:0<y.size)
  {k:Nat} {get':Nat->Nat->I} {c:C} {v:Value} (hc:bp E (AV aA s.rs E) w c v) {ao:Option Addr} {cap:Nat} (vz:ao=none->k=0) {news:List Value} (hl:news.length=k*y.size)
  (hcell:∀ ad,ao=some ad->∀ j u,news[j]?=some u->w.cell? (ad.add j)=some u) (h1:∀ u∈news,u.oneCell'=true) (hrel:∀ i,i<k->∀ j,j<y.size->∃ x,news[i*y.size+j]?=some x/\dw (AV aA s.rs E) w (get' i j) x)
  {e:cP} (ef:sW el y.size k get' y.bytes b s.rs c=some e) (ty:TypeId) :
  ∃ v' w' E',(Builtin.append_ #[t,t] ty #[v,.slice ao k cap]).run P w=.ok v' w'/\jy T N aA w0 sp s a w E b e v' w' E':=by
 unfold sW at ef
 split at ef
 .obtain ⟨rfl,_⟩:=hc
  obtain ⟨hroom,ef⟩:=Bool.ay ef
  simp only [aw] at ef
  subst ef
  simp only [cw,fC] at hroom
  have hroom:room k y.bytes:=⟨eN hroom.1,eN hroom.2⟩
  obtain ⟨v',w',q1,q2,q3,q4⟩:=gx uL hk hy gk (w.ownsRow_nil w0.base el y.size) h.size_le vz hl hcell h1 (by simpa using hroom) ty
  simp only [Nat.zero_add,List.nil_append] at q2
  obtain ⟨E',h4,h5,h6⟩:=h.ya hf (dead:=none) (row:=none) (n:=k) (get:=get') q3 q2 (λk hk=>by cases hk) (λk hk=>by
   grind [Value.ownBlock]) hrel
  refine ⟨v',w',E',q1,h5,h4,λd hd=>?_⟩
  simp only [eG,aw] at hd
  subst hd
  exact h6
 .rename_i r m
  split at ef
  case h_2=>simp at ef
  rename_i tN dE n get hlr
  rw [cx,bz] at hlr
  obtain ⟨he,ef⟩:=Bool.ay ef
  obtain ⟨hroom,ef⟩:=Bool.ay ef
  obtain ⟨hmn,ef⟩:=Bool.ay ef
  simp only [aw] at ef
  subst ef
  simp only [fC] at he
  have he1:=cE he.1
  have he2:=cE he.2
  subst he1 he2
  have hmn:=cE hmn
  subst hmn
  simp only [cw,fC] at hroom
  have hroom:room (m+k) y.bytes:=⟨eN hroom.1,eN hroom.2⟩
  obtain ⟨e',a',n',cap',h2,h3,h4,rfl⟩:=hc
  obtain ⟨q1,q2,xs,q3,q4⟩:=h.roots r _ _ hlr h2
  have zd:n'=m:=by
   rcases q3.2 with ⟨q5,q6⟩|⟨g,cap2,cur,q5,_⟩
   all_goals grind
  subst zd
  rw [<- h3]
  obtain ⟨v',w',p1,p2,p3,p4⟩:=gx uL hk hy gk q3 h.size_le vz hl hcell h1 hroom ty
  have jQ:∀ b,e'.2.1.1.ownBlock=some b->bB E r b e'.2.2:=by
   intro b hb
   obtain ⟨e1,e2,e3⟩:=e'
   have q2:e1=e2.1.ownBlock:=q2
   have hb:e2.1.ownBlock=some b:=hb
   rw [hb] at q2
   subst q2
   exact ⟨e2,h2⟩
  obtain ⟨E',h5,h6,h7⟩:=h.ya hf (dead:=some r) (row:=e'.2.1.1.ownBlock) (n:=n'+k) (get:=fZ n' get get') p3 p2 (λb hb=>⟨r,_,_,rfl,hlr,trivial,jQ b hb⟩) (λb hb=>p4 b hb) (λi hi j hj=>by
   have hxl:=q3.1
   rw [Z3]
   unfold app
   by_cases hin:i<n'
   .grind
   .obtain ⟨x,g1,g2⟩:=hrel (i-n') (by omega) j hj
    refine ⟨x,?_,by rw [if_neg hin]; exact g2⟩
    have e1:i*y.size+j=n'*y.size+((i-n')*y.size+j):=by
     have:i*y.size=n'*y.size+(i-n')*y.size:=by rw [<- Nat.add_mul]; congr 1; omega
     omega
    grind)
  have hkill:kill (some r) s.rs=setAt s.rs r .dead:=by rw [bg]; rfl
  rw [hkill] at h5 h7
  refine ⟨v',w',E',p1,h6,h5,λd hd=>?_⟩
  simp only [eG,aw] at hd
  subst hd
  exact h7
 .simp at ef
theorem J2 (bZ:dU P T) (h:R T N aA w0 sp s a w E) (hn:bT s.sl) {b:Nat} (hf:mm s E b) {ts:List TypeId} {xs:List Operand} {e:cP} (ef:rp T b s ts xs=some e) (ty:TypeId) :
  (∃ l,e=.cU l)∨∃ v' w' E',(Builtin.append_ ts.toArray ty (xs.map a.eval).toArray).run P w=.ok v' w'/\jy T N aA w0 sp s a w E b e v' w' E':=by
 unfold rp at ef
 split at ef
 case h_2=>simp at ef
 rename_i t t' x y'
 replace ef:=Bool.ay ef
 obtain ⟨ht,ef⟩:=ef
 have ht:=cE ht
 subst ht
 split at ef
 case h_2=>simp at ef
 rename_i Eb jL z0 el uL
 have uL:=bZ.ty _ _ uL
 split at ef
 .rename_i e' he'
  subst ef
  unfold sb at he'
  split at he'
  case h_2=>simp at he'
  rename_i c src hc hsrc
  split at he'
  case h_2=>simp at he'
  split at he'
  case h_2=>simp at he'
  rename_i y hy
  have hy:=bZ.ty _ _ hy
  simp only [aw] at he'
  unfold DK at he'
  have hc:=h.cF hn (cr hc)
  have hsrc:=h.cF hn (cr hsrc)
  split at he'
  .rename_i k get' hs
   obtain ⟨gk,he'⟩:=Bool.ay he'
   obtain ⟨ao,cap,hv2,vz,news,hl,hcell,h1,hrel⟩:=KV h hs hsrc
   simp only [List.map_cons,List.map_nil]
   rw [hv2]
   exact .inr (LN h hf uL rfl hy (bc gk) hc vz hl hcell h1 hrel he' ty)
  grind [qo]
 refine .inr ?_
 unfold qL at ef
 split at ef
 case h_2=>simp at ef
 rename_i y hy
 have hy:=bZ.ty _ _ hy
 split at ef
 case h_2=>simp at ef
 rename_i src hsrc
 have hsrc:=h.cF hn (cr hsrc)
 split at ef
 case h_2=>simp at ef
 rename_i sz k l' hs
 obtain ⟨ao,cap,hv2,vz,news,hl,hcell,h1,hrel⟩:=A4 h hs hsrc
 split at ef
 case h_2=>simp at ef
 rename_i c hc
 have hc:=h.cF hn (cr hc)
 simp only [List.map_cons,List.map_nil]
 rw [hv2]
 split at ef
 .
  have hnews:news=[]:=List.eq_nil_of_length_eq_zero (by simpa using hl)
  subst hnews
  replace ef:=Bool.ay ef
  obtain ⟨gk,ef⟩:=ef
  exact Co h hf uL rfl hy (bc gk) hc vz (by simp) (λ_ _ j u hj=>by simp at hj) (λu hu=>by cases hu) .nil ef ty
 .replace ef:=Bool.ay ef
  obtain ⟨ik,ef⟩:=ef
  simp only [fC] at ik
  have hsz1:=cE ik.1
  subst hsz1
  exact Co h hf uL rfl hy (bc ik.2) hc vz hl hcell h1 hrel ef ty
end
noncomputable section
def pH (acc:List Nat) (l:List Edge):Nat->Nat:=List.rec (λm=>m) (λe _ ih m=>Bool.rec (ih m) (ih (Nat.lor (Nat.lor (Nat.shiftLeft 1 e.on) m) (match bh acc e.on with
 | some x=>x
 | none=>0))) (Region.binds .any e)) l
def jT (l:List Oper):List Nat->List Nat:=List.rec (λacc=>acc) (λo _ ih acc=>ih (acc++[pH acc o.after.toList 0])) l
def rl (t:Tmp) (l:List Oper):Nat->Option Nat:=List.rec (λ_=>none) (λo _ ih k=>match o.dst with
 | some t'=>Bool.rec (ih (k+1)) (some k) (Nat.beq t t')
 | none=>ih (k+1)) l
def N1 (ops:List Oper) (m:Nat) (t:Tmp):Bool:=match rl t ops 0 with
 | some j=>Nat.testBit m j
 | none=>true
def uC (ops:List Oper) (m:Nat) (l:List Operand):Bool:=List.rec true (λx _ ih=>match x with
 | .tmp t=>Bool.rec false ih (N1 ops m t)
 | _=>ih) l
def E5 (m:Nat) (g:Option (Nat×Bool)):Bool:=match g with
 | some (j,_)=>Nat.testBit m j
 | none=>true
def Mg (ops l:List Oper):List Nat->Bool:=List.rec (λ_=>true) (λo _ ih ms=>match ms with
 | m::ms=>Bool.rec false (ih ms) (E5 m o.guard&&uC ops m o.op.operands.toList)
 | []=>false) l
def JW (t:Tmp) (l:List Oper):Bool:=match rl t l 0 with
 | some _=>false
 | none=>true
def H6 (l:List Oper):Bool:=List.rec true (λo l ih=>match o.dst with
 | some t=>Bool.rec false ih (JW t l)
 | none=>ih) l
def Eg (l:List Nat):Nat->Bool:=List.rec (λ_=>true) (λm _ ih i=>Bool.rec false (ih (i+1)) (Nat.blt m (Nat.shiftLeft 1 i))) l
def vn (ops:List Oper):Bool:=H6 ops&&(Mg ops ops (jT ops [])&&Eg (jT ops []) 0)
def LY (c:Callee):Nat:=match c with
 | .builtin .append=>1
 | .value _=>1
 | _=>0
def eL (op:Op):Nat:=match op with
 | .box _ _=>1
 | .alloc _=>1
 | .buildSlice _ _ _=>1
 | .makeMap _ _=>1
 | .makeSlice _ _ _=>1
 | .call c=>LY c.callee
 | _=>0
def eH (l:List Oper):Nat:=List.rec 0 (λo _ ih=>eL o.op+ih) l
structure l3 where
 dst:Option Tmp
 val:Option D
 ws:List (Nat×ah)
 al:Option (List ah)
 ex:Bool:=false
def BW (s:VS) (dst:Option Tmp) (d:Option D):VS:=match dst with
 | some t=>match d with
   | some d=>{ s with sl:=(t,d,[])::s.sl }
   | none=>s
 | none=>s
def D4 (al:Option (List ah)) (rs:List ah):List ah:=match al with
 | some aV=>aV
 | none=>rs
def l3.on (u:l3) (s:VS):VS:=BW { s with rs:=writes u.ws (D4 u.al s.rs) } u.dst u.val
def GA (N:Nat) (dst:Option Tmp) (d:Option D):Bool:=match dst with
 | some t=>match d with
   | some _=>Nat.blt t N
   | none=>false
 | none=>true
inductive Fst where
 | cU (l:List Nat)
 | ok (u:l3)
def VC (i m:Nat) (cJ:List Nat):Nat->Bool:=List.rec (λ_=>true) (λx _ ih k=>Bool.rec false (ih (k+1)) (Nat.beq k i||(Nat.testBit m k||Nat.testBit x i))) cJ
def HC (cJ:List Nat) (i:Nat):Bool:=match bh cJ i with
 | some m=>VC i m cJ 0
 | none=>false
def eqV (x y:Value):Bool:=match x,y with
 | .int .i64 a,.int .i64 b=>a==b
 | .bool a,.bool b=>Pl a b
 | _,_=>false
def VG (x y:C):Bool:=match x,y with
 | .im (.v a),.im (.v b)=>eqV a b
 | .rt r i j,.rt r' i' j'=>Nat.beq r r'&&(Nat.beq i i'&&Nat.beq j j')
 | .sa r m,.sa r' m'=>Nat.beq r r'&&Nat.beq m m'
 | .mp r,.mp r'=>Nat.beq r r'
 | _,_=>false
def as9 (l:List C):List C->Bool:=List.rec (λm=>match m with
 | []=>true
 | _=>false) (λx _ ih m=>match m with
 | y::m=>Bool.rec false (ih m) (VG x y)
 | []=>false) l
def T2 (x y:ah):Bool:=match x,y with
 | .dead,.dead=>true
 | .box l,.box m=>as9 l m
 | _,_=>false
def zc (n:Nat) (l:List Nat):Bool:=List.rec true (λr _ ih=>Bool.rec false ih (Nat.blt r n)) l
def xH (n:Nat) (x:C):Bool:=match x with
 | .im _=>true
 | .rt r _ _=>Nat.blt r n
 | .sa r _=>Nat.blt r n
 | .mp r=>Nat.blt r n
 | .yl r=>Nat.blt r n
 | .ow r _=>Nat.blt r n
 | .fL _ l=>zc n l
def jm (n:Nat) (l:List C):Bool:=List.rec true (λx _ ih=>Bool.rec false ih (xH n x)) l
def Av (n:Nat) (x:Fc):Bool:=match x with
 | .c x=>xH n x
 | .o _=>true
def w9 (n:Nat) (l:List Fc):Bool:=List.rec true (λx _ ih=>Bool.rec false ih (Av n x)) l
def iE (n:Nat) (x:ah):Bool:=match x with
 | .dead=>true
 | .box l=>jm n l
 | .row _ _ _ l=>jm n l
 | .arr _ _ _ _=>true
 | .bo _ _ _ _ none=>true
 | .own _=>true
 | .bo _ _ _ _ (some x)=>w9 n x.2
 | .set _=>true
 | .mi=>true
 | _=>false
def DM (n:Nat) (l:List (Bool×List C)):Bool:=List.rec true (λx _ ih=>Bool.rec false ih (jm n x.2)) l
def kf (n:Nat) (d:D):Bool:=match d with
 | .c x=>xH n x
 | .a l=>jm n l
 | .t l=>DM n l
def zl (n:Nat) (rs:List ah):List ah->Nat->Option (List (Nat×ah)):=List.rec (λ_ _=>some []) (λx _ ih aV k=>match aV with
 | y::aV=>Bool.rec (Bool.rec none (match ih aV (k+1) with
   | some ws=>some ((k,y)::ws)
   | none=>none) (iE n y)) (ih aV (k+1)) (T2 x y)
 | []=>none) rs
def RZ (lo:Lo) (dst:Option Tmp) (d:D) (rs aV:List ah):Option Fst:=match lo.diff rs aV with
 | some ws=>Bool.rec none (some (.ok ⟨dst,some d,ws,none,true⟩)) (kf rs.length d)
 | none=>none
def ua (lo:Lo) (rs:List ah) (cJ:List Nat) (i:Nat) (dst:Option Tmp) (e:Option cP):Option Fst:=match e with
 | some (.val d)=>some (.ok ⟨dst,some d,[],none,false⟩)
 | some (.wr d ws)=>some (.ok ⟨dst,d,ws,none,false⟩)
 | some (.cU l)=>some (.cU l)
 | some (.all d aV)=>Bool.rec (RZ lo dst d rs aV) (some (.ok ⟨dst,some d,[],some aV,false⟩)) (HC cJ i)
 | none=>none
def lP (T:ec) (lo:Lo) (hi:Hint) (cJ:List Nat) (i b:Nat) (ops:List Oper) (s:VS) (o:Oper):Option Fst:=match nW ops s.sl o.guard with
 | some true=>ua lo s.rs cJ i o.dst (gC T lo hi b s o.dst o.op)
 | some false=>some (.ok ⟨o.dst,some (.t []),[],none,false⟩)
 | none=>none
inductive If where
 | cU (l:List Nat)
 | ok (W:List (Nat×List Nat)) (s:VS)
def I2 (k:Nat) (u:l3) (W:List (Nat×List Nat)):List (Nat×List Nat):=match u.ws with
 | []=>W
 | ws=>W++[(k,ws.map (·.1))]
def ng (T:ec) (lo:Lo) (hi:Hint) (N:Nat) (cJ:List Nat) (ops l:List Oper):Nat->Nat->List (Nat×List Nat)->VS->Option If:=List.rec (λ_ _ W s=>some (.ok W s)) (λo _ ih k b W s=>
 match lP T lo hi cJ k b ops s o with
 | some (.ok u)=>Bool.rec none (ih (k+1) (b+eL o.op) (I2 k u W) (u.on s)) (GA N u.dst u.val)
 | some (.cU c)=>some (.cU c)
 | none=>none) l
def eK (cJ:List Nat) (i m:Nat) (W:List (Nat×List Nat)):List Nat:=List.rec [] (λw _ ih=>
 Bool.rec (w.2++ih) ih (Nat.beq w.1 i||(Nat.testBit m w.1||(match bh cJ w.1 with
  | some x=>Nat.testBit x i
  | none=>false)))) W
def Bn (l:List Nat) (rs:List ah):List ah:=List.rec (λrs=>rs) (λq _ ih rs=>ih (setAt rs q .dead)) l rs
def qj (n:Nat) (l:List Nat):Bool:=List.rec false (λx _ ih=>Bool.rec ih true (Nat.beq x n)) l
def oB (l m:List Nat):Bool:=List.rec true (λx _ ih=>Bool.rec ih false (qj x m)) l
def py (k:Nat) (W:List (Nat×List Nat)):List Nat:=match findF k W with
 | some l=>l
 | none=>[]
def El (l m:List Nat):Bool:=List.rec true (λx _ ih=>Bool.rec false ih (qj x m)) l
def YR (l:List Nat) (s:VS):VS:=match l with
 | []=>s
 | _=>{ s with rs:=Bn l s.rs }
def Xc (ex:Bool) (l:List Nat):Bool:=match ex with
 | false=>true
 | true=>match l with
   | []=>true
   | _=>false
def lj (T:ec) (lo:Lo) (hi:Hint) (N:Nat) (ops:List Oper) (cJ:List Nat) (W:List (Nat×List Nat)) (l:List Oper):List Nat->Nat->Nat->VS->Option VS:=List.rec (λ_ _ _ s=>some s) (λo _ ih ms i b s=>
 match ms with
 | m::ms=>match lP T lo hi cJ i b ops (YR (eK cJ i m W) s) o with
   | some (.ok u)=>Bool.rec none (ih ms (i+1) (b+eL o.op) (u.on s)) (GA N u.dst u.val&&(El (u.ws.map (·.1)) (py i W)&&(oB (u.ws.map (·.1)) (eK cJ i m W)&&Xc u.ex (eK cJ i m W))))
   | _=>none
 | []=>none) l
def gb (ops:List Oper) (s:VS):VS:={ s with rs:=s.rs++List.replicate (eH ops) .dead }
def CD (T:ec) (lo:Lo) (hi:Hint) (N:Nat) (ops:List Oper) (s0 s':VS) (b:Nat) (W:List (Nat×List Nat)):Option VS:=match W with
 | []=>some s'
 | _=>lj T lo hi N ops (jT ops []) W ops (jT ops []) 0 b s0
def Af (T:ec) (lo:Lo) (hi:Hint) (N:Nat) (ops:List Oper) (n:Nat):VS->Option VS:=Nat.rec (λ_=>none) (λ_ ih s=>
 match ng T lo hi N (jT ops []) ops ops 0 s.rs.length [] (gb ops s) with
 | some (.cU l)=>match ie l s with
   | some s'=>ih s'
   | none=>none
 | some (.ok W s')=>CD T lo hi N ops (gb ops s) s' s.rs.length W
 | none=>none) n
def uK (hi:Hint) (f:FuncId) (id:Nat) (s:VS):VS:=match hi.aM8 f id with
 | some l=>{ s with sl:=xa s.sl l }
 | none=>s
def regionF (T:ec) (lo:Lo) (hi:Hint) (N:Nat) (f:FuncId) (ro:Option Nat) (id:Nat) (ops:List Oper) (draw:Bool) (s:VS):Option VS:=match draw with
 | false=>match Pv T lo hi N ops ops s with
   | some s'=>some (uK hi f id s')
   | none=>none
 | true=>match ro with
   | some _=>none
   | none=>match vn ops with
     | true=>match Af T lo hi N ops 8 s with
       | some s'=>some (uK hi f id s')
       | none=>none
     | false=>none
def wC (ro:Option Nat) (s:VS):Option VS:=match ro with
 | some r=>match bh s.rs r with
   | some (.loop g M sl ps as bd .ready none)=>some { s with rs:=setAt s.rs r (.loop g M sl ps as bd .busy none) }
   | _=>none
 | none=>none
def ru (lo:Lo) (N:Nat) (f:FuncId) (ro:Option Nat) (g:Operand) (ps:List Tmp) (as b:Code) (s:VS):Option (Option Code×VS):=match ro with
 | some _=>none
 | none=>match dJ (cF s.sl g) with
   | some c=>match rD c with
     | some (h,eO)=>match lo.call h (.c (.yl (s.rs.length+1))::eO) (s.rs++[.mi,.loop f N s.sl ps as b .ready none]) with
       | some (_,aV)=>match bh aV (s.rs.length+1) with
         | some (.loop _ _ _ _ _ _ .ready none)=>some (none,{ s with rs:=setAt aV (s.rs.length+1) .dead,df:=s.rs.length::s.df })
         | some (.loop _ _ _ _ _ _ .done (some c))=>some (some c,{ s with rs:=setAt aV (s.rs.length+1) .dead,df:=s.rs.length::s.df })
         | _=>none
       | none=>none
     | none=>none
   | none=>none
def Dd (j:Option Code) (k:List Item):List Item:=match j with
 | some c=>.code c::k
 | none=>k
def BK (T:ec) (lo:Lo) (hi:Hint) (N:Nat) (f:FuncId) (ro:Option Nat) (n:Nat):List Item->VS->Option (Option Code×VS):=Nat.rec (λ_ _=>none) (λ_ ih todo s=>match todo with
 | []=>some (none,s)
 | x::k=>match x with
   | .inBlock _=>ih k s
   | .inLoop c=>ih (.code c::.inLoop c::k) s
   | .beginRound=>match wC ro s with
     | some s'=>ih k s'
     | none=>none
   | .code c=>match c with
     | .skip=>ih k s
     | .label _=>ih k s
     | .ret=>some (some .ret,s)
     | .seq a b=>ih (.code a::.code b::k) s
     | .cond c a b=>match jU (cF s.sl c) with
       | some p=>ih (.code (Bool.rec b a p)::k) s
       | none=>none
     | .block id c=>ih (.code c::.inBlock id::k) s
     | .loop c=>ih (.code c::.inLoop c::k) s
     | .exit id=>match exitTo id k with
       | some k'=>ih k' s
       | none=>some (some (.exit id),s)
     | .region id ops draw=>match regionF T lo hi N f ro id ops.toList draw s with
       | some s'=>ih k s'
       | none=>none
     | .rangeFunc g ps as b=>match ru lo N f ro g ps.toList as b s with
       | some (j,s')=>ih (Dd j k) s'
       | none=>none
     | _=>none
   | _=>none) n
def Sk (l:List Nat):List ah->Option (List ah):=List.rec (λrs=>some rs) (λr _ ih rs=>match bh rs r with
 | some .mi=>ih (setAt rs r .dead)
 | _=>none) l
def yC (T:ec) (s:VS) (x:ResultVar):Option (Bool×List C):=match (match x with
  | .tmp t=>eT s.sl t
  | .cell ad t=>l7 T s t (.tmp ad)) with
 | some (.c x)=>some (false,[x])
 | some (.a l)=>some (true,l)
 | _=>none
def Fj (T:ec) (s:VS) (l:List ResultVar):Option (List (Bool×List C)):=List.rec (some []) (λx _ ih=>match yC T s x,ih with
 | some q,some l=>some (q::l)
 | _,_=>none) l
def as4 (T:ec) (s:VS) (l:List ResultVar):Option D:=match Fj T s l with
 | some [(false,[x])]=>some (.c x)
 | some [(true,l)]=>some (.a l)
 | some l=>some (.t l)
 | none=>none
def Sw (T:ec) (s:VS) (l:List ResultVar):Option (D×List ah):=match Sk s.df s.rs with
 | some rs=>match as4 T { s with rs:=rs } l with
   | some d=>some (d,rs)
   | none=>none
 | none=>none
def Vh (j:Option Code):Bool:=match j with
 | none=>true
 | some .ret=>true
 | _=>false
def Pp (N:Nat) (ps:List Tmp):List D->a8->Option a8:=List.rec (λds sl=>match ds with
 | []=>some sl
 | _=>none) (λt _ ih ds sl=>match ds with
 | d::ds=>Bool.rec none (ih ds ((t,d,[])::sl)) (Nat.blt t N)
 | []=>none) ps
def Vf (T:ec) (hi:Hint) (F:FuncId->Option Func) (fuel:Nat) (lo:Lo) (f:FuncId) (ds:List D) (rs:List ah):Option (D×List ah):=match F f with
 | some fn=>match fn.body with
   | some c=>Bool.rec none (match BK T lo hi fn.ntmps f none fuel [.code c] ⟨dF 0 ds,rs,[]⟩ with
     | some (j,s)=>Bool.rec none (Sw T s fn.results.toList) (Vh j)
     | none=>none) (Nat.ble ds.length fn.ntmps)
   | none=>none
 | none=>none
def Wi (T:ec) (hi:Hint) (F:FuncId->Option Func) (Kn:FuncId->Option D) (fuel:Nat) (lo:Lo) (f:FuncId) (ds:List D) (rs:List ah):Option (D×List ah):=match Kn f with
 | some d=>match ds with
   | []=>some (d,rs)
   | _=>none
 | none=>Vf T hi F fuel lo f ds rs
def FB (r:Nat) (j:Option Code) (s:VS):Option (D×List ah):=match s.df with
 | []=>match bh s.rs r with
   | some (.loop f N sl ps as bd .busy none)=>match j with
     | none=>some (bool true,setAt s.rs r (.loop f N sl ps as bd .ready none))
     | some c=>some (bool false,setAt s.rs r (.loop f N sl ps as bd .done (some c)))
   | _=>none
 | _=>none
def aG8 (T:ec) (hi:Hint) (fuel:Nat) (lo:Lo) (r:Nat) (ds:List D) (rs:List ah):Option (D×List ah):=match bh rs r with
 | some (.loop f N sl ps as bd .ready none)=>match Pp N ps ds sl with
   | some sl=>match BK T lo hi N f (some r) fuel [.code as,.beginRound,.code bd] ⟨sl,rs,[]⟩ with
     | some (j,s)=>FB r j s
     | none=>none
   | none=>none
 | _=>none
def loN (T:ec) (hi:Hint) (F:FuncId->Option Func) (Kn:FuncId->Option D) (fuel:Nat) (n:Nat):Lo:=Nat.rec ⟨λ_ _ _=>none,λ_ _ _=>none,λrs aV=>zl rs.length rs aV 0,λ_ _ _=>none⟩ (λ_ ih=>⟨Wi T hi F Kn fuel ih,aG8 T hi fuel ih,λrs aV=>zl rs.length rs aV 0,λ_ _ _=>none⟩) n
end
open Go.RowKit
structure Kept (E E':Env):Prop where
 le:Env.le E E'
 free:∀ q:Nat,E[q]?=some hole->E'[q]?=some hole
theorem Kept.refl (E:Env):Kept E E:=⟨Env.le_refl E,λ_ h=>h⟩
theorem Kept.trans {E F G:Env} (h:Kept E F) (k:Kept F G):Kept E G:=⟨h.le.trans k.le,λq e=>k.free q (h.free q e)⟩
theorem Kept.NZ {E E':Env} {b:Nat} (h:ot b E E') (hb:E.length<=b):Kept E E':=⟨h.le,λq e=>h.free q (λhq=>by
 grind) e⟩
theorem Kept.az5 {E E':Env} (h:Kept E E') (b:Nat):ot b E E':=⟨h.le,λq _=>h.free q⟩
def QX (diff:List ah->List ah->Option (List (Nat×ah))):Prop:=∀ rs aV ws,diff rs aV=some ws->∀ (q:Nat) (x:ah),(writes ws rs)[q]?=some x->aV[q]?=some x/\(rs[q]?=some x∨iE rs.length x=true)
structure iv (T:ec) (P:Program) (lo:Lo):Prop where
 call:∀ f ds rs d aV,lo.call f ds rs=some (d,aV)->Enters P f/\∀ (N:Nat) (aA:Nat->Prop) (w0:Kp) (sp:List (D×Value)) (sl:a8) (df:List Nat) (a:Act) (w:World) (E:Env) (vs:List Value),R T N aA w0 sp ⟨sl,rs,df⟩ a w E->aF (bj E (AV aA rs E) w) ds vs->
  Go.Calls P f vs.toArray w λe w'=>∃ v E',e=.returned v/\Kept E E'/\R T N aA w0 sp ⟨sl,aV,df⟩ a w' E'/\bj E' (AV aA aV E') w' d v
 Wl:∀ r ds rs d aV,lo.Wl r ds rs=some (d,aV)->∀ (N:Nat) (aA:Nat->Prop) (w0:Kp) (sp:List (D×Value)) (sl:a8) (df:List Nat) (a:Act) (w:World) (E:Env) (vs:List Value),R T N aA w0 sp ⟨sl,rs,df⟩ a w E->aF (bj E (AV aA rs E) w) ds vs->
  ∃ b sz f tm as bd,bB E r b sz/\(Instr.yield b vs.toArray).run P w=.ok (.round b f tm as bd) w/\
   BC P b f tm as bd w λv w'=>∃ E',Kept E E'/\R T N aA w0 sp ⟨sl,aV,df⟩ a w' E'/\bj E' (AV aA aV E') w' d v
 diff:QX lo.diff
 wr:∀ f ds rs d q x,lo.wr f ds rs=some (d,q,x)->Enters P f/\∀ (N:Nat) (aA:Nat->Prop) (w0:Kp) (sp:List (D×Value)) (sl:a8) (df:List Nat) (a:Act) (w:World) (E:Env) (vs:List Value),R T N aA w0 sp ⟨sl,rs,df⟩ a w E->aF (bj E (AV aA rs E) w) ds vs->
  Go.Calls P f vs.toArray w λe w'=>∃ v E',e=.returned v/\Kept E E'/\R T N aA w0 sp ⟨sl,place q x rs,df⟩ a w' E'/\bj E' (AV aA (place q x rs) E') w' d v
 mono:∀ f ds rs rT r,rs.length=rT.length->(∀ (q:Nat) (x:ah),bh rs q=some x->x.live->bh rT q=some x)->lo.wr f ds rs=some r->lo.wr f ds rT=some r
section
variable {P:Program} {T:ec} {lo:Lo} {hi:Hint} {N:Nat} {aA:Nat->Prop} {w0:Kp} {sp:List (D×Value)} {s:VS} {a:Act} {w:World} {E:Env}
theorem R.none {av:Nat->Prop} (fa:∀ b,av b->b<w.heap.size) (hg:sq T av w):R T 0 av (Kp.of w) [] ⟨[],[],[]⟩ { tmps := #[],defers:=[] } w []:=
 ⟨rfl,.nil,λ_ hx=>(by cases hx),Kp.holds_of (Below.refl _ _),rfl,λb q=>⟨fa b q,λq=>q⟩,λr x e h1=>(by simp at h1),λr x b sz h1=>(by simp at h1),λr r' x x' b sz dE h1=>(by simp at h1),λt d c h1=>(by simp [look] at h1),hg.mono (bl.refl _ w) (λb _ q=>q.elim id λ⟨r,x,sz,h1,_⟩=>by simp at h1)⟩
theorem vS {av:Nat->Prop}:∀ b,AV av [] [] b↔av b:=λb=>⟨λq=>q.elim id λ⟨r,x,sz,h1,_⟩=>by simp at h1,.inl⟩
theorem iv.pure (hl:iv T P lo) {f:FuncId} {is:List D} {d:D} {aV:List ah} (e:lo.call f is []=some (d,aV)) {d':D} (e':dZ aV d=some d'):Hc T P f is d':=by
 intro av w vs fa hgl xG
 have h0:=(hl.call f is [] d aV e).2 0 av (Kp.of w) [] [] [] _ w [] vs (R.none fa hgl) (xG.mono λ_ _ q=>bj.mono (Env.le_refl []) (bl.refl _ w) (λb _ q=>(vS b).1 q) q)
 refine h0.mono ?_
 rintro e w' ⟨v,E',rfl,_,hR,hd⟩
 exact ⟨v,rfl,tA hR (kS.outer hR) e' hd,hR.below.below⟩
theorem bh4 (hl:iv T P lo):aj2 T P ⟨λf is=>match lo.call f is [] with
  | some (d,aV)=>match dZ aV d with
    | some d'=>some (none,d')
    | none=>none
  | none=>none,λ_ _ _=>none,λ_ _ _=>none⟩ where
 pur f ds p d e:=by
  simp only at e
  split at e
  case h_2=>simp at e
  rename_i d0 aV h1
  split at e
  case h_2=>simp at e
  rename_i d' h2
  simp only [aw,bN] at e
  obtain ⟨rfl,rfl⟩:=e
  exact ⟨(hl.call _ _ _ _ _ h1).1,λ_=>hl.pure h1 h2⟩
 eff _ _ _ _ _ _ e:=by simp at e
 Wl _ _ _ _ _ _ e:=by simp at e
theorem Be (hl:iv T P lo) (h:R T N aA w0 sp s a w E) {f:FuncId} {ds:List D} {d:D} (e:B6 lo s.rs f ds=some d) (hs:(fA ds||jc d)=true) (hd:og d=true) {vs:List Value} (hv:aF (bj E (AV aA s.rs E) w) ds vs) :
  Enters P f/\Go.Calls P f vs.toArray w λe w'=>∃ v,e=.returned v/\Below w.heap.size w w'/\bj E (AV aA s.rs E) w' d v:=by
 unfold B6 at e
 split at e
 case h_2=>simp at e
 rename_i is hi
 split at e
 case h_2=>simp at e
 rename_i d0 aV h1
 have hc:=bh4 hl
 have hp:(match lo.call f is [] with
  | some (d,aV)=>match dZ aV d with
    | some d'=>some ((none:Option Prop),d')
    | none=>none
  | none=>none)=some (none,d):=by rw [h1]; simp only [e]
 exact ⟨(hl.call _ _ _ _ _ h1).1,Vg hc h hi hp trivial hs hd hv⟩
def kj (T:ec) (P:Program) (N:Nat) (aA:Nat->Prop) (w0:Kp) (sp:List (D×Value)) (s:VS) (a:Act) (w:World) (E:Env) (b:Nat) (e:cP) (f:FuncId) (vs:List Value):Prop:=
 Enters P f/\Go.Calls P f vs.toArray w λen w'=>∃ v E',en=.returned v/\jy T N aA w0 sp s a w E b e v w' E'
theorem jy.Cr (h:R T N aA w0 sp s a w E) {b:Nat} {d:D} {v:Value} {w':World} (hb:Below w.heap.size w w') (hd:bj E (AV aA s.rs E) w' d v):jy T N aA w0 sp s a w E b (.val d) v w' E:=
 ⟨ot.refl _ _,h.grown hb,λd' sj=>by simp only [eG,aw] at sj; subst sj; exact hd⟩
theorem pg {rs:List ah} {ds:List D} {e e':cP} (h:kq rs ds e=some e'):(∃ l,e'=.cU l)∨(e'=e/\xf rs ds=some []):=by
 grind [kq]
theorem mw:∀ {l:List C},fo l=true->fU l=true
 | [],_=>rfl
 | c::l,h=>by
   cases c with
   | im x=>cases x with
     | v x=>simp only [fo] at h; simp only [fU]; exact mw h
     | _=>simp [fo] at h
   | _=>simp [fo] at h
theorem xi {d:D} (h:jc d=true):og d=true:=by
 cases d with
 | c x=>exact mw (l:=[x]) h
 | a l=>exact mw h
 | t l=>grind [jc,og,mw]
theorem oo {rec:List C->Option (List Nat)} {rs:List ah}:∀ {l:List C},Ic rec rs l=some []->fU l=true
 | [],_=>rfl
 | x::l,h=>by
   have h:(match aw0 rec rs x with
    | some a=>match Ic rec rs l with
      | some b=>some (a++b)
      | none=>none
    | none=>none)=some []:=h
   split at h
   case h_2=>simp at h
   rename_i m hm
   split at h
   case h_2=>simp at h
   rename_i k hk
   simp only [aw,List.append_eq_nil_iff] at h
   obtain ⟨rfl,rfl⟩:=h
   unfold aw0 at hm
   split at hm
   .simp only [fU]; exact oo hk
   .split at hm
    .split at hm
     all_goals simp_all
    all_goals grind
   .simp at hm
theorem rR {rs:List ah}:∀ {ds:List D},xf rs ds=some []->fA ds=true
 | [],_=>rfl
 | d::ds,h=>by
   have h:(match KL rs d,xf rs ds with
    | some a,some b=>some (a++b)
    | _,_=>none)=some []:=h
   split at h
   case h_2=>simp at h
   rename_i m k hm hk
   simp only [aw,List.append_eq_nil_iff] at h
   obtain ⟨rfl,rfl⟩:=h
   have hd:og d=true:=by
    cases d with
    | c x=>exact oo (l:=[x]) hm
    | a l=>exact oo hm
    | t l=>simp [KL] at hm
   simp only [fA,hd]
   exact rR hk
theorem ud (hl:iv T P lo) (h:R T N aA w0 sp s a w E) {b:Nat} {f:FuncId} {ds:List D} {e:cP} (ef:iC lo s.rs f ds=some e) {vs:List Value} (hv:aF (bj E (AV aA s.rs E) w) ds vs) :
  (∃ l,e=.cU l)∨kj T P N aA w0 sp s a w E b e f vs:=by
 unfold iC at ef
 split at ef
 case h_2=>simp at ef
 rename_i d hd
 have fin:(fA ds||jc d)=true->og d=true->kj T P N aA w0 sp s a w E b (.val d) f vs:=λh1 h2=>by
  obtain ⟨h3,h4⟩:=Be hl h hd h1 h2 hv
  refine ⟨h3,h4.mono ?_⟩
  rintro en w' ⟨v,rfl,hb,hr⟩
  exact ⟨v,E,rfl,jy.Cr h hb hr⟩
 cases hp:jc d with
 | true=>
   rw [hp] at ef
   grind [xi]
 | false=>
   rw [hp] at ef
   grind [Bool.ay,kq,rR]
theorem AB (hl:iv T P lo) (h:R T N aA w0 sp s a w E) {b:Nat} {f:FuncId} {ds:List D} {e:cP} (ef:wo lo s.rs f ds=some e) {vs:List Value} (hv:aF (bj E (AV aA s.rs E) w) ds vs) :
  kj T P N aA w0 sp s a w E b e f vs:=by
 unfold wo at ef
 split at ef
 case h_2=>simp at ef
 rename_i d aV hd
 simp only [aw] at ef
 subst ef
 obtain ⟨h1,h2⟩:=hl.call _ _ _ _ _ hd
 refine ⟨h1,(h2 N aA w0 sp s.sl s.df a w E vs h hv).mono ?_⟩
 rintro en w' ⟨v,E',rfl,hk,hR,hr⟩
 exact ⟨v,E',rfl,hk.az5 b,hR,λd' sj=>by simp only [eG,aw] at sj; subst sj; exact hr⟩
theorem OQ (hl:iv T P lo) (h:R T N aA w0 sp s a w E) {b:Nat} {f:FuncId} {ds:List D} {e:cP} (ef:Yb lo s.rs f ds=some e) {vs:List Value} (hv:aF (bj E (AV aA s.rs E) w) ds vs) :
  kj T P N aA w0 sp s a w E b e f vs:=by
 unfold Yb at ef
 split at ef
 case h_2=>simp at ef
 rename_i d q x hd
 replace ef:=(Bool.ay ef).2
 simp only [aw] at ef
 subst ef
 obtain ⟨h1,h2⟩:=hl.wr _ _ _ _ _ _ hd
 refine ⟨h1,(h2 N aA w0 sp s.sl s.df a w E vs h hv).mono ?_⟩
 rintro en w' ⟨v,E',rfl,hk,hR,hr⟩
 exact ⟨v,E',rfl,hk.az5 b,hR,λd' sj=>by simp only [eG,aw] at sj; subst sj; exact hr⟩
theorem mc {w w':World} (h:Below w.heap.size w w'):w.grownBy w' none:=⟨h.os,h.tape,h.output,h.size,λk hk _=>h.block k hk⟩
theorem oe {rs:List ah} {f:FuncId} {ds:List D} {b:Nat} {d:Option D} {ws:List (Nat×ah)} (e:AA lo rs f ds b=some (.wr d ws)) :
  (∃ is q n aV el sz l,dK rs ds=some is/\lo.call f is []=some (.c (.sa q n),aV)/\nth aV q=some (.row el sz n l)/\fU l=true/\d=some (.c (.sa b n))/\ws=[(b,.row el sz n l)]) ∨
  (∃ is q n aV el sz get,dK rs ds=some is/\lo.call f is []=some (.c (.sa q n),aV)/\nth aV q=some (.arr el sz n get)/\d=some (.c (.sa b n))/\ws=[(b,.arr el sz n get)]):=by
 grind [AA,Bool.ay,cE,cx]
theorem AF {E E':Env} {av dx:Nat->Prop} {w w':World} (hk:bl av w w') (ha:∀ b,b<w.heap.size->dx b->av b):∀ {l:List C} {xs:List Value},fU l=true->aF (bp E av w) l xs->aF (bp E' dx w') l xs
 | [],_,_,.nil=>.nil
 | c::l,_,h,.cons q k=>by
   cases c with
   | im x=>exact .cons (dw.mono (x:=x) hk ha q) (AF hk ha (by simpa [fU] using h) k)
   | _=>simp [fU] at h
theorem MJ (hl:iv T P lo) (h:R T N aA w0 sp s a w E) {b:Nat} (hf:mm s E b) {f:FuncId} {ds is:List D} {q n el sz:Nat} {aV:List ah} {l:List C} (hi:dK s.rs ds=some is)
  (hc:lo.call f is []=some (.c (.sa q n),aV)) (hq:nth aV q=some (.row el sz n l)) (hp:fU l=true) (hs:fo l=true∨fA ds=true) {vs:List Value} (hv:aF (bj E (AV aA s.rs E) w) ds vs) :
  kj T P N aA w0 sp s a w E b (.wr (some (.c (.sa b n))) [(b,.row el sz n l)]) f vs:=by
 obtain ⟨h1,h2⟩:=hl.call _ _ _ _ _ hc
 refine ⟨h1,?_⟩
 have avlt:∀ b,AV aA s.rs E b->b<w.heap.size:=by
  rintro b (q|⟨r,x,sz,h1,h2,h3⟩)
  .exact h.kr q
  .exact (h.dp r x b sz h1 h2 h3).2
 have key:∃ av:Nat->Prop,(∀ b,av b->b<w.heap.size)/\sq T av w/\aF (bj [] av w) is vs/\(fo l=true∨∀ k,AV aA s.rs E k->av k):=by
  rcases hs with hs|hs
  .exact ⟨λ_=>False,λ_ q=>q.elim,h.gP.mono (bl.refl _ w) (λ_ _ q=>q.elim),qH h (kS.none aA s E) hi hv,.inl hs⟩
  .exact ⟨AV aA s.rs E,avlt,h.gP,jG hs hi hv,.inr λ_ q=>q⟩
 obtain ⟨av,fa,hgl,xG,hcase⟩:=key
 refine (h2 0 av (Kp.of w) [] [] [] _ w [] vs (R.none fa hgl) (xG.mono λ_ _ q=>bj.mono (Env.le_refl []) (bl.refl _ w) (λb _ q=>(vS b).1 q) q)).mono ?_
 rintro en w' ⟨v,E1,rfl,_,hR,hd⟩
 obtain ⟨e0,ao,n',cap,g1,g2,g3,rfl⟩:=hd
 rw [bz] at hq
 obtain ⟨r1,r2,xs,r3,r4⟩:=hR.roots q _ _ hq g1
 have hvn:e0.2.1.1=.slice ao n cap:=by
  rcases r3.2 with ⟨q5,q6⟩|⟨g,cap2,cur,q5,_⟩
  all_goals grind
 have hb:=hR.below.below
 have eP:w'.ownsRow w0.base el sz (.slice ao n cap) n xs:=by
  rw [hvn] at r3
  refine ⟨r3.1,r3.2.imp id ?_⟩
  rintro ⟨g,cap2,cur,q5,q6,q7⟩
  exact ⟨g,cap2,cur,q5,cT h.size_le q6,q7⟩
 have kh:∀ k,(Value.slice ao n cap).ownBlock=some k->w.heap.size<=k/\k<w'.heap.size/\bB E1 q k e0.2.2:=by
  intro k hk
  have jQ:bB E1 q k e0.2.2:=by
   obtain ⟨e1,e2,e3⟩:=e0
   have r2:e1=e2.1.ownBlock:=r2
   have hvn:e2.1=_:=hvn
   rw [hvn,hk] at r2
   exact ⟨e2,by rw [g1,r2]⟩
  have:=hR.blk q _ k e0.2.2 hq trivial jQ
  exact ⟨this.1.base,this.2,jQ⟩
 obtain ⟨E',h4,h5,h6,h7⟩:=h.make hf (dead:=Option.none) (x:=.row el sz n l) (e:=((Value.slice ao n cap).ownBlock,oE (.slice ao n cap),sz)) (w':=w') (row:=Option.none) (mc hb) (λk hk=>by cases hk)
  (λk hk=>.inr (kh k hk).1) (λk hk=>(kh k hk).2.1) (λE' dx hE bi5 ub hk=>⟨rfl,rfl,xs,eP,by
   rcases hcase with JA|hcase
   .exact j3 JA r4
   .refine AF (bl.refl _ w') (λk qD q=>?_) hp r4
    rcases ub k q with q|q
    .exact .inl (hcase k q)
    .exact .inr ⟨_,_,_,hq,trivial,(kh k (q.resolve_right λq=>q)).2.2.own⟩⟩)
 .refine ⟨_,E',rfl,h6,h4,λd hd=>?_⟩
  simp only [eG,aw] at hd
  subst hd
  rcases eP.2 with ⟨q5,q6⟩|⟨g,cap2,cur,q5,_⟩
  .exact ⟨_,ao,n,cap,h5,rfl,bF _,rfl⟩
  .exact ⟨_,ao,n,cap,h5,rfl,bF _,rfl⟩
theorem ag2 (hl:iv T P lo) (h:R T N aA w0 sp s a w E) {b:Nat} (hf:mm s E b) {f:FuncId} {ds is:List D} {q n el sz:Nat} {aV:List ah} {get:Nat->Nat->I} (hi:dK s.rs ds=some is)
  (hc:lo.call f is []=some (.c (.sa q n),aV)) (hq:nth aV q=some (.arr el sz n get)) (hs:fA ds=true) {vs:List Value} (hv:aF (bj E (AV aA s.rs E) w) ds vs) :
  kj T P N aA w0 sp s a w E b (.wr (some (.c (.sa b n))) [(b,.arr el sz n get)]) f vs:=by
 obtain ⟨h1,h2⟩:=hl.call _ _ _ _ _ hc
 refine ⟨h1,?_⟩
 have avlt:∀ b,AV aA s.rs E b->b<w.heap.size:=by
  rintro b (q|⟨r,x,sz,h1,h2,h3⟩)
  .exact h.kr q
  .exact (h.dp r x b sz h1 h2 h3).2
 have key:∃ av:Nat->Prop,(∀ b,av b->b<w.heap.size)/\sq T av w/\aF (bj [] av w) is vs/\(∀ k,AV aA s.rs E k->av k):=
  ⟨AV aA s.rs E,avlt,h.gP,jG hs hi hv,λ_ q=>q⟩
 obtain ⟨av,fa,hgl,xG,hcase⟩:=key
 refine (h2 0 av (Kp.of w) [] [] [] _ w [] vs (R.none fa hgl) (xG.mono λ_ _ q=>bj.mono (Env.le_refl []) (bl.refl _ w) (λb _ q=>(vS b).1 q) q)).mono ?_
 rintro en w' ⟨v,E1,rfl,_,hR,hd⟩
 obtain ⟨e0,ao,n',cap,g1,g2,g3,rfl⟩:=hd
 rw [bz] at hq
 obtain ⟨r1,r2,xs,r3,r4⟩:=hR.roots q _ _ hq g1
 have hvn:e0.2.1.1=.slice ao n cap:=by
  rcases r3.2 with ⟨q5,q6⟩|⟨g,cap2,cur,q5,_⟩
  all_goals grind
 have hb:=hR.below.below
 have eP:w'.ownsRow w0.base el sz (.slice ao n cap) n xs:=by
  rw [hvn] at r3
  refine ⟨r3.1,r3.2.imp id ?_⟩
  rintro ⟨g,cap2,cur,q5,q6,q7⟩
  exact ⟨g,cap2,cur,q5,cT h.size_le q6,q7⟩
 have kh:∀ k,(Value.slice ao n cap).ownBlock=some k->w.heap.size<=k/\k<w'.heap.size/\bB E1 q k e0.2.2:=by
  intro k hk
  have jQ:bB E1 q k e0.2.2:=by
   obtain ⟨e1,e2,e3⟩:=e0
   have r2:e1=e2.1.ownBlock:=r2
   have hvn:e2.1=_:=hvn
   rw [hvn,hk] at r2
   exact ⟨e2,by rw [g1,r2]⟩
  have:=hR.blk q _ k e0.2.2 hq trivial jQ
  exact ⟨this.1.base,this.2,jQ⟩
 obtain ⟨E',h4,h5,h6,h7⟩:=h.make hf (dead:=Option.none) (x:=.arr el sz n get) (e:=((Value.slice ao n cap).ownBlock,oE (.slice ao n cap),sz)) (w':=w') (row:=Option.none) (mc hb) (λk hk=>by cases hk)
  (λk hk=>.inr (kh k hk).1) (λk hk=>(kh k hk).2.1) (λE' dx hE bi5 ub hk=>⟨rfl,rfl,xs,eP,λi hi j hj=>by
   obtain ⟨x,g5,g6⟩:=r4 i hi j hj
   exact ⟨x,g5,dw.mono (bl.refl _ w') (λk qD q=>by
    rcases ub k q with q|q
    .exact .inl (hcase k q)
    .exact .inr ⟨_,_,_,hq,trivial,(kh k (q.resolve_right λq=>q)).2.2.own⟩) g6⟩⟩)
 .refine ⟨_,E',rfl,h6,h4,λd hd=>?_⟩
  simp only [eG,aw] at hd
  subst hd
  rcases eP.2 with ⟨q5,q6⟩|⟨g,cap2,cur,q5,_⟩
  .exact ⟨_,ao,n,cap,h5,rfl,bF _,rfl⟩
  .exact ⟨_,ao,n,cap,h5,rfl,bF _,rfl⟩
theorem YD (hl:iv T P lo) (h:R T N aA w0 sp s a w E) {b:Nat} (hf:mm s E b) {f:FuncId} {ds is:List D} {cs tP:List C} {L:List O} (hi:dK s.rs ds=some is)
  (hc:lo.call f is []=some (.a cs,[.own L])) (hm:sK (XV b) cs=some tP) (hs:fA ds=true) {vs:List Value} (hv:aF (bj E (AV aA s.rs E) w) ds vs) :
  kj T P N aA w0 sp s a w E b (.wr (some (.a tP)) [(b,.own L)]) f vs:=by
 obtain ⟨h1,h2⟩:=hl.call _ _ _ _ _ hc
 refine ⟨h1,?_⟩
 have avlt:∀ b,AV aA s.rs E b->b<w.heap.size:=by
  rintro b (q|⟨r,x,sz,h1,h2,h3⟩)
  .exact h.kr q
  .exact (h.dp r x b sz h1 h2 h3).2
 refine (h2 0 (AV aA s.rs E) (Kp.of w) [] [] [] _ w [] vs (R.none avlt h.gP) ((jG hs hi hv).mono λ_ _ q=>bj.mono (Env.le_refl []) (bl.refl _ w) (λb _ q=>(vS b).1 q) q)).mono ?_
 rintro en w' ⟨v,E1,rfl,_,hR,hd⟩
 obtain ⟨ca,rfl,hcs⟩:=hd
 have hlen:0<E1.length:=by rw [hR.len]; exact Nat.lt_succ_self 0
 have he:=ib hlen
 generalize E1[0]=e0 at he
 have hroot:=hR.roots 0 _ _ rfl he
 obtain ⟨r1,r2,vt,r3,r4,Ks,r5,r6,r7⟩:=hroot
 have hb:=hR.below.below
 have hnew:∀ k,e0.2.1.2 k->w.heap.size<=k/\k<w'.heap.size:=λk hk=>by
  have:=hR.dp 0 _ k e0.2.2 rfl trivial ⟨e0,he,rfl,.inr hk⟩
  exact ⟨this.1.base,this.2⟩
 have avw:∀ {dx:Nat->Prop},(∀ k,dx k->AV aA s.rs E k∨fG.has (Option.none,e0.2.1,0) k)->∀ k,dx k->AV (AV aA s.rs E) [.own L] E1 k:=λub k q=>by
  rcases ub k q with q|q|q
  .exact .inl q
  .cases q
  .exact .inr ⟨0,_,_,rfl,trivial,e0,he,rfl,.inr q⟩
 obtain ⟨E',h4,h5,h6,h7⟩:=h.make hf (dead:=Option.none) (x:=.own L) (e:=(Option.none,e0.2.1,0)) (w':=w') (row:=Option.none) (mc hb) (λk hk=>by cases hk)
  (λk hk=>by cases hk) (λk hk=>by cases hk) (λE' dx hE bi5 ub hk=>⟨rfl,r2,vt,r3,r4,Ks,r5,r6,λi o ho=>by
   obtain ⟨v,g1,g2⟩:=r7 i o ho
   exact ⟨v,g1,fx.base h.size_le (fx.mono (bl.refl _ w') (λk _ q=>avw ub k q) (λ_ _=>rfl) g2)⟩⟩) (λk hk=>.inr (hnew k hk))
 refine ⟨_,E',rfl,h6,h4,λd hd=>?_⟩
 simp only [eG,aw] at hd
 subst hd
 have hav3:∀ k,AV aA (place b (.own L) (kill Option.none s.rs)) E' k->AV (AV aA s.rs E) [.own L] E1 k:=avw h7.2
 refine ⟨ca,rfl,?_⟩
 exact uM (λc c' v e q=>by
  unfold XV at e
  split at e
  .simp only [aw] at e; subst e
   exact dw.mono (bl.refl _ w') (λk _ q=>hav3 k q) q
  .simp only [aw] at e; subst e
   obtain ⟨e2,vs2,g1,g2,g3⟩:=q
   rw [he] at g1
   simp only [aw] at g1
   subst g1
   exact ⟨_,vs2,h5,g2,g3⟩
  .simp at e) hm hcs
theorem lA {lo:Lo} {rs:List ah} {f:FuncId} {ds:List D} {b:Nat} {e:cP} (h:BQ lo rs f ds b=some e):∃ is cs tP L,fA ds=true/\dK rs ds=some is/\lo.call f is []=some (.a cs,[.own L])/\sK (XV b) cs=some tP/\e=.wr (some (.a tP)) [(b,.own L)]:=by
 grind [BQ,Bool.ay]
theorem JD (hl:iv T P lo) (h:R T N aA w0 sp s a w E) {b:Nat} (hf:mm s E b) {f:FuncId} {ds:List D} {e:cP} (ef:BQ lo s.rs f ds b=some e) {vs:List Value} (hv:aF (bj E (AV aA s.rs E) w) ds vs) :
  kj T P N aA w0 sp s a w E b e f vs:=by
 obtain ⟨is,cs,tP,L,hp,hi,hc,hm,rfl⟩:=lA ef
 exact YD hl h hf hi hc hm hp hv
theorem DR (hl:iv T P lo) (h:R T N aA w0 sp s a w E) {b:Nat} (hf:mm s E b) {f:FuncId} {ds:List D} {e:cP} (ef:gH lo s.rs f ds b=some e) {vs:List Value} (hv:aF (bj E (AV aA s.rs E) w) ds vs) :
  (∃ l,e=.cU l)∨kj T P N aA w0 sp s a w E b e f vs:=by
 unfold gH at ef
 split at ef
 .rename_i d hd
  simp only [aw] at ef
  subst ef
  right
  unfold AA at hd
  split at hd
  case h_2=>simp at hd
  rename_i is hi
  split at hd
  .grind [Bool.ay]
  .rename_i d0 rs0 _ xu
   split at hd
   case h_2=>simp at hd
   rename_i d' hre
   obtain ⟨hp,hd⟩:=Bool.ay hd
   simp only [aw,cP.val.injEq] at hd
   subst hd
   obtain ⟨h3,h4⟩:=Be hl h (f:=f) (ds:=ds) (d:=d') (by simp only [B6,hi,xu,hre]) (by simp [hp]) (xi hp) hv
   refine ⟨h3,h4.mono ?_⟩
   rintro en w' ⟨v,rfl,hb,hr⟩
   exact ⟨v,E,rfl,jy.Cr h hb hr⟩
  .simp at hd
 .rename_i d q el sz n l ho
  rcases oe ho with ⟨is,q',n',aV,tN,dE,l',hi,hc,hq,hp,hd,hws⟩|⟨is,q',n',aV,tN,dE,get',hi,hc,hq,hd,hws⟩
  case inr=>simp at hws
  simp only [List.cons.injEq,bN,ah.row.injEq,and_true] at hws
  obtain ⟨rfl,rfl,rfl,rfl,rfl⟩:=hws
  subst hd
  cases JA:fo l with
  | true=>
    rw [JA] at ef
    grind [MJ]
  | false=>
    rw [JA] at ef
    grind [kq,MJ,rR]
 all_goals grind [oe,kq,ag2,rR]
theorem IA (hl:iv T P lo) (h:R T N aA w0 sp s a w E) {b:Nat} (hf:mm s E b) {f:FuncId} {ds:List D} {e:cP} (ef:qZ lo hi s.rs b f ds=some e) {vs:List Value} (hv:aF (bj E (AV aA s.rs E) w) ds vs) :
  (∃ l,e=.cU l)∨kj T P N aA w0 sp s a w E b e f vs:=by
 unfold qZ at ef
 split at ef
 .exact ud hl h ef hv
 .exact .inr (AB hl h ef hv)
 .exact DR hl h hf ef hv
 .exact .inr (OQ hl h ef hv)
 .exact .inr (JD hl h hf ef hv)
 .cases hp:fA ds with
  | true=>rw [hp] at ef; exact ud hl h ef hv
  | false=>rw [hp] at ef; exact .inr (AB hl h ef hv)
theorem xv (h:R T N aA w0 sp s a w E) {c:C} {f:FuncId} {eO:List D} (e:rD c=some (f,eO)) {fv:Value} (hc:bp E (AV aA s.rs E) w c fv) :
  ∃ cs:Array Value,fv=.func (.func f) #[] cs/\aF (bj E (AV aA s.rs E) w) eO cs.toList:=by
 refine I5 h (fd:=.c c) ?_ hc
 unfold rD at e
 split at e
 .exact e
 .exact e
 .simp at e
theorem EP (hl:iv T P lo) (h:R T N aA w0 sp s a w E) (hn:bT s.sl) {b:Nat} (hf:mm s E b) {o:Oper} {c:Call} (ho:o.op=.call c) {f:Operand} (LV:c.callee=.value f) {e:cP} (ef:mZ lo hi b s f c.args.toList=some e)
  {next:Act->World->Prop} (mz:∀ v w' E',jy T N aA w0 sp s a w E b e v w' E'->next (a.put o.dst v) w'):(∃ l,e=.cU l)∨Op1 P true o a w next:=by
 have vp:∀ c',o.op ≠ .defer c':=λc' q=>by rw [ho] at q; cases q
 unfold mZ at ef
 split at ef
 case h_2=>simp at ef
 rename_i c0 ds hc0 hds
 have hc0:=h.cF hn (cr hc0)
 have hds:=mr h (bP.nil a) (oh hn hds)
 split at ef
 .rename_i r
  obtain ⟨b',sz,jQ,hfv⟩:=hc0
  unfold ER at ef
  split at ef
  case h_2=>simp at ef
  rename_i d aV hy
  simp only [aw] at ef
  subst ef
  right
  obtain ⟨b2,Y9,fr,tm,as,bd,hat2,h1,h2⟩:=hl.Wl _ _ _ _ _ hy N aA w0 sp s.sl s.df a w E _ h hds
  obtain ⟨q1,q2⟩:=jQ
  obtain ⟨q3,q4⟩:=hat2
  rw [q2] at q4
  simp only [aw,bN] at q4
  obtain ⟨rfl,rfl,rfl⟩:=q4
  refine .round rfl b' fr tm as bd w vp ?_ λc' cs=>?_
  .have uF:(List.map a.eval c.args.toList).toArray=c.args.map a.eval:=by apply Array.ext'; simp
   grind [execOp,resolve,Deferred.ofValue,invoke]
  .obtain ⟨v,w',⟨E',hk,h3,h4⟩,h5⟩:=h2 c' cs
   exact ⟨v,w',mz v w' E' ⟨hk.az5 b,h3,λd' sj=>by simp only [eG,aw] at sj; subst sj; exact h4⟩,h5⟩
 .split at ef
  case h_2=>simp at ef
  rename_i g eO hcl
  obtain ⟨cs,hfv,hcs⟩:=xv h hcl hc0
  rcases IA hl h hf ef (hds.append hcs) with hq|⟨he,xu⟩
  .exact .inl hq
  right
  have xG:(List.map a.eval c.args.toList++cs.toList).toArray=c.args.map a.eval++cs:=by
   grind
  refine .enter g (List.map a.eval c.args.toList++cs.toList).toArray w vp ?_ (xu.mono ?_)
  all_goals grind [Lj]
theorem ti (bZ:dU P T) (hl:iv T P lo) (h:R T N aA w0 sp s a w E) (hn:bT s.sl) {b:Nat} (hf:mm s E b) {o:Oper} {e:cP} (ef:gC T lo hi b s o.dst o.op=some e)
  {next:Act->World->Prop} (mz:∀ v w' E',jy T N aA w0 sp s a w E b e v w' E'->next (a.put o.dst v) w'):(∃ l,e=.cU l)∨Op1 P true o a w next:=by
 unfold gC at ef
 split at ef
 .rename_i d hd
  simp only [aw] at ef
  subst ef
  obtain ⟨v,h1,h2⟩:=IP bZ h hn hd
  refine .inr (.value v w (λc q=>?_) h1 (mz v w E ⟨ot.refl _ _,h,λd' sj=>by simp only [eG,aw] at sj; subst sj; exact h2⟩))
  rw [q] at hd; simp [fw] at hd
 .generalize hop:o.op=op at ef
  have vp:∀ {op'},o.op=op'->(∀ c,op' ≠ .defer c)->∀ c,o.op ≠ .defer c:=λq k c=>by rw [q]; exact k c
  cases op with
  | box t x=>
    obtain ⟨E',ha⟩:=J0 h hn hf t ef
    exact .inr (.value _ _ (vp hop λ_=>Op.noConfusion) (by simp only [execOp,hop]; rfl) (mz _ _ _ ha))
  | alloc t=>
    obtain ⟨v,w',E',hr,ha⟩:=EA bZ h hf ef
    exact .inr (.value v w' (vp hop λ_=>Op.noConfusion) (hr o hop) (mz _ _ _ ha))
  | store t x v=>
    rcases Ef bZ h hn ef b with hc|⟨hd,w',hr,ha⟩
    .exact .inl hc
    exact .inr (.skip w' (vp hop λ_=>Op.noConfusion) (by simp only [execOp,hop]; simp [hr]) (mz _ _ _ ha))
  | buildSlice t n ps=>
    obtain ⟨v,w',E',hr,ha⟩:=Qo bZ h hn hf ef
    exact .inr (.value v w' (vp hop λ_=>Op.noConfusion) (by simp only [execOp,hop]; exact ck hr) (mz _ _ _ ha))
  | makeMap t r=>
    obtain ⟨rfl,E',ha⟩:=FP h hf ef
    exact .inr (.value _ _ (vp hop λ_=>Op.noConfusion) (by simp only [execOp,hop]; rfl) (mz _ _ _ ha))
  | makeSlice t l c=>
    obtain ⟨v,w',E',hr,ha⟩:=Ig bZ h hn hf ef
    exact .inr (.value v w' (vp hop λ_=>Op.noConfusion) (by simp only [execOp,hop]; exact ck hr) (mz _ _ _ ha))
  | mapUpdate t m k v=>
    obtain ⟨hd,w',hr,ha⟩:=II bZ h hn ef b
    exact .inr (.skip w' (vp hop λ_=>Op.noConfusion) (by simp only [execOp,hop]; simp [hr]) (mz _ _ _ ha))
  | call c=>
    have ef:iO T lo hi b s c=some e:=ef
    unfold iO at ef
    split at ef
    .rename_i LV
     rcases J2 bZ h hn hf ef o.type with hc|⟨v,w',E',hr,ha⟩
     .exact .inl hc
     refine .inr (.value v w' (vp hop λ_=>Op.noConfusion) ?_ (mz _ _ _ ha))
     have uF:(List.map a.eval c.args.toList).toArray=c.args.map a.eval:=by apply Array.ext'; simp
     rw [uF] at hr
     have hts:c.argTypes.toList.toArray=c.argTypes:=rfl
     rw [hts] at hr
     simp only [execOp,hop,resolve,LV,Sem.run_bind,Sem.run_pure,Result.andThen_ok,invoke,builtin]
     simp [hr]
    all_goals grind [EP]
  | _=>simp [il] at ef
end
open Go.RowKit
def Fr (ρ:Option Nat):Fence:={ fn:=λ_=>True,depth:=none,alive:=false,round:=ρ }
section
variable {P:Program} {T:ec} {lo:Lo} {hi:Hint} {N:Nat} {aA:Nat->Prop} {w0:Kp} {sp:List (D×Value)} {s:VS} {a:Act} {w:World} {E:Env} {ρ:Option Nat}
theorem PL (ρ:Option Nat) (m:Machine):m.fenced P (Fr ρ):=by
 intro g _
 refine ⟨λh=>?_,Or.inl trivial,λ_ _=>trivial,λ_ h=>?_⟩
 .cases h
 .cases h
theorem ML (ρ:Option Nat) (n:Nat):(Fr ρ).room n:=λd h=>by cases h
theorem Au {m m':Machine} (h:Steps P m m'):StepsIn (Machine.fenced P (Fr ρ)) P m m':=(StepsIn.of_steps h).mono λm _=>PL ρ m
theorem Op1.wpIn {Y:Bool} {o:Oper} {next:Act->World->Prop} {Q:Exit->Act->World->Prop} (h:Op1 P Y o a w next):o.wpIn (Fr ρ) 0 P a w next Q:=by
 refine ⟨λ_ _=>trivial,?_⟩
 cases h with
 | value v w' hd hr hn=>rw [Oper.semAt_eq _ _ _ hd,hr]; exact hn
 | skip w' hd hr hn=>rw [Oper.semAt_eq _ _ _ hd,hr]; exact hn
 | enter f args w' hd hr hc=>
   rw [Oper.semAt_eq _ _ _ hd,hr]
   refine ⟨λq=>(by cases q),trivial,λcs _=>?_⟩
   obtain ⟨e,w2,fr,⟨v,rfl,hn⟩,hs,hf,hl⟩:=hc cs
   exact ⟨.returned v,w2,fr,hn,Au hs,hf,hl⟩
 | round hY l f tm as bd w' hd hr hc=>
   rw [Oper.semAt_eq _ _ _ hd,hr]
   refine ⟨λq=>(by cases q),trivial,λc cs _=>?_⟩
   obtain ⟨v,w2,hn,hs⟩:=hc c cs
   exact ⟨.returned v,w2,hn,Au hs⟩
end
open Go.RowKit
structure Xg (r:Nat) (dx:Nat->Prop) (aA:Nat->Prop) (s:VS) (E:Env):Prop where
 le:∀ b,dx b->AV aA s.rs E b
 noO:∀ b sz,dt E r b sz->¬ dx b
theorem Xg.no {r:Nat} {dx aA:Nat->Prop} {s:VS} {E:Env} (h:Xg r dx aA s E) (b sz:Nat) (h1:bB E r b sz):¬ dx b:=h.noO b sz h1.own
section
variable {P:Program} {T:ec} {lo:Lo} {hi:Hint} {N:Nat} {aA:Nat->Prop} {w0:Kp} {sp:List (D×Value)} {s:VS} {a:Act} {w:World} {E:Env} {ρ:Option Nat}
theorem KH (h:R T N aA w0 sp s a w E) {r el sz n m:Nat} {l:List C} {is:List I} (hr:s.rs[r]?=some (.row el sz n l)) (hi:Gv l=some is) {dx:Nat->Prop} (ha:Xg r dx aA s E) {v:Value}
  (hv:bp E (AV aA s.rs E) w (.sa r m) v):dw dx w (.sl sz m (flat sz is)) v:=by
 obtain ⟨e',ao,n',cap,h1,h2,h3,rfl⟩:=hv
 obtain ⟨q1,q2,xs,q3,q4⟩:=h.roots r _ _ hr h1
 have him:=s9 hi
 subst him
 have hx:=yE q4
 have hxl:=hx.length
 rcases q3.2 with ⟨q5,q6⟩|⟨g,cap',cur,q5,q6,q7,q8,q9,q10,q11⟩
 .rw [h2] at q5
  simp only [jw] at q5
  obtain ⟨rfl,rfl,rfl⟩:=q5
  exact ⟨none,0,rfl,by omega,by omega,λh0=>by omega⟩
 .rw [h2] at q5
  simp only [jw] at q5
  obtain ⟨rfl,rfl,rfl⟩:=q5
  have jQ:bB E r g e'.2.2:=by
   obtain ⟨e1,e2,e3⟩:=e'
   have h2:e2.1=_:=h2
   have q2:e1=e2.1.ownBlock:=q2
   rw [h2] at q2
   exact ⟨e2,by rw [h1,q2]; rfl⟩
  refine ⟨_,cap,rfl,by omega,by omega,λ_=>⟨_,rfl,rfl,ha.no g _ jQ,(Array.getElem?_eq_some_iff.1 q7).1,λi nA j hj=>?_⟩⟩
  have eW:i*sz+j<n'*sz:=by
   have:=iV sz (show i+1<=n' by omega)
   grind
  obtain ⟨x,h5,h6⟩:=qg hx (q:=i*sz+j) (by rw [hxl,q3.1]; exact eW)
  refine ⟨x,?_,dw.mono (bl.refl _ w) (λb _ hb=>ha.le b hb) h6⟩
  grind [Addr.add_mid,du]
theorem aF.Uj {α β γ:Type} {f:α->β} {Ra:α->γ->Prop} {Rb:β->γ->Prop} (h:∀ x y,Ra x y->Rb (f x) y) {l:List α} {m:List γ} (k:aF Ra l m):aF Rb (l.map f) m:=by
 induction k with
 | nil=>exact .nil
 | cons q _ ih=>exact .cons (h _ _ q) ih
theorem SI {sl:a8} (f:D->D):∀ {t:Tmp} {d:D} {c:fj},look (sl.map λx=>(x.1,f x.2.1,x.2.2)) t=some (d,c)->∃ d0,d=f d0/\look sl t=some (d0,c):=by
 induction sl with
 | nil=>intro t d c h; simp [look] at h
 | cons x sl ih=>
   grind [look]
theorem Qr {r sz:Nat} {get:Nat->Nat->I} {x:ah}:(P4 r sz get x).live->x.live:=by
 cases x<;>exact id
theorem lq {r sz:Nat} {get:Nat->Nat->I} (hC:∀ dx,Xg r dx aA s E->∀ m v,bp E (AV aA s.rs E) w (.sa r m) v->dw dx w (.sl sz m get) v) {dx:Nat->Prop} (ha:Xg r dx aA s E) {x:C} {v:Value}
  (hv:bp E (AV aA s.rs E) w x v):bp E dx w (Lz r sz get x) v:=by
 unfold Lz
 split
 .rename_i q m
  cases hq:Nat.beq q r with
  | true=>
    have hq:=Nat.eq_of_beq_eq_true hq
    subst hq
    exact hC _ ha _ _ hv
  | false=>exact bp.mono (Env.le_refl E) (bl.refl _ w) (λb _ q=>ha.le b q) hv
 .exact bp.mono (Env.le_refl E) (bl.refl _ w) (λb _ q=>ha.le b q) hv
theorem OM {r sz:Nat} {get:Nat->Nat->I} (hC:∀ dx,Xg r dx aA s E->∀ m v,bp E (AV aA s.rs E) w (.sa r m) v->dw dx w (.sl sz m get) v) {dx:Nat->Prop} (ha:Xg r dx aA s E) {d:D} {v:Value}
  (hv:bj E (AV aA s.rs E) w d v):bj E dx w (Yl r sz get d) v:=by
 cases d with
 | c x=>exact lq hC ha hv
 | a l=>obtain ⟨cs,h1,h2⟩:=hv; exact ⟨cs,h1,h2.Uj λ_ _ q=>lq hC ha q⟩
 | t l=>
   obtain ⟨vs,h1,h2⟩:=hv
   refine ⟨vs,h1,h2.Uj ?_⟩
   rintro ⟨b,l⟩ y q
   cases b with
   | true=>obtain ⟨cs,q1,q2⟩:=q; exact ⟨cs,q1,q2.Uj λ_ _ q=>lq hC ha q⟩
   | false=>grind [lq]
theorem KB (h:R T N aA w0 sp s a w E) {r el sz n m:Nat} {get:Nat->Nat->I} (hr:s.rs[r]?=some (.arr el sz n get)) {dx:Nat->Prop} (ha:Xg r dx aA s E) {v:Value}
  (hv:bp E (AV aA s.rs E) w (.sa r m) v):dw dx w (.sl sz m get) v:=by
 obtain ⟨e',ao,n',cap,h1,h2,h3,rfl⟩:=hv
 obtain ⟨q1,q2,xs,q3,q4⟩:=h.roots r _ _ hr h1
 rcases q3.2 with ⟨q5,q6⟩|⟨g,cap',cur,q5,q6,q7,q8,q9,q10,q11⟩
 .rw [h2] at q5
  simp only [jw] at q5
  obtain ⟨rfl,rfl,rfl⟩:=q5
  exact ⟨none,0,rfl,by omega,by omega,λh0=>by omega⟩
 .rw [h2] at q5
  simp only [jw] at q5
  obtain ⟨rfl,rfl,rfl⟩:=q5
  have jQ:bB E r g e'.2.2:=by
   obtain ⟨e1,e2,e3⟩:=e'
   have h2:e2.1=_:=h2
   have q2:e1=e2.1.ownBlock:=q2
   rw [h2] at q2
   exact ⟨e2,by rw [h1,q2]; rfl⟩
  refine ⟨_,cap,rfl,by omega,by omega,λ_=>⟨_,rfl,rfl,ha.no g _ jQ,(Array.getElem?_eq_some_iff.1 q7).1,λi nA j hj=>?_⟩⟩
  have eW:i*sz+j<n'*sz:=by
   have:=iV sz (show i+1<=n' by omega)
   grind
  obtain ⟨x,h5,h6⟩:=q4 i (by omega) j hj
  refine ⟨x,?_,dw.mono (bl.refl _ w) (λb _ hb=>ha.le b hb) h6⟩
  grind [Addr.add_mid,du]
theorem Ms (h:R T N aA w0 sp s a w E) {r:Nat} {x0:ah} (hl:s.rs[r]?=some x0) (hx0:x0.live) {sz:Nat} {get:Nat->Nat->I}
  (hC:∀ dx,Xg r dx aA s E->∀ m v,bp E (AV aA s.rs E) w (.sa r m) v->dw dx w (.sl sz m get) v):R T N aA w0 sp (uX r sz get s) a w E/\(bT s.sl->bT (uX r sz get s).sl):=by
 unfold uX
 have key:∀ (q:Nat) (y:ah),(setAt (s.rs.map (P4 r sz get)) r .dead)[q]?=some y->y.live->q≠r/\∃ x,s.rs[q]?=some x/\y=P4 r sz get x/\x.live:=by
  intro q y h1 h2
  rw [bg,jv] at h1
  split at h1
  .rename_i hq
   split at h1
   .simp only [aw] at h1; subst h1; exact h2.elim
   .simp at h1
  grind [Qr]
 have hb:Xg r (AV aA (setAt (s.rs.map (P4 r sz get)) r .dead) E) aA s E:=by
  refine ⟨?_,?_⟩
  .rintro b (q|⟨q,y,z,h1,h2,h3⟩)
   .exact .inl q
   .obtain ⟨_,x,h4,_,h5⟩:=key q y h1 h2
    exact .inr ⟨q,x,z,h4,h5,h3⟩
  .rintro b z jQ (q|⟨q,y,z',h1,h2,h3⟩)
   .have q1:=(h.dp r _ b z hl hx0 jQ).1
    have q2:=h.outer b q
    exact q2.2 (q1.own q2.1)
   .obtain ⟨qG,x,h4,_,h5⟩:=key q y h1 h2
    exact qG (h.dT q r x _ b z' z h4 hl h5 hx0 h3 jQ)
 refine ⟨⟨h.size,h.defers,λx hx=>bj.mono (Env.le_refl E) (bl.refl _ w) (λb _ q=>hb.le b q) (h.spec x hx),h.below,by rw [bg]; simpa using h.len,h.outer,?_,?_,?_,?_,h.gP.mono (bl.refl _ w) (λb _ q=>hb.le b q)⟩,?_⟩
 .intro q y e h1 h2
  by_cases hlv:y.live
  .obtain ⟨qG,x,h4,rfl,h5⟩:=key q y h1 hlv
   have hx:=h.roots q x e h4 h2
   cases x with
   | box l2=>
     obtain ⟨b,cs,Tc,p1,p2,p3,p4⟩:=hx
     exact ⟨b,cs,Tc,p1,by rw [p2]; simp,p3,p4.Uj λ_ _ q=>lq hC hb q⟩
   | row el2 Y9 n2 l2=>
     obtain ⟨p1,p2,xs,p3,p4⟩:=hx
     exact ⟨p1,p2,xs,p3,p4.Uj λ_ _ q=>lq hC hb q⟩
   | dead=>trivial
   | arr el2 Y9 n2 get=>exact ba.mono (x:=.arr el2 Y9 n2 get) (Env.le_refl E) (bl.refl _ w) (λb _ q=>hb.le b q) (λ_ _ _=>rfl) hx
   | bo el2 Y9 n2 get eI=>exact ba.mono (x:=.bo el2 Y9 n2 get eI) (Env.le_refl E) (bl.refl _ w) (λb _ q=>hb.le b q) (λ_ _ _=>rfl) hx
   | own l2=>exact ba.mono (x:=.own l2) (Env.le_refl E) (bl.refl _ w) (λb _ q=>hb.le b q) (λ_ _ _=>rfl) hx
   | set l2=>exact hx
   | mi=>exact hx
   | loop f M sl ps as bd st fP=>exact ba.mono (x:=.loop f M sl ps as bd st fP) (Env.le_refl E) (bl.refl _ w) (λb _ q=>hb.le b q) (λ_ _ _=>rfl) hx
  .cases y with
   | dead=>trivial
   | _=>exact (hlv trivial).elim
 .intro q y b z h1 h2 h3
  obtain ⟨_,x,h4,_,h5⟩:=key q y h1 h2
  exact h.dp q x b z h4 h5 h3
 .intro q q' y y' b z z' h1 nD h2 ig h3 lD
  obtain ⟨_,x,h4,_,h5⟩:=key q y h1 h2
  obtain ⟨_,x',h4',_,h5'⟩:=key q' y' nD ig
  exact h.dT q q' x x' b z z' h4 h4' h5 h5' h3 lD
 .intro t d c hlk
  obtain ⟨d0,rfl,h1⟩:=SI (Yl r sz get) hlk
  obtain ⟨p1,p2,p3⟩:=h.slots t d0 c h1
  exact ⟨p1,λq=>OM hC hb (p2 q),p3⟩
 .intro hn x hx
  obtain ⟨y,hy,rfl⟩:=List.mem_map.1 hx
  exact hn y hy
theorem R.freeze (h:R T N aA w0 sp s a w E) {r:Nat} {s':VS} (e:freeze r s=some s'):R T N aA w0 sp s' a w E/\(bT s.sl->bT s'.sl):=by
 unfold Go.V.freeze at e
 split at e
 .rename_i el sz n l hl
  rw [cx,bz] at hl
  unfold MO at e
  split at e
  case h_2=>simp at e
  rename_i is hi
  simp only [aw] at e
  subst e
  exact Ms h hl trivial λdx ha m v hv=>KH h hl hi ha hv
 .rename_i el sz n get hl
  rw [cx,bz] at hl
  simp only [aw] at e
  subst e
  exact Ms h hl trivial λdx ha m v hv=>KB h hl ha hv
 .rename_i el sz n get hl
  rw [cx,bz] at hl
  simp only [aw] at e
  subst e
  exact Ms h hl trivial λdx ha m v hv=>by
   obtain ⟨e',ao,n',cap,h1,h2,h3,rfl⟩:=hv
   exact SQ (h.roots r _ _ hl h1) ha.le (λb hb=>ha.noO b e'.2.2 ⟨e',h1,rfl,hb⟩) h2 h3
 all_goals grind
theorem R.ie:∀ {l:List Nat} {s s':VS},R T N aA w0 sp s a w E->ie l s=some s'->R T N aA w0 sp s' a w E/\(bT s.sl->bT s'.sl)
 | [],s,s',h,e=>by
   have e:some s=some s':=e
   grind
 | r::l,s,s',h,e=>by
   have e:(match Go.V.freeze r s with
    | some s1=>Go.V.ie l s1
    | Option.none=>Option.none)=some s':=e
   split at e
   case h_2=>simp at e
   rename_i s1 h1
   obtain ⟨h2,h3⟩:=h.freeze h1
   obtain ⟨h4,h5⟩:=R.ie h2 e
   exact ⟨h4,λq=>h5 (h3 q)⟩
end
open Go.RowKit
section
variable {P:Program} {T:ec} {lo:Lo} {hi:Hint} {N:Nat} {aA:Nat->Prop} {w0:Kp} {sp:List (D×Value)} {s:VS} {a:Act} {w:World} {E:Env} {ρ:Option Nat}
theorem bT.free {sl:a8} (h:bT sl) (t:Tmp):free t sl=true:=by
 induction sl with
 | nil=>rfl
 | cons x sl ih=>
   have hx:=h x (kz ..)
   simp only [Go.V.free,hx,iM]
   exact ih λy hy=>h y (gJ _ hy)
theorem sY (h:R T N aA w0 sp s a w E) (hn:bT s.sl) {dst:Option Tmp} {d:D} {s':VS} (e:tD N s dst d=some s') {v:Value} (hv:bj E (AV aA s.rs E) w d v):R T N aA w0 sp s' (a.put dst v) w E/\bT s'.sl:=by
 unfold tD at e
 split at e
 .simp only [aw] at e; subst e; exact ⟨h,hn⟩
 .rename_i t
  obtain ⟨ht,e⟩:=Bool.ay e
  simp only [aw] at e
  subst e
  refine ⟨h.put (g:=[]) ?_ (λ_=>hv) (λq=>(q (bP.nil a)).elim),hn.cons _ _⟩
  simp only [GZ,ht,hn.free t,iM]
theorem NC {b:Nat} {dst:Option Tmp} {e:cP} {s':VS} (hn:bT s.sl) (hs:sA N s dst e=some s') {v:Value} {w':World} {E':Env} (ha:jy T N aA w0 sp s a w E b e v w' E') (hd:eG e=none->dst=none) :
  R T N aA w0 sp s' (a.put dst v) w' E'/\bT s'.sl:=by
 obtain ⟨_,h1,h2⟩:=ha
 unfold sA at hs
 split at hs
 .exact sY h1 hn hs (h2 _ rfl)
 .rename_i d ws
  unfold Ot at hs
  split at hs
  .exact sY h1 hn hs (h2 _ rfl)
  .simp only [aw] at hs
   subst hs
   rw [hd rfl]
   exact ⟨h1,hn⟩
 .exact sY h1 hn hs (h2 _ rfl)
 .simp at hs
theorem KA {rs:List ah} {f:FuncId} {ds:List D} {b:Nat} {e:cP} (ef:gH lo rs f ds b=some e):(∃ l,e=.cU l)∨eG e≠none:=by
 unfold gH at ef
 split at ef
 .grind [eG]
 .rename_i d q el sz n l ho
  rcases oe ho with ⟨is,q',n',aV,tN,dE,l',hi,hc,hq,hp,hd,hws⟩|⟨is,q',n',aV,tN,dE,get',hi,hc,hq,hd,hws⟩
  case inr=>simp at hws
  subst hd
  cases JA:fo l with
  | true=>rw [JA] at ef; grind [eG]
  | false=>
    rw [JA] at ef
    grind [kq,eG]
 all_goals grind [oe,kq,eG]
theorem Bz {rs:List ah} {f:FuncId} {ds:List D} {e:cP} (ef:iC lo rs f ds=some e):(∃ l,e=.cU l)∨eG e≠none:=by
 unfold iC at ef
 split at ef
 case h_2=>simp at ef
 rename_i d hd
 cases hp:jc d with
 | true=>rw [hp] at ef; grind [eG]
 | false=>
   rw [hp] at ef
   grind [Bool.ay,kq,eG]
theorem Ii {rs:List ah} {f:FuncId} {ds:List D} {e:cP} (ef:wo lo rs f ds=some e):eG e≠none:=by
 grind [wo,eG]
theorem Hl {b:Nat} {dst:Option Tmp} {op:Op} {e:cP} (ef:gC T lo hi b s dst op=some e):(∃ l,e=.cU l)∨eG e≠none∨dst=none:=by
 unfold gC at ef
 split at ef
 .grind [eG]
 .cases op with
  | box t x=>
    have ef:xJ b s x=some e:=ef
    grind [xJ,eG]
  | alloc t=>
    have ef:lH T b t=some e:=ef
    grind [lH,eG]
  | store t x v=>
    have ef:iu T s dst t x v=some e:=ef
    unfold iu at ef
    grind
  | mapUpdate t m k v=>
    have ef:n9 T s dst t m k v=some e:=ef
    unfold n9 at ef
    grind
  | makeMap t r=>
    have ef:lB T b t r=some e:=ef
    unfold lB at ef
    grind [eG]
  | makeSlice t l c=>
    have ef:nR T b s t l c=some e:=ef
    unfold nR at ef
    split at ef
    case h_2=>simp at ef
    split at ef
    case h_2=>simp at ef
    split at ef
    case h_2=>simp at ef
    split at ef
    all_goals grind [Bool.ay,eG]
  | buildSlice t n ps=>
    have ef:Qy T b s (Dc hi dst) t n ps.toList=some e:=ef
    unfold Qy at ef
    split at ef
    all_goals grind [Bool.ay,kA,eG]
  | call c=>
    have ef:iO T lo hi b s c=some e:=ef
    unfold iO at ef
    split at ef
    .unfold rp at ef
     split at ef
     case h_2=>simp at ef
     replace ef:=(Bool.ay ef).2
     split at ef
     case h_2=>simp at ef
     split at ef
     .rename_i e' he'
      subst ef
      have fin2:∀ {el sz k:Nat} {l':Nat->Nat->I} {BM:Nat} {c:C},sW el sz k l' BM b s.rs c=some e->eG e≠none:=by
       intro el sz k l' BM c q
       unfold sW at q
       grind [Bool.ay,eG]
      unfold sb at he'
      split at he'
      case h_2=>simp at he'
      split at he'
      all_goals grind [DK,Bool.ay,qo]
     unfold qL at ef
     have fin:∀ {el sz k:Nat} {l':List C} {BM:Nat} {c:C},GB el sz k l' BM b s.rs c=some e->eG e≠none:=by
      intro el sz k l' BM c q
      unfold GB at q
      grind [eG,Bool.ay]
     split at ef
     case h_2=>simp at ef
     split at ef
     all_goals grind [Bool.ay]
    .unfold mZ at ef
     split at ef
     case h_2=>simp at ef
     split at ef
     .grind [ER,eG]
     .split at ef
      case h_2=>simp at ef
      unfold qZ at ef
      split at ef
      .exact (Bz ef).imp id .inl
      .exact .inr (.inl (Ii ef))
      .exact (KA ef).imp id .inl
      .grind [Yb,Bool.ay,eG]
      .obtain ⟨is,cs,tP,L,_,_,_,_,rfl⟩:=lA ef
       exact .inr (.inl (by simp [eG]))
      .rename_i ds _ _ _ _ _ _ _ _ _
       revert ef
       generalize fA _=p
       intro ef
       cases p with
       | true=>exact (Bz ef).imp id .inl
       | false=>exact .inr (.inl (Ii ef))
    .simp at ef
  | _=>simp [il] at ef
theorem zp {dst:Option Tmp} {l:List Nat} {s':VS}:sA N s dst (.cU l)≠some s':=by simp [sA]
theorem HF (bZ:dU P T) (hl:iv T P lo) (h:R T N aA w0 sp s a w E) (hn:bT s.sl) {o:Oper} {s':VS} (e:Hy T lo hi N s o.dst o.op=some s')
  {next:Act->World->Prop} (mz:∀ a' w' E',Kept E E'->R T N aA w0 sp s' a' w' E'->bT s'.sl->next a' w'):Op1 P true o a w next:=by
 have one:∀ {s:VS},R T N aA w0 sp s a w E->bT s.sl->∀ {ef:cP},gC T lo hi s.rs.length s o.dst o.op=some ef->sA N s o.dst ef=some s'->Op1 P true o a w next:=by
  intro s h hn ef h1 h2
  have hd:=Hl h1
  rcases ti bZ hl h hn (.inr rfl) h1 (next:=next) (λv w' E' ha=>by
   obtain ⟨h3,h4⟩:=NC hn h2 ha (λq=>by
    grind [zp])
   exact mz _ _ _ (Kept.NZ ha.1 (Nat.le_of_eq h.len)) h3 h4) with ⟨l,rfl⟩|h3
  .exact (zp h2).elim
  .exact h3
 unfold Hy at e
 split at e
 .rename_i l _
  unfold QI at e
  split at e
  case h_2=>simp at e
  rename_i s1 hs1
  obtain ⟨h1,h2⟩:=h.ie hs1
  grind
 all_goals grind
theorem sP (h:R T N aA w0 sp s a w E) (hn:bT s.sl) {ops:Array Oper} {o:Oper} {b:Bool} (e:nW ops.toList s.sl o.guard=some b):Region.wanted o (yielded ops a.tmps)=b:=by
 unfold nW at e
 unfold Region.wanted
 split at e
 .grind
 .rename_i j want hg
  rw [hg]
  split at e
  case h_2=>simp at e
  rename_i p hp
  rw [cx,bz] at hp
  split at e
  case h_2=>simp at e
  rename_i t ht
  have hpo:ops[j]?=some p:=by simpa using hp
  unfold NT at e
  split at e
  .rename_i hl
   have hl:=gh hn hl
   simp only [aw] at e
   subst e
   obtain ⟨hN,h1,h2⟩:=h.slots t _ _ hl
   obtain ⟨vs,hv,xG⟩:=h1 (bP.nil a)
   have ik:t<a.tmps.size:=by rw [h.size]; exact hN
   have hv':a.tmps[t]?=some (a.tmps.getD t undef):=by simp [ik]
   grind [yielded]
  .split at e
   case h_2=>simp at e
   rename_i x hx
   have hl:=gh hn (fh hx)
   simp only [aw] at e
   subst e
   obtain ⟨hN,h1,h2⟩:=h.slots t _ _ hl
   have hv:=(h1 (bP.nil a)).1
   have ik:t<a.tmps.size:=by rw [h.size]; exact hN
   have hv':a.tmps[t]?=some (a.tmps.getD t undef):=by simp [ik]
   have hy:yielded ops a.tmps j=some x:=by
    grind [yielded]
   simp only [hy]
   cases x<;>cases want<;>rfl
theorem CA {E:Env} {av:Nat->Prop} {w:World}:bj E av w (.t []) undef:=⟨#[],rfl,.nil⟩
theorem tu (bZ:dU P T) (hl:iv T P lo) {ops:Array Oper} {Q:Exit->Act->World->Prop} {sF:VS} {E0:Env} (hQ:∀ a' w' E',Kept E0 E'->R T N aA w0 sp sF a' w' E'->bT sF.sl->Q .normal a' w') :
  ∀ {l:List Oper} {s:VS} {a:Act} {w:World} {E:Env},Pv T lo hi N ops.toList l s=some sF->Kept E0 E->R T N aA w0 sp s a w E->bT s.sl->wpListIn (Fr ρ) 0 P ops Q l a w
 | [],s,a,w,E,e,hk,h,hn=>by
   have e:some s=some sF:=e
   simp only [aw] at e; subst e; exact hQ a w E hk h hn
 | o::l,s,a,w,E,e,hk,h,hn=>by
   have e:(match opF T lo hi N ops.toList s o with
    | some s'=>Pv T lo hi N ops.toList l s'
    | none=>none)=some sF:=e
   split at e
   case h_2=>simp at e
   rename_i s' hs
   unfold opF at hs
   unfold wpListIn
   split at hs
   .rename_i hw
    rw [if_pos (sP h hn hw)]
    exact (HF bZ hl h hn hs λa' w' E' qD h' zd=>tu bZ hl hQ e (hk.trans qD) h' zd).wpIn
   .rename_i hw
    rw [if_neg (by rw [sP h hn hw]; simp)]
    obtain ⟨h1,h2⟩:=sY h hn hs CA
    exact ⟨λ_ _=>trivial,tu bZ hl hQ e hk h1 h2⟩
   .simp at hs
end
section
variable {T:ec} {lo:Lo} {hi:Hint} {sl gB:a8} {rs aV:List ah} {df NG:List Nat}
theorem vK:∀ {l:List Operand},(∀ x∈l,cF sl x=cF gB x)->B1 sl l=B1 gB l
 | [],_=>rfl
 | x::l,h=>by
   have e1:=h x (kz ..)
   have e2:=vK (l:=l) λy hy=>h y (gJ _ hy)
   grind [B1]
theorem AZ {sG:List (Nat×Nat)}:∀ {ps:List (Nat×Operand)},(∀ p∈ps,cF sl p.2=cF gB p.2)->xz sG sl ps=xz sG gB ps
 | [],_=>rfl
 | p::ps,h=>by
   have e1:=h p (kz ..)
   have e2:=AZ (sG:=sG) (ps:=ps) λy hy=>h y (gJ _ hy)
   funext l
   show (match bh sG p.1 with
    | some o=>match cF sl p.2 with
      | some d=>match d.cells with
        | some cs=>(Bool.rec none (match put l o.1 cs with
          | some l'=>xz sG sl ps l'
          | none=>none) (Nat.beq cs.length o.2&&Nat.blt 0 o.2):Option (List C))
        | none=>none
      | none=>none
    | none=>none)=_
   rw [e1,e2]; rfl
theorem xA {sz:Nat}:∀ {ps:List (Nat×Operand)},(∀ p∈ps,cF sl p.2=cF gB p.2)->qV sz sl ps=qV sz gB ps
 | [],_=>rfl
 | p::ps,h=>by
   have e1:=h p (kz ..)
   have e2:=xA (sz:=sz) (ps:=ps) λy hy=>h y (gJ _ hy)
   grind [qV]
theorem PB {ts:List TypeId} {xs:List Operand} (h:∀ x∈xs,cF sl x=cF gB x):Ve T ⟨sl,rs,df⟩ ts xs=Ve T ⟨gB,rs,NG⟩ ts xs:=by
 unfold Ve
 grind
theorem O5 {xs:List Operand} (h:∀ x∈xs,cF sl x=cF gB x):Ri ⟨sl,rs,df⟩ xs=Ri ⟨gB,rs,NG⟩ xs:=by
 unfold Ri
 grind
theorem O4 {xs:List Operand} (h:∀ x∈xs,cF sl x=cF gB x):Tm ⟨sl,rs,df⟩ xs=Tm ⟨gB,rs,NG⟩ xs:=by
 unfold Tm
 grind
theorem GS {t:Nat} {x:Operand} {l m k:Option Operand} (h0:cF sl x=cF gB x) (hl:∀ y,l=some y->cF sl y=cF gB y) (h:∀ y,m=some y->cF sl y=cF gB y):lO T ⟨sl,rs,df⟩ t x l m k=lO T ⟨gB,rs,NG⟩ t x l m k:=by
 unfold lO
 grind
theorem Kk {op:Op} (h:∀ x∈op.operands.toList,cF sl x=cF gB x):fw T ⟨sl,rs,df⟩ op=fw T ⟨gB,rs,NG⟩ op:=by
 cases op with
 | move x=>exact h x (by simp [Op.operands])
 | assign x=>exact h x (by simp [Op.operands])
 | pick c x y=>grind [fw,Cz,Op.operands]
 | binOp o t x y t2=>simp only [fw,A7,xt,MN,h x (by simp [Op.operands]),h y (by simp [Op.operands])]
 | unOp o t x=>simp only [fw,unF,h x (by simp [Op.operands])]
 | nilCheck x=>simp only [fw,yG,h x (by simp [Op.operands])]
 | fieldAddr t x f=>simp only [fw,Fq,h x (by simp [Op.operands])]
 | indexAddr t x i=>grind [fw,pj,Op.operands]
 | load t x=>simp only [fw,l7,h x (by simp [Op.operands])]
 | extract x k=>simp only [fw,tY,h x (by simp [Op.operands])]
 | build t ps=>
   simp only [fw,Eo]
   have e:∀ fs,xz fs sl ps.toList=xz fs gB ps.toList:=λfs=>AZ λp hp=>h p.2 (by grind [Op.operands])
   simp only [e]
 | makeFunc fn first eO=>
   have e:B1 sl eO.toList=B1 gB eO.toList:=vK λp hp=>h p (by grind [Op.operands])
   simp only [fw,M9,e]
 | call c=>
   have e:∀ x∈c.args.toList,cF sl x=cF gB x:=λx hx=>h x (by grind [Op.operands,Call.operands])
   simp only [fw,J4]
   split
   .rename_i b _
    unfold JG
    grind [PB,O5,O4]
   .rfl
 | lookup t x i ok=>simp only [fw,o5,fmF,h x (by simp [Op.operands]),h i (by simp [Op.operands])]
 | slice t x l m k=>exact GS (h x (by simp [Op.operands])) (λy hy=>h y (by simp [Op.operands,hy])) λy hy=>h y (by simp [Op.operands,hy])
 | convert t t' x=>simp only [fw,ad3,h x (by simp [Op.operands])]
 | _=>rfl
theorem Pe {b:Nat} {ts:List TypeId} {xs:List Operand} (h:∀ x∈xs,cF sl x=cF gB x):rp T b ⟨sl,rs,df⟩ ts xs=rp T b ⟨gB,rs,NG⟩ ts xs:=by
 unfold rp
 grind
theorem J1 {b:Nat} {dst:Option Tmp} {op:Op} (h:∀ x∈op.operands.toList,cF sl x=cF gB x):il T lo hi b ⟨sl,rs,df⟩ dst op=il T lo hi b ⟨gB,rs,NG⟩ dst op:=by
 cases op with
 | box t x=>simp only [il,xJ,h x (by simp [Op.operands])]
 | alloc t=>rfl
 | store t x v=>simp only [il,iu,h x (by simp [Op.operands]),h v (by simp [Op.operands])]
 | buildSlice t n ps=>
   simp only [il,Qy]
   have e:∀ sz,qV sz sl ps.toList=qV sz gB ps.toList:=λsz=>xA λp hp=>h p.2 (by grind [Op.operands])
   simp only [e]
 | call c=>
   have e:∀ x∈c.args.toList,cF sl x=cF gB x:=λx hx=>h x (by grind [Op.operands,Call.operands])
   grind [il,iO,Pe,Op.operands,Call.operands,mZ,vK]
 | makeMap t r=>rfl
 | makeSlice t l c=>simp only [il,nR,h l (by simp [Op.operands]),h c (by simp [Op.operands])]
 | mapUpdate t m k v=>simp only [il,n9,h m (by simp [Op.operands]),h k (by simp [Op.operands]),h v (by simp [Op.operands])]
 | _=>rfl
theorem OZ {b:Nat} {dst:Option Tmp} {op:Op} (h:∀ x∈op.operands.toList,cF sl x=cF gB x):gC T lo hi b ⟨sl,rs,df⟩ dst op=gC T lo hi b ⟨gB,rs,NG⟩ dst op:=by
 grind [gC,Kk,J1]
def rF (rs aV:List ah):Prop:=∀ (q:Nat) (x:ah),bh rs q=some x->x.live->bh aV q=some x
theorem rF.nth (h:rF rs aV) {q:Nat} {x:ah} (e:Go.V.nth rs q=some x) (hx:x.live):Go.V.nth aV q=some x:=by
 rw [<- cx]; exact h q x (by rw [cx]; exact e) hx
theorem Xv (hr:rF rs aV) {c:C} {b:Bool} (e:Pm rs c=some b):Pm aV c=some b:=by
 unfold Pm at e ⊢
 split at e
 .exact e
 .split at e
  .rename_i hq; rw [hr _ _ hq trivial]; exact e
  .rename_i hq; rw [hr _ _ hq trivial]; exact e
  .rename_i hq; rw [hr _ _ hq trivial]; exact e
  .simp at e
 .simp at e
theorem R6 (hr:rF rs aV) {op:BinOp} {t:Nat} {x:Operand} {d:D} (e:xt T ⟨sl,rs,df⟩ op t x=some d):xt T ⟨sl,aV,df⟩ op t x=some d:=by
 unfold xt at e ⊢
 grind [Xv]
theorem Pj (hr:rF rs aV) {sz:Nat} {i:Int} {c:C} {d:D} (e:tF rs sz i c=some d):tF aV sz i c=some d:=by
 unfold tF at e ⊢
 split at e
 .exact e
 .split at e
  .rename_i hq; rw [hr _ _ hq trivial]; exact e
  .rename_i hq; rw [hr _ _ hq trivial]; exact e
  .rename_i hq; rw [hr _ _ hq trivial]; exact e
  .simp at e
 .simp at e
theorem Uf (hr:rF rs aV) {y:Ty} {c:C} {d:D} (e:uD T rs y c=some d):uD T aV y c=some d:=by
 unfold uD at e ⊢
 split at e
 .rename_i r i j
  unfold zL at e ⊢
  split at e
  .rename_i hq; rw [hr _ _ hq trivial]; exact e
  .rename_i hq; rw [hr _ _ hq trivial]; exact e
  .rename_i hq; rw [hr _ _ hq trivial]; exact e
  .rename_i hq; rw [hr _ _ hq trivial]; exact e
  .simp at e
 all_goals grind
theorem Yd (hr:rF rs aV) {c:C} {l:List Int} (e:UU rs c=some l):UU aV c=some l:=by
 unfold UU at e ⊢
 split at e
 .split at e
  .rename_i hq; rw [hr _ _ hq trivial]; exact e
  .simp at e
 .exact e
 .simp at e
theorem Qd (hr:rF rs aV) {c:C} {n:Int} {d:D} (e:oS rs c n=some d):oS aV c n=some d:=by
 unfold oS at e ⊢
 split at e
 .exact e
 .split at e
  .rename_i hq; rw [hr _ _ hq trivial]; exact e
  .rename_i hq; rw [hr _ _ hq trivial]; exact e
  .rename_i hq; rw [hr _ _ hq trivial]; exact e
  .simp at e
 .exact e
 .simp at e
theorem QR (hr:rF rs aV) {op:Op} {d:D} (e:fw T ⟨sl,rs,df⟩ op=some d):fw T ⟨sl,aV,df⟩ op=some d:=by
 cases op with
 | binOp o t x y t2=>
   have e:A7 T ⟨sl,rs,df⟩ o t x y=some d:=e
   show A7 T ⟨sl,aV,df⟩ o t x y=some d
   unfold A7 at e ⊢
   split at e
   .exact R6 hr e
   .exact e
 | indexAddr t x i=>
   have e:pj T ⟨sl,rs,df⟩ t x i=some d:=e
   show pj T ⟨sl,aV,df⟩ t x i=some d
   grind [pj,Pj]
 | load t x=>
   have e:l7 T ⟨sl,rs,df⟩ t x=some d:=e
   show l7 T ⟨sl,aV,df⟩ t x=some d
   grind [l7,Uf]
 | lookup t x i ok=>
   have e:o5 T ⟨sl,rs,df⟩ t x i ok=some d:=e
   show o5 T ⟨sl,aV,df⟩ t x i ok=some d
   unfold o5 at e ⊢
   split at e
   .exact e
   .cases h0:Pr T t with
    | false=>rw [h0] at e; exact e
    | true=>
    rw [h0] at e
    grind [Yd]
 | slice t x l m k=>
   have e:lO T ⟨sl,rs,df⟩ t x l m k=some d:=e
   show lO T ⟨sl,aV,df⟩ t x l m k=some d
   unfold lO at e ⊢
   grind [Qd]
 | _=>exact e
end
section
variable {T:ec} {lo:Lo} {hi:Hint} {sl gB:a8} {rs aV:List ah} {df NG:List Nat}
theorem Cy (hr:rF rs aV) {q:Nat} {rec VJ:List C->Option (List I)} (uV:∀ l r,rec l=some r->VJ l=some r) {x:I} (e:kJ rs q rec=some x):kJ aV q VJ=some x:=by
 unfold kJ at e ⊢
 split at e
 case h_2=>simp at e
 rename_i h1
 split at e
 case h_2=>simp at e
 rename_i h2
 simp only [hr.nth h1 trivial,uV _ _ h2]
 exact e
theorem Cf (hr:rF rs aV) {rec VJ:List C->Option (List I)} (uV:∀ l r,rec l=some r->VJ l=some r) {c:C} {x:I} (e:oL rs rec c=some x):oL aV VJ c=some x:=by
 unfold oL at e ⊢
 split at e
 .exact e
 .exact Cy hr uV e
 .split at e
  .rename_i h1; rw [hr.nth h1 trivial]; exact e
  .rename_i h1
   rw [hr.nth h1 trivial]
   grind
  .rename_i h1; rw [hr.nth h1 trivial]; exact e
  .simp at e
 .split at e
  .rename_i h1; rw [hr.nth h1 trivial]; exact e
  .simp at e
 .exact e
 all_goals grind [Cy]
theorem Dz {α β:Type} {f g:α->Option β} (h:∀ x y,f x=some y->g x=some y):∀ {l:List α} {r:List β},sK f l=some r->sK g l=some r
 | [],r,e=>e
 | x::l,r,e=>by
   simp only [sK] at e ⊢
   split at e
   case h_2=>simp at e
   rename_i h1 h2
   simp only [h _ _ h1,Dz h h2]
   exact e
theorem tW (hr:rF rs aV):∀ (k:Nat) (l:List C) (r:List I),reify k rs l=some r->reify k aV l=some r
 | 0,l,r,e=>Dz (λx y h=>Cf hr (λ_ _ h=>h) h) e
 | k+1,l,r,e=>Dz (λx y h=>Cf hr (tW hr k) h) e
theorem C5 (hr:rF rs aV):∀ {l r:List (Bool×List C)},dZ.reifyT rs l=some r->dZ.reifyT aV l=some r
 | [],r,e=>e
 | (b,l)::m,r,e=>by
   simp only [dZ.reifyT] at e ⊢
   split at e
   case h_2=>simp at e
   rename_i h1 h2
   simp only [tW hr _ _ _ h1,C5 hr h2]
   exact e
theorem PF (hr:rF rs aV) {d d':D} (e:dZ rs d=some d'):dZ aV d=some d':=by
 cases d with
 | c x=>
   grind [dZ,tW]
 | a l=>
   grind [dZ,tW]
 | t l=>
   grind [dZ,C5]
theorem pA (hr:rF rs aV):∀ {l r:List D},dK rs l=some r->dK aV l=some r
 | [],r,e=>e
 | d::l,r,e=>by
   simp only [dK] at e ⊢
   split at e
   case h_2=>simp at e
   rename_i h1 h2
   simp only [PF hr h1,pA hr h2]
   exact e
theorem tb {rec:List C->Option (List Nat)}:∀ {l:List C},fU l=true->Ic rec rs l=some []
 | [],_=>rfl
 | c::l,h=>by
   cases c with
   | im x=>
     have:=tb (rec:=rec) (l:=l) (by simpa [fU] using h)
     show (match (some []:Option (List Nat)) with
      | some a=>match Ic rec rs l with
        | some b=>some (a++b)
        | none=>none
      | none=>none)=some []
     rw [this]; rfl
   | _=>simp [fU] at h
theorem IK:∀ {ds:List D},xf rs ds=some []->xf aV ds=some []
 | [],_=>rfl
 | d::ds,h=>by
   have h:(match KL rs d,xf rs ds with
    | some a,some b=>some (a++b)
    | _,_=>none)=some []:=h
   split at h
   case h_2=>simp at h
   rename_i m k hm hk
   simp only [aw,List.append_eq_nil_iff] at h
   obtain ⟨rfl,rfl⟩:=h
   have hd:KL aV d=some []:=by
    cases d with
    | c x=>exact tb (oo (l:=[x]) hm)
    | a l=>exact tb (oo (l:=l) hm)
    | t l=>simp [KL] at hm
   show (match KL aV d,xf aV ds with
    | some a,some b=>some (a++b)
    | _,_=>none)=some []
   rw [hd,IK hk]; rfl
theorem Bf {ds:List D} {e e':cP} (hc:∀ l,e' ≠ .cU l) (h:kq rs ds e=some e'):kq aV ds e=some e':=by
 grind [kq,IK]
theorem ZL (hr:rF rs aV) {f:FuncId} {ds:List D} {d:D} (e:B6 lo rs f ds=some d):B6 lo aV f ds=some d:=by
 grind [B6,pA]
theorem DT (hr:rF rs aV) {f:FuncId} {ds:List D} {b:Nat} {d:cP} (e:AA lo rs f ds b=some d):AA lo aV f ds b=some d:=by
 grind [AA,pA]
theorem Cw (hr:rF rs aV) {f:FuncId} {ds:List D} {e:cP} (hc:∀ l,e ≠ .cU l) (h:iC lo rs f ds=some e):iC lo aV f ds=some e:=by
 unfold iC at h ⊢
 split at h
 case h_2=>simp at h
 rename_i d hd
 simp only [ZL hr hd]
 cases hp:jc d with
 | true=>rw [hp] at h; exact h
 | false=>
   rw [hp] at h
   cases hq:og d with
   | true=>rw [hq] at h; exact Bf hc h
   | false=>rw [hq] at h; simp at h
theorem Pu (hr:rF rs aV) {f:FuncId} {ds:List D} {b:Nat} {e:cP} (hc:∀ l,e ≠ .cU l) (h:gH lo rs f ds b=some e):gH lo aV f ds b=some e:=by
 unfold gH at h ⊢
 split at h
 .rename_i ho; rw [DT hr ho]; exact h
 .rename_i ho
  rw [DT hr ho]
  simp only
  revert h
  generalize fo _=p
  intro h
  cases p with
  | true=>exact h
  | false=>exact Bf hc h
 all_goals grind [DT,Bf]
theorem ac0 (hr:rF rs aV) {f:FuncId} {ds:List D} {b:Nat} {e:cP} (h:BQ lo rs f ds b=some e):BQ lo aV f ds b=some e:=by
 grind [lA,BQ,pA]
theorem L4 {b:Nat} {f:FuncId} {ds:List D} {d:Option D} {ws:List (Nat×ah)} (h:BQ lo rs f ds b=some (.wr d ws)):∃ x,ws=[(b,x)]:=by
 obtain ⟨is,cs,tP,L,hp,hi,hc,hm,he⟩:=lA h
 grind
def Fu (lo:Lo):Prop:=∀ f ds rs rT r,rs.length=rT.length->(∀ (q:Nat) (x:ah),bh rs q=some x->x.live->bh rT q=some x)->lo.wr f ds rs=some r->lo.wr f ds rT=some r
theorem aB0 (hm:Fu lo) (hlen:rs.length=aV.length) (hr:rF rs aV) {f:FuncId} {ds:List D} {e:cP} (h:Yb lo rs f ds=some e):Yb lo aV f ds=some e:=by
 unfold Yb at h ⊢
 split at h
 case h_2=>simp at h
 rename_i d q x hd
 rw [hm _ _ _ _ _ hlen hr hd,<- hlen]
 exact h
theorem Ta (hm:Fu lo) (hlen:rs.length=aV.length) (hr:rF rs aV) {b:Nat} {f:FuncId} {ds:List D} {e:cP} (hc:∀ l,e ≠ .cU l) (ha:∀ d r,e=.all d r->rs=aV) (h:qZ lo hi rs b f ds=some e):qZ lo hi aV b f ds=some e:=by
 have hE:wo lo rs f ds=some e->wo lo aV f ds=some e:=λh=>by
  grind [wo]
 unfold qZ at h ⊢
 split at h
 .exact Cw hr hc h
 .exact hE h
 .exact Pu hr hc h
 .exact aB0 hm hlen hr h
 .exact ac0 hr h
 .cases hp:fA ds with
  | true=>rw [hp] at h; exact Cw hr hc h
  | false=>rw [hp] at h; exact hE h
theorem YM {r:Nat} {ds:List D} {e:cP} (ha:∀ d r,e=.all d r->rs=aV) (h:ER lo rs r ds=some e):ER lo aV r ds=some e:=by
 grind [ER]
theorem ac2 (hr:rF rs aV) {c:C} {x:Nat×Nat×List C} (e:Ap rs c=some x):Ap aV c=some x:=by
 unfold Ap at e ⊢
 split at e
 .exact e
 .exact e
 .split at e
  .rename_i hq; rw [hr _ _ hq trivial]; exact e
  .rename_i hq; rw [hr _ _ hq trivial]; exact e
  .simp at e
 .simp at e
theorem ZQ (hr:rF rs aV) {sz:Nat} {c:C} {x:Nat×(Nat->Nat->I)} (e:tQ sz rs c=some x):tQ sz aV c=some x:=by
 unfold tQ at e ⊢
 split at e
 .exact e
 .exact e
 .split at e
  .rename_i hq; rw [hr _ _ hq trivial]; exact e
  .rename_i hq; rw [hr _ _ hq trivial]; exact e
  .simp at e
 .simp at e
theorem aq4 (hr:rF rs aV) {c src:C} (e:Qw rs c src=true):Qw aV c src=true:=by
 unfold Qw at e ⊢
 split at e
 .split at e
  .rename_i hq; rw [hr _ _ hq trivial]
  .simp at e
 .split at e
  .rfl
  .split at e
   .rename_i hq; rw [hr _ _ hq trivial]
   .simp at e
  .simp at e
 .simp at e
theorem ZU (hr:rF rs aV) {el sz k:Nat} {l':Nat->Nat->I} {bytes b:Nat} {c:C} {e:cP} (h:sW el sz k l' bytes b rs c=some e):sW el sz k l' bytes b aV c=some e:=by
 unfold sW at h ⊢
 split at h
 .exact h
 .split at h
  .rename_i hq; rw [hr _ _ hq trivial]; exact h
  .simp at h
 .simp at h
theorem lG {l:List C} {e:cP} (h:qo rs l=some e):∃ m,e=.cU m:=by
 grind [qo]
theorem K9 {b:Nat} {t t':TypeId} {x y:Operand} {e:cP} {s:VS} (h:rp T b s [t,t'] [x,y]=some e):∃ Eb jL z0 el,T.ty t=some ⟨Eb,jL,z0,.slice el⟩/\Nat.beq t t'=true/\
  ((sb T el b s.rs (dJ (cF s.sl x)) (dJ (cF s.sl y))=some (some e))∨(sb T el b s.rs (dJ (cF s.sl x)) (dJ (cF s.sl y))=none/\qL T el b s.rs (dJ (cF s.sl x)) (dJ (cF s.sl y))=some e)):=by
 obtain ⟨h1,h2⟩:=Bool.ay (show (Bool.rec none _ (Nat.beq t t'):Option cP)=some e from h)
 grind
theorem az2 (hr:rF rs aV) {el sz k:Nat} {l':List C} {bytes b:Nat} {c:C} {e:cP} (h:GB el sz k l' bytes b rs c=some e):GB el sz k l' bytes b aV c=some e:=by
 unfold GB at h ⊢
 split at h
 .exact h
 .split at h
  .rename_i hq; rw [hr _ _ hq trivial]; exact h
  .rename_i hq; rw [hr _ _ hq trivial]; exact h
  .simp at h
 .simp at h
theorem ad4 (hr:rF rs aV) {el b:Nat} {x src:Option C} {e:cP} (h:qL T el b rs x src=some e):qL T el b aV x src=some e:=by
 unfold qL at h ⊢
 split at h
 case h_2=>simp at h
 rename_i h1
 split at h
 case h_2=>simp at h
 split at h
 all_goals grind [ac2,Bool.ay,az2]
theorem X6 (hr:rF rs aV) {el b:Nat} {x src:Option C} {e:cP} (hc:∀ l,e ≠ .cU l) (h:sb T el b rs x src=some (some e)):sb T el b aV x src=some (some e):=by
 unfold sb at h ⊢
 split at h
 all_goals grind [aq4,DK,Bool.ay,ZQ,ZU,lG]
theorem aA4 (hr:rF rs aV) {el b:Nat} {c src:C} {e:cP} (h:qL T el b rs (some c) (some src)=some e) (hg:Qw rs c src=false):Qw aV c src=false:=by
 unfold qL at h
 split at h
 case h_2=>simp at h
 simp only at h
 split at h
 case h_2=>simp at h
 rename_i h3
 have hap:∃ sz k l' bytes,GB el sz k l' bytes b rs c=some e:=by
  grind [Bool.ay]
 obtain ⟨sz,k,l',bytes,hap⟩:=hap
 unfold GB at hap
 split at hap
 .unfold Ap at h3
  split at h3
  .simp [Qw] at hg
  .rfl
  .split at h3
   .rename_i hq; simp only [Qw,hr _ _ hq trivial]
   .rename_i hq; simp [Qw,hq] at hg
   .simp at h3
  .simp at h3
 .split at hap
  .rename_i hq; simp only [Qw,hr _ _ hq trivial]
  .rename_i hq; simp only [Qw,hr _ _ hq trivial]
  .simp at hap
 .simp at hap
theorem aa3 (hr:rF rs aV) {b:Nat} {ts:List TypeId} {xs:List Operand} {e:cP} (hc:∀ l,e ≠ .cU l) (h:rp T b ⟨sl,rs,df⟩ ts xs=some e):rp T b ⟨sl,aV,df⟩ ts xs=some e:=by
 have h0:=h
 unfold rp at h ⊢
 split at h
 case h_2=>simp at h
 rename_i t t' x y
 obtain ⟨Eb,jL,z0,el,hy,ht,hcase⟩:=K9 h0
 simp only at hcase
 simp only [ht,hy]
 rcases hcase with hcase|⟨hn,hcase⟩
 .rw [X6 hr hc hcase]
 .have zd:sb T el b aV (dJ (cF sl x)) (dJ (cF sl y))=none:=by
   unfold sb at hn ⊢
   grind [aA4]
  rw [zd]
  exact ad4 hr hcase
theorem QZ (hm:Fu lo) (hlen:rs.length=aV.length) (hr:rF rs aV) {b:Nat} {dst:Option Tmp} {op:Op} {e:cP} (hc:∀ l,e ≠ .cU l) (ha:∀ d r,e=.all d r->rs=aV)
  (h:il T lo hi b ⟨sl,rs,df⟩ dst op=some e):il T lo hi b ⟨sl,aV,df⟩ dst op=some e:=by
 cases op with
 | store t x v=>
   have h:iu T ⟨sl,rs,df⟩ dst t x v=some e:=h
   show iu T ⟨sl,aV,df⟩ dst t x v=some e
   unfold iu at h ⊢
   split at h
   .simp at h
   .split at h
    case h_2=>simp at h
    rename_i h1 h2
    split at h
    case h_2=>simp at h
    rename_i h3
    obtain ⟨h4,h⟩:=Bool.ay h
    split at h
    case h_2=>simp at h
    rename_i h5
    simp only at h2 h5 ⊢
    simp only [h1,h2,h3,h4,h5]
    unfold mN at h ⊢
    split at h
    .rename_i hq; rw [hr _ _ hq trivial]; exact h
    .rename_i hq; rw [hr _ _ hq trivial]; exact h
    .rename_i hq
     simp only [hr _ _ hq trivial]
     grind [lG]
    .rename_i hq; rw [hr _ _ hq trivial]; exact h
    .simp at h
 | mapUpdate t m k v=>
   have h:n9 T ⟨sl,rs,df⟩ dst t m k v=some e:=h
   show n9 T ⟨sl,aV,df⟩ dst t m k v=some e
   unfold n9 at h ⊢
   split at h
   .simp at h
   .obtain ⟨h4,h⟩:=Bool.ay h
    split at h
    case h_2=>simp at h
    rename_i h1 h2 h3
    split at h
    case h_2=>simp at h
    rename_i h5
    simp only at h1 h2 h3 h5 ⊢
    simp only [h1,h2,h3,h4,hr _ _ h5 trivial]
    exact h
 | call c=>
   have h:iO T lo hi b ⟨sl,rs,df⟩ c=some e:=h
   show iO T lo hi b ⟨sl,aV,df⟩ c=some e
   unfold iO at h ⊢
   split at h
   .exact aa3 hr hc h
   .unfold mZ at h ⊢
    split at h
    case h_2=>simp at h
    rename_i h1 h2
    simp only at h1 h2 ⊢
    simp only [h1,h2]
    grind [YM,Ta]
   .simp at h
 | _=>exact h
theorem L5 {b:Nat} {s:VS} {dst:Option Tmp} {op:Op} {e:cP} (h:il T lo hi b s dst op=some e):fw T s op=none:=by
 cases op with
 | call c=>
   have h:iO T lo hi b s c=some e:=h
   show J4 T s c=none
   unfold iO at h
   unfold J4
   split at h
   .rename_i hc; rw [hc]; rfl
   all_goals grind
 | _=>first|rfl|simp [il] at h
theorem Kq (hm:Fu lo) (hlen:rs.length=aV.length) (hr:rF rs aV) {b:Nat} {dst:Option Tmp} {op:Op} (hs:∀ x∈op.operands.toList,cF sl x=cF gB x) {e:cP} (hc:∀ l,e ≠ .cU l) (ha:∀ d r,e=.all d r->rs=aV)
  (h:gC T lo hi b ⟨sl,rs,df⟩ dst op=some e):gC T lo hi b ⟨gB,aV,NG⟩ dst op=some e:=by
 rw [<- OZ (df:=df) (NG:=NG) hs]
 grind [gC,QR,QZ,L5]
def Shape (b:Nat) (rs:List ah) (ws:List (Nat×ah)):Prop:=
 (∃ x,ws=[(b,x)])∨(∃ q x,ws=[(q,x)]/\q<rs.length)∨(∃ q x y,ws=[(q,x),(b,y)])
theorem l8 {α:Type} {l:List α} {q:Nat} {x:α} (h:bh l q=some x):q<l.length:=by
 grind [cx,bz]
theorem Qa {el sz k:Nat} {l':List C} {bytes b:Nat} {c:C} {d:Option D} {ws:List (Nat×ah)} (h:GB el sz k l' bytes b rs c=some (.wr d ws)):Shape b rs ws:=by
 unfold GB at h
 split at h
 .split at h
  .simp at h
  .replace h:=(Bool.ay h).2
   simp only [aw,cP.wr.injEq] at h
   exact .inl ⟨_,h.2.symm⟩
 .split at h
  .replace h:=(Bool.ay h).2
   replace h:=(Bool.ay h).2
   simp only [aw,cP.wr.injEq] at h
   exact .inr (.inr ⟨_,_,_,h.2.symm⟩)
  .split at h
   .replace h:=(Bool.ay h).2
    replace h:=(Bool.ay h).2
    simp only [aw,cP.wr.injEq] at h
    exact .inr (.inr ⟨_,_,_,h.2.symm⟩)
   .simp at h
  .simp at h
 .simp at h
theorem uj {el sz n size r i j:Nat} {get:Nat->Nat->O} {eI:Option (Nat×List Fc)} {cs:List C} {e:cP} (h:qs el sz n get eI size r i j cs=some e):∃ x,e=.wr none [(r,x)]:=by
 grind [qs,Bool.ay]
theorem uy {el sz n size r i j:Nat} {get:Nat->Nat->O} {eI:Option (Nat×List Fc)} {cs:List C} {e:cP} (h:s7 el sz n get eI size r i j cs=some e):∃ x,e=.wr none [(r,x)]:=by
 unfold s7 at h
 split at h
 .exact uj h
 .rename_i x
  cases hb:Nat.beq i x.1 with
  | false=>rw [hb] at h; exact uj h
  | true=>
    rw [hb] at h
    grind [Bool.ay]
theorem Kr {el sz k:Nat} {l':Nat->Nat->I} {bytes b:Nat} {c:C} {d:Option D} {ws:List (Nat×ah)} (h:sW el sz k l' bytes b rs c=some (.wr d ws)):Shape b rs ws:=by
 unfold sW at h
 split at h
 .replace h:=(Bool.ay h).2
  simp only [aw,cP.wr.injEq] at h
  exact .inl ⟨_,h.2.symm⟩
 .split at h
  .replace h:=(Bool.ay h).2
   replace h:=(Bool.ay h).2
   replace h:=(Bool.ay h).2
   simp only [aw,cP.wr.injEq] at h
   exact .inr (.inr ⟨_,_,_,h.2.symm⟩)
  .simp at h
 .simp at h
theorem Bd {ds:List D} {e:cP} {d:Option D} {ws:List (Nat×ah)} (h:kq rs ds e=some (.wr d ws)):e=.wr d ws:=by
 rcases pg h with ⟨l,hl⟩|⟨h,_⟩
 all_goals grind
theorem uN {f:FuncId} {ds:List D} {d:Option D} {ws:List (Nat×ah)} (h:iC lo rs f ds=some (.wr d ws)):False:=by
 unfold iC at h
 split at h
 case h_2=>simp at h
 rename_i d hd
 cases hp:jc d with
 | true=>rw [hp] at h; simp at h
 | false=>
   rw [hp] at h
   have h:=Bd (Bool.ay h).2
   cases h
theorem FJ {b:Nat} {f:FuncId} {ds:List D} {d:Option D} {ws:List (Nat×ah)} (h:gH lo rs f ds b=some (.wr d ws)):Shape b rs ws:=by
 unfold gH at h
 split at h
 .simp at h
 .rename_i d1 q el sz n l ho
  rcases oe ho with ⟨is,q',n',rT,tN,dE,l',_,_,_,_,_,hws⟩|⟨is,q',n',rT,tN,dE,l',_,_,_,_,hws⟩
  case inr=>simp at hws
  simp only [List.cons.injEq,bN,and_true] at hws
  obtain ⟨rfl,_⟩:=hws
  revert h
  generalize fo _=p
  intro h
  cases p with
  | true=>simp only [aw,cP.wr.injEq] at h; exact .inl ⟨_,h.2.symm⟩
  | false=>have h:=Bd h; simp only [cP.wr.injEq] at h; exact .inl ⟨_,h.2.symm⟩
 .rename_i d1 q el sz n get ho
  rcases oe ho with ⟨is,q',n',rT,tN,dE,l',_,_,_,_,_,hws⟩|⟨is,q',n',rT,tN,dE,l',_,_,_,_,hws⟩
  case inl=>simp at hws
  simp only [List.cons.injEq,bN,and_true] at hws
  obtain ⟨rfl,_⟩:=hws
  have h:=Bd h
  simp only [cP.wr.injEq] at h
  exact .inl ⟨_,h.2.symm⟩
 .simp at h
theorem yU {f:FuncId} {ds:List D} {d:Option D} {ws:List (Nat×ah)} (h:wo lo rs f ds=some (.wr d ws)):False:=by
 unfold wo at h
 split at h<;>simp at h
theorem Ab {b:Nat} {s:VS} {dst:Option Tmp} {op:Op} {d:Option D} {ws:List (Nat×ah)} (h:gC T lo hi b s dst op=some (.wr d ws)):Shape b s.rs ws:=by
 unfold gC at h
 split at h
 .simp at h
 .cases op with
  | box t x=>
    have h:xJ b s x=_:=h
    unfold xJ at h
    split at h
    .split at h
     .simp only [aw,cP.wr.injEq] at h; exact .inl ⟨_,h.2.symm⟩
     .simp at h
    .simp at h
  | alloc t=>
    have h:lH T b t=_:=h
    unfold lH at h
    split at h
    .split at h
     .simp only [aw,cP.wr.injEq] at h; exact .inl ⟨_,h.2.symm⟩
     .simp at h
    .simp at h
  | store t x v=>
    have h:iu T s dst t x v=_:=h
    unfold iu at h
    split at h
    .simp at h
    .split at h
     case h_2=>simp at h
     split at h
     case h_2=>simp at h
     replace h:=(Bool.ay h).2
     split at h
     case h_2=>simp at h
     unfold mN at h
     split at h
     .rename_i hq
      split at h
      .split at h
       .simp only [aw,cP.wr.injEq] at h; exact .inr (.inl ⟨_,_,h.2.symm,l8 hq⟩)
       .simp at h
      .simp at h
     .rename_i hq
      split at h
      .simp only [aw,cP.wr.injEq] at h; exact .inr (.inl ⟨_,_,h.2.symm,l8 hq⟩)
      .simp at h
     .rename_i hq
      split at h
      .replace h:=(Bool.ay h).2
       replace h:=(Bool.ay h).2
       simp only [aw,cP.wr.injEq] at h; exact .inr (.inl ⟨_,_,h.2.symm,l8 hq⟩)
      .obtain ⟨m,hm⟩:=lG h
       cases hm
     .rename_i hq
      obtain ⟨x,hx⟩:=uy h
      simp only [cP.wr.injEq] at hx
      exact .inr (.inl ⟨_,_,hx.2,l8 hq⟩)
     .simp at h
  | buildSlice t n ps=>
    have h:Qy T b s (Dc hi dst) t n ps.toList=_:=h
    unfold Qy at h
    split at h
    case h_2=>simp at h
    split at h
    case h_2=>simp at h
    split at h
    case h_2=>simp at h
    split at h
    case h_2=>simp at h
    replace h:=(Bool.ay h).2
    rcases kA (Dc hi dst) b _ _ n _ with hc|⟨_,_,hc⟩|⟨_,hc⟩
    .rw [hc] at h
     simp only [aw,cP.wr.injEq] at h; exact .inl ⟨_,h.2.symm⟩
    .rw [hc] at h; simp at h
    .rw [hc] at h
     simp only [aw,cP.wr.injEq] at h; exact .inl ⟨_,h.2.symm⟩
  | makeSlice t l c=>
    have h:nR T b s t l c=_:=h
    unfold nR at h
    split at h
    case h_2=>simp at h
    split at h
    case h_2=>simp at h
    split at h
    case h_2=>simp at h
    split at h
    case h_2=>simp at h
    split at h
    case h_2=>simp at h
    replace h:=(Bool.ay h).2
    replace h:=(Bool.ay h).2
    replace h:=(Bool.ay h).2
    simp only [aw,cP.wr.injEq] at h; exact .inl ⟨_,h.2.symm⟩
  | makeMap t r=>
    have h:lB T b t r=_:=h
    unfold lB at h
    split at h
    .simp only [aw,cP.wr.injEq] at h; exact .inl ⟨_,h.2.symm⟩
    .simp at h
  | mapUpdate t m k v=>
    have h:n9 T s dst t m k v=_:=h
    unfold n9 at h
    split at h
    .simp at h
    .replace h:=(Bool.ay h).2
     split at h
     case h_2=>simp at h
     split at h
     case h_2=>simp at h
     rename_i hq
     simp only [aw,cP.wr.injEq] at h; exact .inr (.inl ⟨_,_,h.2.symm,l8 hq⟩)
  | call c=>
    have h:iO T lo hi b s c=_:=h
    unfold iO at h
    split at h
    .unfold rp at h
     split at h
     case h_2=>simp at h
     replace h:=(Bool.ay h).2
     split at h
     case h_2=>simp at h
     split at h
     .rename_i e' he'
      subst h
      unfold sb at he'
      split at he'
      all_goals grind [DK,Kr,Bool.ay,qo]
     unfold qL at h
     split at h
     case h_2=>simp at h
     split at h
     all_goals grind [Qa,Bool.ay]
    .unfold mZ at h
     split at h
     case h_2=>simp at h
     split at h
     .unfold ER at h
      split at h<;>simp at h
     .split at h
      case h_2=>simp at h
      unfold qZ at h
      split at h
      .exact (uN h).elim
      .exact (yU h).elim
      .exact FJ h
      .unfold Yb at h
       split at h
       case h_2=>simp at h
       rename_i d' q x hd
       obtain ⟨hq,h⟩:=Bool.ay h
       simp only [aw,cP.wr.injEq] at h
       exact .inr (.inl ⟨q,x,h.2.symm,by simp_all⟩)
      .exact .inl (L4 h)
      .revert h
       generalize fA _=p
       intro h
       cases p with
       | true=>exact (uN h).elim
       | false=>exact (yU h).elim
    .simp at h
  | _=>simp [il] at h
theorem qP {b b':Nat} {s:VS} {dst:Option Tmp} {op:Op} (h:eL op=0):gC T lo hi b s dst op=gC T lo hi b' s dst op:=by
 unfold gC
 have:il T lo hi b s dst op=il T lo hi b' s dst op:=by
  cases op with
  | call c=>
    show iO T lo hi b s c=iO T lo hi b' s c
    have h:LY c.callee=0:=h
    grind [iO,LY]
  | _=>first|rfl|simp [eL] at h
 rw [this]
end
open Go.RowKit
section
variable {P:Program} {T:ec} {lo:Lo} {hi:Hint} {N:Nat} {aA:Nat->Prop} {w0:Kp} {sp:List (D×Value)} {s:VS} {a:Act} {w:World} {E:Env} {ρ:Option Nat}
theorem wx {sl:a8}:∀ {l:List Tmp},bT (xa sl l)
 | [],x,hx=>by cases hx
 | t::l,x,hx=>by
   simp only [xa] at hx
   split at hx
   .cases hx with
    | head=>rfl
    | tail _ hx=>exact wx x hx
   .exact wx x hx
theorem ra:∀ {l:List Tmp} {sl:a8} {t:Tmp} {d:D} {c:fj},look (xa sl l) t=some (d,c)->c=[]/\look sl t=some (d,[])
 | [],sl,t,d,c,h=>by simp [xa,look] at h
 | k::l,sl,t,d,c,h=>by
   simp only [xa] at h
   split at h
   .rename_i d' hk
    simp only [look] at h
    split at h
    .simp_all
    .exact ra h
   .exact ra h
theorem MC (h:R T N aA w0 sp s a w E) (hn:bT s.sl) (f:FuncId) (id:Nat):R T N aA w0 sp (uK hi f id s) a w E/\bT (uK hi f id s).sl:=by
 unfold uK
 split
 .exact ⟨⟨h.size,h.defers,h.spec,h.below,h.len,h.outer,h.roots,h.dp,h.dT,λt d c hl=>by
   obtain ⟨rfl,h1⟩:=ra hl
   exact h.slots t d [] h1,h.gP⟩,wx⟩
 .exact ⟨h,hn⟩
theorem zn (bZ:dU P T) (hl:iv T P lo) (h:R T N aA w0 sp s a w E) (hn:bT s.sl) {f:FuncId} {ro:Option Nat} {id:Nat} {ops:Array Oper} {s':VS} (e:regionF T lo hi N f ro id ops.toList false s=some s')
  {b:Frame} {k:List Item} {cs:List Frame}:∃ a' w' E',Kept E E'/\R T N aA w0 sp s' a' w' E'/\bT s'.sl/\Steps P (lone (b.atR a (.code (.region id ops false)::k)) cs w) (lone (b.atR a' k) cs w'):=by
 unfold regionF at e
 simp only at e
 split at e
 case h_2=>simp at e
 rename_i s1 hs1
 simp only [aw] at e
 subst e
 have hw:=tu (ρ:=b.roundOf) (Q:=λen a' w'=>en=.normal/\∃ E',Kept E E'/\R T N aA w0 sp s1 a' w' E'/\bT s1.sl) bZ hl (λa' w' E' hk h1 h2=>⟨rfl,E',hk,h1,h2⟩) hs1 (Kept.refl E) h hn
 obtain ⟨en,a',w',⟨rfl,E',hk,h1,h2⟩,harr⟩:=wpIn_region_list (id:=id) hw b k cs rfl trivial (ML _ _)
 obtain ⟨h3,h4⟩:=MC (hi:=hi) h1 h2 f id
 exact ⟨a',w',E',hk,h3,h4,StepsIn.steps harr⟩
end
section
theorem cj {α:Type} (l:List α) (i:Nat):bh l i=l[i]?:=by rw [cx,bz]
theorem sI {acc:List Nat} {j:Nat}:∀ {l:List Edge} {m:Nat},(pH acc l m).testBit j=true↔(m.testBit j=true∨∃ e∈l,Region.binds .any e=true/\(j=e.on∨∃ x,acc[e.on]?=some x/\x.testBit j=true))
 | [],m=>by simp [pH]
 | e::l,m=>by
   have hun:pH acc (e::l) m=(Bool.rec (pH acc l m) (pH acc l (Nat.lor (Nat.lor (Nat.shiftLeft 1 e.on) m) (match bh acc e.on with
    | some x=>x
    | none=>0))) (Region.binds .any e):Nat):=rfl
   rw [hun]
   cases hb:Region.binds .any e with
   | false=>
     show (pH acc l m).testBit j=true↔_
     rw [sI]
     grind
   | true=>
     show (pH acc l (((1 <<< e.on) ||| m) ||| (match bh acc e.on with
      | some x=>x
      | none=>0))).testBit j=true↔_
     rw [sI,cj]
     grind [Nat.one_shiftLeft]
theorem Bo:∀ (l:List Oper) (acc:List Nat),∃ rest,jT l acc=acc++rest/\rest.length=l.length/\∀ i o,l[i]?=some o->rest[i]?=some (pH (acc++rest.take i) o.after.toList 0)
 | [],acc=>⟨[],by simp [jT],rfl,λi o h=>by simp at h⟩
 | o::l,acc=>by
   obtain ⟨rest,h1,h2,h3⟩:=Bo l (acc++[pH acc o.after.toList 0])
   refine ⟨pH acc o.after.toList 0::rest,?_,by simp [h2],λi o' h=>?_⟩
   .show jT l (acc++[pH acc o.after.toList 0])=_
    rw [h1]; simp
   .cases i with
    | zero=>simp at h; subst h; simp
    | succ i=>
      grind
structure Anc (ops:List Oper) (A:List Nat):Prop where
 len:A.length=ops.length
 bits:∀ i o m,ops[i]?=some o->A[i]?=some m->∀ j,m.testBit j=true↔∃ e∈o.after.toList,Region.binds .any e=true/\(j=e.on∨∃ x,(A.take i)[e.on]?=some x/\x.testBit j=true)
theorem aC0 (ops:List Oper):Anc ops (jT ops []):=by
 obtain ⟨rest,h1,h2,h3⟩:=Bo ops []
 rw [List.nil_append] at h1
 rw [h1]
 refine ⟨h2,λi o m ho hm j=>?_⟩
 grind [sI]
theorem xr:∀ {l:List Nat} {k:Nat},Eg l k=true->∀ i m,l[i]?=some m->∀ j,m.testBit j=true->j<k+i
 | [],k,h,i,m,hm,j,hj=>by simp at hm
 | x::l,k,h,i,m,hm,j,hj=>by
   have h:(Bool.rec false (Eg l (k+1)) (Nat.blt x (Nat.shiftLeft 1 k)):Bool)=true:=h
   have h1:Nat.blt x (Nat.shiftLeft 1 k)=true/\Eg l (k+1)=true:=by
    cases hb:Nat.blt x (Nat.shiftLeft 1 k) with
    | true=>rw [hb] at h; exact ⟨rfl,h⟩
    | false=>rw [hb] at h; simp at h
   cases i with
   | zero=>
     simp at hm
     subst hm
     have eW:x<2 ^ k:=by
      have:=bc h1.1
      rwa [show Nat.shiftLeft 1 k=1 <<< k from rfl,Nat.one_shiftLeft] at this
     grind [Nat.testBit_lt_two_pow,Nat.lt_of_lt_of_le,Nat.pow_le_pow_right]
   | succ i=>
     simp only [List.getElem?_cons_succ] at hm
     have:=xr h1.2 i m hm j hj
     omega
theorem Bool.gU {x b:Bool} (h:(Bool.rec false x b:Bool)=true):b=true/\x=true:=by
 cases b with
 | false=>simp at h
 | true=>exact ⟨rfl,h⟩
theorem yW {t:Tmp}:∀ {l:List Oper} {k j:Nat},rl t l k=some j->∃ i o,j=k+i/\l[i]?=some o/\o.dst=some t
 | [],k,j,h=>by simp [rl] at h
 | o::l,k,j,h=>by
   have h:(match o.dst with
    | some t'=>(Bool.rec (rl t l (k+1)) (some k) (Nat.beq t t'):Option Nat)
    | none=>rl t l (k+1))=some j:=h
   have go:rl t l (k+1)=some j->∃ i o',j=k+i/\(o::l)[i]?=some o'/\o'.dst=some t:=λh=>by
    obtain ⟨i,o',h1,h2,h3⟩:=yW h
    exact ⟨i+1,o',by omega,by simpa using h2,h3⟩
   split at h
   .rename_i t' ht
    cases hb:Nat.beq t t' with
    | true=>
      simp_all
    | false=>rw [hb] at h; exact go h
   .exact go h
theorem sR {t:Tmp}:∀ {l:List Oper} {k:Nat},rl t l k=none->∀ (i:Nat) (o:Oper),l[i]?=some o->o.dst≠some t
 | [],k,h,i,o',ho=>by simp at ho
 | o::l,k,h,i,o',ho=>by
   have h:(match o.dst with
    | some t'=>(Bool.rec (rl t l (k+1)) (some k) (Nat.beq t t'):Option Nat)
    | none=>rl t l (k+1))=none:=h
   have both:o.dst≠some t/\rl t l (k+1)=none:=by
    split at h
    .rename_i t' ht
     cases hb:Nat.beq t t' with
     | true=>rw [hb] at h; simp at h
     | false=>
       rw [hb] at h
       grind [Nat.beq_refl]
    grind
   cases i with
   | zero=>grind
   | succ i=>exact sR both.2 i o' (by simpa using ho)
theorem Aw:∀ {l:List Oper},H6 l=true->∀ (i j:Nat) (o o':Oper) (t:Tmp),l[i]?=some o->l[j]?=some o'->o.dst=some t->o'.dst=some t->i=j
 | [],h,i,j,o,o',t,h1,h2,h3,h4=>by simp at h1
 | x::l,h,i,j,o,o',t,h1,h2,h3,h4=>by
   have h:(match x.dst with
    | some t=>(Bool.rec false (H6 l) (JW t l):Bool)
    | none=>H6 l)=true:=h
   have both:H6 l=true/\∀ t,x.dst=some t->∀ (i:Nat) (o:Oper),l[i]?=some o->o.dst≠some t:=by
    grind [Bool.gU,JW,sR]
   cases i with
   | zero=>
     grind
   | succ i=>
     cases j with
     | zero=>
       grind
     | succ j=>rw [Aw both.1 i j o o' t (by simpa using h1) (by simpa using h2) h3 h4]
theorem lS {ops:List Oper} {m:Nat}:∀ {l:List Operand},uC ops m l=true->∀ t,.tmp t∈l->N1 ops m t=true
 | [],h,t,ht=>by simp at ht
 | x::l,h,t,ht=>by
   cases x with
   | tmp k=>
     have h:(Bool.rec false (uC ops m l) (N1 ops m k):Bool)=true:=h
     rcases List.mem_cons.1 ht with e|ht
     .grind [Bool.gU]
     .exact lS (Bool.gU h).2 t ht
   | const v=>
     have h:uC ops m l=true:=h
     rcases List.mem_cons.1 ht with e|ht
     .cases e
     .exact lS h t ht
   | func f=>
     have h:uC ops m l=true:=h
     rcases List.mem_cons.1 ht with e|ht
     .cases e
     .exact lS h t ht
   | global g=>
     have h:uC ops m l=true:=h
     rcases List.mem_cons.1 ht with e|ht
     .cases e
     .exact lS h t ht
theorem xB {ops:List Oper}:∀ {l:List Oper} {ms:List Nat},Mg ops l ms=true->∀ (i:Nat) (o:Oper) (m:Nat),l[i]?=some o->ms[i]?=some m->E5 m o.guard=true/\uC ops m o.op.operands.toList=true
 | [],ms,h,i,o,m,h1,h2=>by simp at h1
 | x::l,[],h,i,o,m,h1,h2=>by simp at h2
 | x::l,y::ms,h,i,o,m,h1,h2=>by
   have h:(Bool.rec false (Mg ops l ms) (E5 y x.guard&&uC ops y x.op.operands.toList):Bool)=true:=h
   obtain ⟨h3,h4⟩:=Bool.gU h
   cases i with
   | zero=>grind
   | succ i=>exact xB h4 i o m (by simpa using h1) (by simpa using h2)
noncomputable def eC (us:Nat->l3) (s0:VS) (L:Nat->Bool):Nat->VS
 | 0=>s0
 | k+1=>match L k with
   | true=>(us k).on (eC us s0 L k)
   | false=>eC us s0 L k
structure View (α:Type) where
 f:VS->α
 act:l3->α->α
 pO:l3->Prop
 on:∀ u s,f (u.on s)=act u (f s)
 idle:∀ u x,¬ pO u->act u x=x
section
variable {α:Type} (v:View α) {us:Nat->l3} {s0:VS} {L L':Nat->Bool}
theorem View.agree:∀ {m:Nat},(∀ k,k<m->v.pO (us k)->L k=L' k)->v.f (eC us s0 L m)=v.f (eC us s0 L' m)
 | 0,_=>rfl
 | m+1,h=>by
   have ih:=View.agree (m:=m) λk hk=>h k (by omega)
   simp only [eC]
   by_cases ht:v.pO (us m)
   .rw [h m (by omega) ht]
    split
    .rw [v.on,v.on,ih]
    .exact ih
   .split<;>split
    .rw [v.on,v.on,ih]
    .rw [v.on,v.idle _ _ ht,ih]
    .rw [v.on,v.idle _ _ ht,ih]
    .exact ih
theorem View.tail {i:Nat}:∀ {m:Nat},i<=m->(∀ k,i<=k->k<m->L k=true->¬ v.pO (us k))->v.f (eC us s0 L m)=v.f (eC us s0 L i)
 | 0,hi,_=>by rw [show i=0 by omega]
 | m+1,hi,h=>by
   rcases Nat.lt_or_ge i (m+1) with nA|nA
   .have ih:=View.tail (i:=i) (m:=m) (by omega) λk h1 h2=>h k h1 (by omega)
    rw [<- ih]
    simp only [eC]
    split
    .rename_i hL
     rw [v.on,v.idle _ _ (h m (by omega) (by omega) hL)]
    .rfl
   .rw [show i=m+1 by omega]
def more (L:Nat->Bool) (i k:Nat):Bool:=bif k==i then true else L k
theorem lx (i:Nat):more L i i=true:=by simp [more]
theorem jJ {i k:Nat} (h:k≠i):more L i k=L k:=by simp [more,h]
theorem View.step {i n:Nat} (hi:i<n) (hL:L i=false) (h:v.pO (us i)->∀ k,i<k->k<n->L k=true->¬ v.pO (us k)):v.f ((us i).on (eC us s0 L n))=v.f (eC us s0 (more L i) n):=by
 rw [v.on]
 by_cases ht:v.pO (us i)
 .have h:=h ht
  rw [v.tail (i:=i+1) (by omega) λk h1 h2 h3=>h k (by omega) h2 h3]
  rw [v.tail (L:=more L i) (i:=i+1) (by omega) λk h1 h2 h3=>h k (by omega) h2 (by rwa [jJ (by omega)] at h3)]
  simp only [eC,hL,lx]
  rw [v.on]
  rw [v.agree (L:=L) (L':=more L i) λk hk _=>(jJ (by omega)).symm]
 .rw [v.idle _ _ ht]
  exact v.agree λk hk qD=>by
   rw [jJ]
   grind
end
theorem o4 {us:Nat->l3} {s0:VS} {L:Nat->Bool} {i:Nat}:∀ {n:Nat},i<=n->eC us s0 (λk=>L k&&decide (k<i)) n=eC us s0 L i
 | 0,h=>by rw [show i=0 by omega]; rfl
 | n+1,h=>by
   rcases Nat.lt_or_ge n i with hn|hn
   .have hi:i=n+1:=by omega
    subst hi
    have:∀ m,m<=n+1->eC us s0 (λk=>L k&&decide (k<n+1)) m=eC us s0 L m:=by
     intro m
     induction m with
     | zero=>intro _; rfl
     | succ m ih=>
       grind [eC]
    grind
   .simp only [eC]
    rw [show (L n&&decide (n<i))=false by grind]
    exact o4 hn
theorem BB (k:Tmp) (d:D) (c:fj) (sl:a8) (t:Tmp):eT ((k,d,c)::sl) t=(Bool.rec (eT sl t) (some d) (Nat.beq k t):Option D):=rfl
def l3.at (u:l3) (t:Tmp):Option D:=match u.dst with
 | some t'=>match u.val with
   | some d=>match Nat.beq t' t with
     | true=>some d
     | false=>none
   | none=>none
 | none=>none
noncomputable def WS (t:Tmp):View (Option D) where
 f s:=eT s.sl t
 act u x:=match u.at t with
  | some d=>some d
  | none=>x
 pO u:=u.at t≠none
 on u s:=by
  unfold l3.on BW l3.at
  cases u.dst with
  | none=>rfl
  | some t' =>
    cases u.val with
    | none=>rfl
    | some d=>
      simp only [BB]
      cases Nat.beq t' t<;>rfl
 idle u x h:=by
  grind
theorem l3.aI0 {u:l3} {t:Tmp} (h:u.at t≠none):u.dst=some t:=by
 grind [l3.at,cE]
def Pn (q:Nat):List (Nat×ah)->Option ah->Option ah
 | [],x=>x
 | p::ws,x=>Pn q ws (match Nat.beq p.1 q with
   | true=>match x with
     | some _=>some p.2
     | none=>none
   | false=>x)
theorem zt (q:Nat):∀ (ws:List (Nat×ah)) (rs:List ah),bh (writes ws rs) q=Pn q ws (bh rs q)
 | [],rs=>rfl
 | p::ws,rs=>by
   show bh (writes ws (setAt rs p.1 p.2)) q=_
   rw [zt q ws]
   grind [Pn,cj,bg,cE,Nat.beq_refl]
theorem Ci {q:Nat}:∀ {ws:List (Nat×ah)} {x:Option ah},q ∉ ws.map (·.1)->Pn q ws x=x
 | [],x,_=>rfl
 | p::ws,x,h=>by
   simp only [List.map_cons,List.mem_cons,not_or] at h
   simp only [Pn]
   have:Nat.beq p.1 q=false:=by
    grind [cE]
   rw [this]
   exact Ci h.2
noncomputable def WZ (q:Nat):View (Option ah) where
 f s:=bh s.rs q
 act u x:=Pn q u.ws (match u.al with
  | some rs=>bh rs q
  | none=>x)
 pO u:=u.al≠none∨q∈u.ws.map (·.1)
 on u s:=by
  have:(u.on s).rs=writes u.ws (D4 u.al s.rs):=by
   unfold l3.on BW
   grind
  grind [zt,D4]
 idle u x h:=by
  grind [Ci]
end
end Go.V
