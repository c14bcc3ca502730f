/- A root in a place kept free; what the relation says of rows. -/
import Derived.Test.YtgbbdaegmfjahaaP1
set_option linter.unusedSimpArgs false
set_option linter.unusedVariables false
namespace Go.V
open Go.RowKit
section
variable {P:Program} {T:dL} {N:Nat} {ay:Nat->Prop} {w0:Kp} {sp:List (D×Value)} {s:VS} {a:Act} {w:World} {E:Env}
theorem QA {E:Env} {b r k z:Nat} {e:fA} (h:cU (E.set b e) r k z):(r≠b/\cU E r k z)∨(r=b/\e.has k):=by
 obtain ⟨hh,h,h2,h3⟩:=h
 rw [dI] at h
 split at h
 .rename_i hq
  subst hq
  split at h
  .simp only [ak] at h; subst h; exact .inr ⟨rfl,h3⟩
  .simp at h
 .rename_i hq; exact .inl ⟨λe=>hq e.symm,hh,h,h2,h3⟩
theorem R.Ww (h:R T N ay w0 sp s a w E) (n:Nat):R T N ay w0 sp { s with rs:=s.rs++List.replicate n .dead } a w (E++List.replicate n hole):=by
 have hE:=Env.eb E (List.replicate n hole)
 have key:∀ (r:Nat) (y:ag),(s.rs++List.replicate n .dead)[r]?=some y->y.live->s.rs[r]?=some y:=by
  intro r y h1 h2
  rcases Nat.lt_or_ge r s.rs.length with hr|hr
  .rwa [dv hr] at h1
  .rw [gm hr,List.getElem?_replicate] at h1
   split at h1
   .simp only [ak] at h1; subst h1; exact h2.elim
   .simp at h1
 have keyE:∀ (r b sz:Nat),cU (E++List.replicate n hole) r b sz->cU E r b sz:=by
  rintro r b sz ⟨hh,h1,h2⟩
  rcases Nat.lt_or_ge r E.length with hr|hr
  .rw [dv hr] at h1; exact ⟨hh,h1,h2⟩
  .rw [gm hr,List.getElem?_replicate] at h1
   split at h1
   .simp only [ak] at h1
    subst h1
    exact (Ke h2.2).elim
   .simp at h1
 have eG:∀ b,b<w.heap.size->AV ay (s.rs++List.replicate n .dead) (E++List.replicate n hole) b->AV ay s.rs E b:=
  lW λr y b sz h1 h2 h3 _=>.inr ⟨r,y,sz,key r y h1 h2,h2,keyE _ _ _ h3⟩
 refine h.zi hE (ba.refl _ w) h.below eG (by simp [h.len]) ?_ ?_ ?_
 .intro r x e h1 h2
  rcases Nat.lt_or_ge r s.rs.length with hr|hr
  .rw [dv hr] at h1
   rw [dv (by rw [h.len]; exact hr)] at h2
   exact aP.mono hE (ba.refl _ w) eG (λ_ _ _=>rfl) (h.roots r x e h1 h2)
  .rw [gm hr,List.getElem?_replicate] at h1
   split at h1
   .simp only [ak] at h1; subst h1; trivial
   .simp at h1
 .intro r x b sz h1 h2 h3
  exact h.cS r x b sz (key r x h1 h2) h2 (keyE _ _ _ h3)
 .intro r r' x x' b sz cF h1 ku h2 gk h3 kL
  exact h.dD r r' x x' b sz cF (key r x h1 h2) (key r' x' ku gk) h2 gk (keyE _ _ _ h3) (keyE _ _ _ kL)
theorem R.at (h:R T N ay w0 sp s a w E) {b:Nat} {dead:Option Nat} {x:ag} {e:fA} {w':World} {row:Option Nat}
  (hb:s.rs[b]?=some .dead) (hE:E[b]?=some hole) (hg:w.grownBy w' row)
  (nv:∀ k,row=some k->∃ r y q,dead=some r/\s.rs[r]?=some y/\y.live/\bq E r k q)
  (iX:∀ k,e.1=some k->some k=row∨w.heap.size<=k) (dB:∀ k,e.1=some k->k<w'.heap.size)
  (hx:(∀ k,k<w.heap.size->AV ay ((kill dead s.rs).set b x) (E.set b e) k->AV ay s.rs E k)->(∀ k,AV ay ((kill dead s.rs).set b x) (E.set b e) k->AV ay s.rs E k∨e.has k)->ba (AV ay s.rs E) w w'->aP (E.set b e) (AV ay ((kill dead s.rs).set b x) (E.set b e)) w0.base w' e x)
  (sg:∀ k,e.2.1.2 k->(∃ r y q,dead=some r/\s.rs[r]?=some y/\y.live/\cU E r k q)∨(w.heap.size<=k/\k<w'.heap.size):=by intro k hk; exact hk.elim) :
  R T N ay w0 sp { s with rs:=(kill dead s.rs).set b x } a w' (E.set b e)/\(∀ k,k<w.heap.size->AV ay ((kill dead s.rs).set b x) (E.set b e) k->AV ay s.rs E k)/\∀ k,AV ay ((kill dead s.rs).set b x) (E.set b e) k->AV ay s.rs E k∨e.has k:=by
 have hle:=h.size_le
 have hEle:=Env.yi e hE
 let fa:=kill dead s.rs
 have hlen1:fa.length=s.rs.length:=by
  simp only [fa]; cases dead<;>simp [kill]
 have hrow':∀ k,row=some k->w0.In k:=by
  intro k hk
  obtain ⟨r,y,q,_,h2,h3,h4⟩:=nv k hk
  exact (h.blk r y k q h2 h3 h4).1
 have old:∀ (q:Nat) (y:ag),fa[q]?=some y->y.live->s.rs[q]?=some y/\dead≠some q:=by
  intro q y h1 h2
  simp only [fa] at h1
  cases dead with
  | some r=>
    simp only [kill] at h1
    rw [dI] at h1
    split at h1
    .rename_i hq
     subst hq
     split at h1
     .cases h1; exact h2.elim
     .simp at h1
    .rename_i hq
     exact ⟨h1,λe=>hq (by simpa using e)⟩
  | none=>exact ⟨h1,by simp⟩
 have hk:ba (AV ay s.rs E) w w':=⟨hg.size,λk hk hn=>hg.block k hk λe=>by
  obtain ⟨r,x,q,_,h2,h3,h4⟩:=nv k e.symm
  exact hn (.inr ⟨r,x,q,h2,h3,h4.own⟩)⟩
 have key:∀ (q:Nat) (y:ag) (k z:Nat),(fa.set b x)[q]?=some y->y.live->cU (E.set b e) q k z->
   (s.rs[q]?=some y/\dead≠some q/\q≠b/\cU E q k z)∨(q=b/\e.has k):=by
  intro q y k z h1 h2 h3
  rcases QA h3 with ⟨h4,h5⟩|h4
  .rw [dI,if_neg (λe=>h4 e.symm)] at h1
   obtain ⟨h6,h7⟩:=old q y h1 h2
   exact .inl ⟨h6,h7,h4,h5⟩
  .exact .inr h4
 have eG:∀ k,k<w.heap.size->AV ay (fa.set b x) (E.set b e) k->AV ay s.rs E k:=by
  refine lW λq y k z h1 h2 h3 h4=>?_
  rcases key q y k z h1 h2 h3 with ⟨h5,_,_,h6⟩|⟨_,h6⟩
  .exact .inr ⟨q,y,z,h5,h2,h6⟩
  .rcases h6 with h6|h6
   .rcases iX k h6 with h7|h7
    .obtain ⟨r,x,q,_,h8,h9,qj⟩:=nv k h7.symm
     exact .inr ⟨r,x,q,h8,h9,qj.own⟩
    .omega
   .rcases sg k h6 with ⟨r,x,q,_,h8,h9,qj⟩|h7
    .exact .inr ⟨r,x,q,h8,h9,qj⟩
    .omega
 have sD:∀ k,AV ay (fa.set b x) (E.set b e) k->AV ay s.rs E k∨e.has k:=by
  rintro k (q|⟨q,y,z,h1,h2,h3⟩)
  .exact .inl (.inl q)
  .rcases key q y k z h1 h2 h3 with ⟨h5,_,_,h6⟩|⟨_,h6⟩
   .exact .inl (.inr ⟨q,y,z,h5,h2,h6⟩)
   .exact .inr h6
 have hx:=hx eG sD hk
 have apart:∀ (q:Nat) (y:ag) (k z:Nat),s.rs[q]?=some y->y.live->dead≠some q->cU E q k z->¬ e.has k/\row≠some k:=by
  intro q y k z h1 h2 h3 h4
  have hb:=h.cS q y k z h1 h2 h4
  have hr:row≠some k:=by
   intro e
   obtain ⟨r,x,q',h5,h6,h7,h8⟩:=nv k e
   have:=h.dD q r y x k z q' h1 h6 h2 h7 h4 h8.own
   subst this
   exact h3 h5
  refine ⟨λe=>?_,hr⟩
  rcases e with e|e
  .rcases iX k e with h5|h5
   .exact hr h5.symm
   .omega
  .rcases sg k e with ⟨r,x,q',h5,h6,h7,h8⟩|h7
   .have:=h.dD q r y x k z q' h1 h6 h2 h7 h4 h8
    subst this
    exact h3 h5
   .omega
 refine ⟨h.zi (aJ:=fa.set b x) hEle hk (h.below.grown hg.os hg.tape hg.output hg.size λk kT hn=>hg.block k kT λe=>hn (hrow' k e.symm)) eG (by simp [hlen1,h.len]) ?_ ?_ ?_,eG,sD⟩
 .intro q y e' h1 h2
  by_cases hq:q=b
  .subst hq
   have hlb:q<fa.length:=by rw [hlen1]; exact (List.getElem?_eq_some_iff.1 hb).1
   have hlE:q<E.length:=(List.getElem?_eq_some_iff.1 hE).1
   rw [dI,if_pos rfl,if_pos hlb] at h1
   rw [dI,if_pos rfl,if_pos hlE] at h2
   simp only [ak] at h1 h2
   subst h1 h2
   exact hx
  .rw [dI,if_neg (λe=>hq e.symm)] at h1 h2
   by_cases hl:y.live
   .obtain ⟨h3,h4⟩:=old q y h1 hl
    refine aP.mono (av:=AV ay s.rs E) hEle hk eG (λhl k kT=>?_) (h.roots q y e' h3 h2)
    have ji:cU E q k e'.2.2:=⟨e',h2,rfl,kT⟩
    exact hg.block k (h.cS q y k _ h3 hl ji).2 λe=>(apart q y k _ h3 hl h4 ji).2 e.symm
   .cases y with
    | dead=>trivial
    | _=>exact (hl trivial).elim
 .intro q y k z h1 h2 h3
  rcases key q y k z h1 h2 h3 with ⟨h5,_,_,h6⟩|⟨_,h6⟩
  .have q7:=h.cS q y k z h5 h2 h6; have:=hg.size; exact ⟨q7.1,by omega⟩
  .rcases h6 with h6|h6
   .have:=dB k h6
    rcases iX k h6 with h7|h7
    .exact ⟨hrow' k h7.symm,this⟩
    .exact ⟨h.below.fresh h7,this⟩
   .rcases sg k h6 with ⟨r,x,q',_,h8,h9,qj⟩|h7
    .have q7:=h.cS r x k q' h8 h9 qj; have:=hg.size; exact ⟨q7.1,by omega⟩
    .exact ⟨h.below.fresh h7.1,h7.2⟩
 .intro q q' y y' k z z' h1 ku h2 gk h3 kL
  rcases key q y k z h1 h2 h3 with ⟨h5,h6,_,h7⟩|⟨h6,h7⟩<;>rcases key q' y' k z' ku gk kL with ⟨h5',h6',_,h7'⟩|⟨h6',h7'⟩
  .exact h.dD q q' y y' k z z' h5 h5' h2 gk h7 h7'
  .exact ((apart q y k z h5 h2 h6 h7).1 h7').elim
  .exact ((apart q' y' k z' h5' gk h6' h7').1 h7).elim
  .omega
end
open Go.RowKit
theorem Bool.au {α:Type} {x:Option α} {b:Bool} {y:α} (h:(Bool.rec none x b:Option α)=some y):b=true/\x=some y:=by
 cases b with
 | false=>simp at h
 | true=>exact ⟨rfl,h⟩
def bM (sl:aK):Prop:=∀ x∈sl,x.2.2=[]
theorem bM.cons {sl:aK} (h:bM sl) (t:Tmp) (d:D):bM ((t,d,[])::sl):=λx hx=>by
 cases hx with
 | head=>rfl
 | tail _ hx=>exact h x hx
theorem cd {α:Type}:∀ (l:List α) (i:Nat),aV l i=nth l i
 | [],_=>rfl
 | _::_,0=>rfl
 | _::l,i+1=>cd l i
theorem fM:∀ {sl:aK} {t:Tmp} {d:D},bM sl->eJ sl t=some d->look sl t=some (d,[])
 | [],t,d,_,h=>by simp [eJ] at h
 | x::sl,t,d,hn,h=>by
   have hs:bM sl:=λy hy=>hn y (eV _ hy)
   obtain ⟨k,e,c⟩:=x
   have hc:c=[]:=hn _ (eI ..)
   subst hc
   simp only [look]
   have h:(Bool.rec (eJ sl t) (some e) (Nat.beq k t):Option D)=some d:=h
   cases hk:Nat.beq k t with
   | true=>rw [hk] at h; simp only [ak] at h; subst h; rfl
   | false=>rw [hk] at h; exact fM hs h
section
variable {P:Program} {T:dL} {N:Nat} {ay:Nat->Prop} {w0:Kp} {sp:List (D×Value)} {s:VS} {a:Act} {w:World} {E:Env}
theorem dG (hn:bM s.sl) {x:Operand} {d:D} (e:cl s.sl x=some d):s.ev [] x=some d:=by
 cases x with
 | tmp t=>simp only [cl] at e; simp [VS.ev,fM hn e,sub]
 | const v=>exact e
 | func f=>exact e
 | global g=>exact e
theorem bJ.nil (a:Act):bJ a []:=λp hp=>by cases hp
theorem R.cl (h:R T N ay w0 sp s a w E) (hn:bM s.sl) {x:Operand} {d:D} (e:cl s.sl x=some d):aZ E (AV ay s.rs E) w d (a.eval x):=
 h.ev (bJ.nil a) (dG hn e)
theorem mL (hn:bM s.sl):∀ {l:List Operand} {ds:List D},zD s.sl l=some ds->GR s [] l=some ds
 | [],ds,e=>e
 | x::l,ds,e=>by
   have e:(match Go.V.cl s.sl x with
    | some d=>match zD s.sl l with
      | some r=>some (d::r)
      | none=>none
    | none=>none)=some ds:=e
   split at e
   .rename_i d hd
    split at e
    .rename_i r hr
     simp only [GR,dG hn hd,mL hn hr]
     exact e
    .simp at e
   .simp at e
theorem nc {d:Option D} {v:Value} (e:Gy d=some v):d=some (.c (.im (.v v))):=by
 unfold Gy at e
 split at e
 .rename_i x
  unfold V2 at e
  split at e
  .rename_i i
   unfold WY at e
   split at e
   .simp only [ak] at e; subst e; rfl
   .simp at e
  .simp at e
 .simp at e
theorem ec {d:Option D} {n:Int} (e:iu d=some n):d=some (int n):=by
 unfold iu at e
 split at e
 .rename_i v hv
  unfold G8 at e
  split at e
  .simp only [ak] at e; subst e; exact nc hv
  .simp at e
 .simp at e
theorem eW {d:Option D} {b:Bool} (e:jn d=some b):d=some (bool b):=by
 unfold jn at e
 split at e
 .rename_i v hv
  unfold A9 at e
  split at e
  .simp only [ak] at e; subst e; exact nc hv
  .simp at e
 .simp at e
theorem cg {d:Option D} {c:C} (e:dm d=some c):d=some (.c c):=by
 unfold dm at e
 split at e
 .simp only [ak] at e; subst e; rfl
 .simp at e
theorem A2 {d:Option D} {l:List C} (e:Uy d=some l):d=some (.a l):=by
 unfold Uy at e
 split at e
 .simp only [ak] at e; subst e; rfl
 .simp at e
theorem LD {d:Option D} {l:List (Bool×List C)} (e:ZP d=some l):d=some (.t l):=by
 unfold ZP at e
 split at e
 .simp only [ak] at e; subst e; rfl
 .simp at e
def cC (P:Program) (ay:Nat->Prop) (s:VS) (a:Act) (w:World) (E:Env) (o:Oper) (d:D):Prop:=
 ∃ v,(execOp a.eval o).run P w=.ok (.value v) w/\aZ E (AV ay s.rs E) w d v
theorem cC.cL (bQ:dH P T) (h:R T N ay w0 sp s a w E) {o:Oper} {p:Option Prop} {d:D} (e:bm T s [] o.op=some (p,d)) (hp:need p):cC P ay s a w E o d:=by
 obtain ⟨v,h1,h2⟩:=BN bQ h (bJ.nil a) e hp
 exact ⟨v,h1 w (Below.refl _ _),h2⟩
theorem E4 (h:R T N ay w0 sp s a w E) (hn:bM s.sl) {o:Oper} {c x y:Operand} (ho:o.op=.pick c x y) {d:D} (e:Ah s c x y=some d):cC P ay s a w E o d:=by
 unfold Ah at e
 split at e
 case h_2=>simp at e
 rename_i b hb
 have hb:=eW hb
 split at e
 case h_2=>simp at e
 rename_i z hz
 simp only [ak] at e
 subst e
 have hb:=(h.cl hn hb).1
 cases b with
 | true=>
   have hz:jn (cl s.sl x)=some z:=hz
   have hx:=(h.cl hn (eW hz)).1
   exact ⟨.bool z,by simp [execOp,ho,hb,asBool,hx],rfl,rfl⟩
 | false=>
   have hz:jn (cl s.sl y)=some z:=hz
   have hx:=(h.cl hn (eW hz)).1
   exact ⟨.bool z,by simp [execOp,ho,hb,asBool,hx],rfl,rfl⟩
theorem IA (h:R T N ay w0 sp s a w E) {c:C} {v:Value} {b:Bool} (hc:bg E (AV ay s.rs E) w c v) (e:Li s.rs c=some b) :
  (b=true/\∃ n k,v=.slice none n k)∨(b=false/\∃ ad n k,v=.slice (some ad) n k):=by
 unfold Li at e
 split at e
 .rename_i x
  unfold nR at e
  split at e
  .obtain ⟨rfl,_⟩:=hc
   simp only [ak] at e
   exact .inl ⟨e.symm,_,_,rfl⟩
  .obtain ⟨rfl,_⟩:=hc
   simp only [ak] at e
   exact .inr ⟨e.symm,_,_,_,rfl⟩
  .rename_i sz n get
   simp only [ak] at e
   obtain ⟨ao,cap,rfl,_,_,h3⟩:=hc
   obtain ⟨ad,rfl,_⟩:=h3 (by omega)
   exact .inr ⟨e.symm,_,_,_,rfl⟩
  .simp at e
 .rename_i r m
  split at e
  case h_4=>simp at e
  .rename_i el sz n l hl
   simp only [ak] at e
   rw [cd,bp] at hl
   obtain ⟨e',ao,n',cap,h1,h2,h3,rfl⟩:=hc
   obtain ⟨q1,q2,xs,⟨_,q3⟩,q4⟩:=h.roots r _ _ hl h1
   rcases q3 with ⟨q3,_⟩|⟨g',cap',cur,q3,_⟩
   .rw [h2] at q3
    simp at q3
    omega
   .rw [h2] at q3
    simp only [dK] at q3
    obtain ⟨rfl,_,_⟩:=q3
    exact .inr ⟨e.symm,_,_,_,rfl⟩
  .rename_i el sz n l hl
   simp only [ak] at e
   rw [cd,bp] at hl
   obtain ⟨e',ao,n',cap,h1,h2,h3,rfl⟩:=hc
   obtain ⟨q1,q2,xs,⟨_,q3⟩,q4⟩:=h.roots r _ _ hl h1
   rcases q3 with ⟨q3,_⟩|⟨g',cap',cur,q3,_⟩
   .rw [h2] at q3
    simp at q3
    omega
   .rw [h2] at q3
    simp only [dK] at q3
    obtain ⟨rfl,_,_⟩:=q3
    exact .inr ⟨e.symm,_,_,_,rfl⟩
  .rename_i el sz n get et hl
   simp only [ak] at e
   rw [cd,bp] at hl
   obtain ⟨e',ao,n',cap,h1,h2,h3,rfl⟩:=hc
   obtain ⟨q1,q2,xs,⟨_,q3⟩,q4⟩:=h.roots r _ _ hl h1
   rcases q3 with ⟨q3,_⟩|⟨g',cap',cur,q3,_⟩
   .rw [h2] at q3
    simp at q3
    omega
   .rw [h2] at q3
    simp only [dK] at q3
    obtain ⟨rfl,_,_⟩:=q3
    exact .inr ⟨e.symm,_,_,_,rfl⟩
 .simp at e
theorem Vk {t el:TypeId} (hu:P.underlying t=some (.slice el)) (b:Bool) {ao:Option Addr} {n k:Nat} (hb:ao.isNone=b) (x y:Operand) :
  (do eqGuard .eql t x y (.slice ao n k) (.slice none 0 0); binOp .eql t (.slice ao n k) (.slice none 0 0)).run P w=.ok (.bool b) w/\
  (do eqGuard .neq t x y (.slice ao n k) (.slice none 0 0); binOp .neq t (.slice ao n k) (.slice none 0 0)).run P w=.ok (.bool (!b)) w:=by
 have he:∀ d,(Op.equalIn (d+1) t (.slice ao n k) (.slice none 0 0)).run P w=.ok b w:=λd=>by
  unfold Op.equalIn
  cases ao<;>simp [run_underlying hu,<- hb]
 have h0:(Op.equal t (.slice ao n k) (.slice none 0 0)).run P w=.ok b w:=he 9999
 constructor
 .show ((do eqGuard .eql t x y (.slice ao n k) (.slice none 0 0); (do pure (.bool (<- Op.equal t (.slice ao n k) (.slice none 0 0)))):Sem Value)).run P w=_
  rw [Sem.run_bind]
  simp [eqGuard,h0]
 .show ((do eqGuard .neq t x y (.slice ao n k) (.slice none 0 0); (do pure (.bool !(<- Op.equal t (.slice ao n k) (.slice none 0 0)))):Sem Value)).run P w=_
  rw [Sem.run_bind]
  simp [eqGuard,h0]
theorem Gh (bQ:dH P T) (h:R T N ay w0 sp s a w E) (hn:bM s.sl) {o:Oper} {op:BinOp} {t t2:TypeId} {x y:Operand} (ho:o.op=.binOp op t x y t2) (hy:isNil y=true) {d:D} (e:ve T s op t x=some d):cC P ay s a w E o d:=by
 have hy':y=.const (.slice none 0 0):=by
  unfold isNil at hy
  split at hy
  .rfl
  .simp at hy
 subst hy'
 unfold ve at e
 split at e
 case h_2=>simp at e
 rename_i xj gY z0 el nl
 have hu:=(bQ.ty _ _ nl).slice rfl
 split at e
 case h_2=>simp at e
 rename_i c hc
 have hc:=h.cl hn (cg hc)
 split at e
 case h_2=>simp at e
 rename_i b hb
 have hv:∃ ao n k,a.eval x=.slice ao n k/\ao.isNone=b:=by
  rcases IA h hc hb with ⟨rfl,n,k,hv⟩|⟨rfl,ad,n,k,hv⟩
  .exact ⟨none,n,k,hv,rfl⟩
  .exact ⟨some ad,n,k,hv,rfl⟩
 obtain ⟨ao,n,k,hv,hb⟩:=hv
 have hr:=Vk (P:=P) (w:=w) hu b (n:=n) (k:=k) hb x (.const (.slice none 0 0))
 have hce:a.eval (.const (.slice none 0 0))=.slice none 0 0:=rfl
 split at e
 .simp only [ak] at e
  subst e
  exact ⟨.bool b,by simp only [execOp,ho,hv,hce]; exact b4 hr.1,rfl,rfl⟩
 .simp only [ak] at e
  subst e
  exact ⟨.bool (!b),by simp only [execOp,ho,hv,hce]; exact b4 hr.2,rfl,rfl⟩
 .simp at e
theorem cz.ptr {P:Program} {t:TypeId} {y:Ty} (h:cz P t y) {e:Nat} (hk:y.kd=.ptr e):∃ e',P.underlying t=some (.pointer e'):=by
 have:=h.kd
 rw [hk] at this
 unfold vG at this
 split at this
 case h_1=>split at this<;>simp_all
 all_goals simp_all
theorem MZ {t e:TypeId} (hu:P.underlying t=some (.pointer e)) (b:Bool) {ao:Option Addr} (hb:ao.isNone=b) (x y:Operand) :
  (do eqGuard .eql t x y (.pointer ao) (.pointer none); binOp .eql t (.pointer ao) (.pointer none)).run P w=.ok (.bool b) w/\
  (do eqGuard .neq t x y (.pointer ao) (.pointer none); binOp .neq t (.pointer ao) (.pointer none)).run P w=.ok (.bool (!b)) w:=by
 have he:∀ d,(Op.equalIn (d+1) t (.pointer ao) (.pointer none)).run P w=.ok b w:=λd=>by
  unfold Op.equalIn
  cases ao<;>simp [run_underlying hu,<- hb]
 have h0:(Op.equal t (.pointer ao) (.pointer none)).run P w=.ok b w:=he 9999
 constructor
 .show ((do eqGuard .eql t x y (.pointer ao) (.pointer none); (do pure (.bool (<- Op.equal t (.pointer ao) (.pointer none)))):Sem Value)).run P w=_
  rw [Sem.run_bind]
  simp [eqGuard,h0]
 .show ((do eqGuard .neq t x y (.pointer ao) (.pointer none); (do pure (.bool !(<- Op.equal t (.pointer ao) (.pointer none)))):Sem Value)).run P w=_
  rw [Sem.run_bind]
  simp [eqGuard,h0]
theorem cz.func {P:Program} {t:TypeId} {y:Ty} (h:cz P t y) (hk:y.kd=.func):∃ a b c,P.underlying t=some (.func a b c):=by
 have:=h.kd
 rw [hk] at this
 unfold vG at this
 split at this
 case h_1=>split at this<;>simp_all
 all_goals simp_all
theorem RF {t:TypeId} (hu:∃ a b c,P.underlying t=some (.func a b c)) (b:Bool) {v:Value} (hv:(b=true/\v=.nilFunc)∨(b=false/\∃ f m vs,v=.func f m vs)) (x y:Operand) :
  (do eqGuard .eql t x y v .nilFunc; binOp .eql t v .nilFunc).run P w=.ok (.bool b) w/\
  (do eqGuard .neq t x y v .nilFunc; binOp .neq t v .nilFunc).run P w=.ok (.bool (!b)) w:=by
 obtain ⟨_,_,_,hu⟩:=hu
 have he:∀ d,(Op.equalIn (d+1) t v .nilFunc).run P w=.ok b w:=λd=>by
  unfold Op.equalIn
  rcases hv with ⟨rfl,rfl⟩|⟨rfl,f,m,vs,rfl⟩<;>simp [run_underlying hu]
 have h0:(Op.equal t v .nilFunc).run P w=.ok b w:=he 9999
 rcases hv with ⟨_,rfl⟩|⟨_,f,m,vs,rfl⟩
 .constructor
  .show ((do eqGuard .eql t x y .nilFunc .nilFunc; (do pure (.bool (<- Op.equal t .nilFunc .nilFunc))):Sem Value)).run P w=_
   rw [Sem.run_bind]
   simp [eqGuard,h0]
  .show ((do eqGuard .neq t x y .nilFunc .nilFunc; (do pure (.bool !(<- Op.equal t .nilFunc .nilFunc))):Sem Value)).run P w=_
   rw [Sem.run_bind]
   simp [eqGuard,h0]
 .constructor
  .show ((do eqGuard .eql t x y (.func f m vs) .nilFunc; (do pure (.bool (<- Op.equal t (.func f m vs) .nilFunc))):Sem Value)).run P w=_
   rw [Sem.run_bind]
   simp [eqGuard,h0]
  .show ((do eqGuard .neq t x y (.func f m vs) .nilFunc; (do pure (.bool !(<- Op.equal t (.func f m vs) .nilFunc))):Sem Value)).run P w=_
   rw [Sem.run_bind]
   simp [eqGuard,h0]
theorem Fq (bQ:dH P T) (h:R T N ay w0 sp s a w E) (hn:bM s.sl) {o:Oper} {op:BinOp} {t t2:TypeId} {x y:Operand} (ho:o.op=.binOp op t x y t2) {d:D} (e:KA T s op t x y=some d):cC P ay s a w E o d:=by
 unfold KA at e
 split at e
 case h_2=>simp at e
 rename_i ty nl
 have nl:=bQ.ty _ _ nl
 split at e
 case h_2=>simp at e
 rename_i c hc
 have hc:=h.cl hn (cg hc)
 split at e
 case h_2=>simp at e
 rename_i b hb
 unfold ad6 at hb
 split at hb
 .split at hb
  case h_2=>simp at hb
  rename_i el hk
  obtain ⟨e',hu⟩:=nl.ptr hk
  have hv:∃ ao,a.eval x=.pointer ao/\ao.isNone=b:=by
   unfold al0 at hb
   split at hb
   .simp only [ak] at hb
    obtain ⟨_,_,_,q⟩:=hc
    exact ⟨_,q,by rw [<- hb]; rfl⟩
   .simp only [ak] at hb
    obtain ⟨_,q,_⟩:=hc
    exact ⟨_,q,by rw [<- hb]; rfl⟩
   .simp only [ak] at hb
    obtain ⟨q,_⟩:=hc
    exact ⟨_,q,by rw [<- hb]; rfl⟩
   .simp at hb
  obtain ⟨ao,hv,hb⟩:=hv
  have hr:=MZ (P:=P) (w:=w) hu b hb x (.const (.pointer none))
  have hce:a.eval (.const (.pointer none))=.pointer none:=rfl
  split at e
  .simp only [ak] at e
   subst e
   exact ⟨.bool b,by simp only [execOp,ho,hv,hce]; exact b4 hr.1,rfl,rfl⟩
  .simp only [ak] at e
   subst e
   exact ⟨.bool (!b),by simp only [execOp,ho,hv,hce]; exact b4 hr.2,rfl,rfl⟩
  .simp at e
 .split at hb
  case h_2=>simp at hb
  rename_i hk
  have hu:=nl.func hk
  have hv:(b=true/\a.eval x=.nilFunc)∨(b=false/\∃ f m vs,a.eval x=.func f m vs):=by
   unfold V9 at hb
   split at hb
   .simp only [ak] at hb
    obtain ⟨vs,q,_⟩:=hc
    exact .inr ⟨hb.symm,_,_,_,q⟩
   .simp only [ak] at hb
    obtain ⟨vs,q,_⟩:=hc
    exact .inr ⟨hb.symm,_,_,_,q⟩
   .simp only [ak] at hb
    obtain ⟨q,_⟩:=hc
    exact .inl ⟨hb.symm,q⟩
   .simp at hb
  have hr:=RF (P:=P) (w:=w) hu b hv x (.const .nilFunc)
  have hce:a.eval (.const .nilFunc)=.nilFunc:=rfl
  split at e
  .simp only [ak] at e
   subst e
   exact ⟨.bool b,by simp only [execOp,ho,hce]; exact b4 hr.1,rfl,rfl⟩
  .simp only [ak] at e
   subst e
   exact ⟨.bool (!b),by simp only [execOp,ho,hce]; exact b4 hr.2,rfl,rfl⟩
  .simp at e
 .simp at hb
theorem GA {b:Int} (h:geB b=true):0<=b:=by
 cases b with
 | ofNat k=>exact Int.natCast_nonneg k
 | negSucc k=>simp [geB] at h
theorem Md {op:BinOp} {a b:Int} {z:Value} (e:vR op a b=some z):BZ op (.int .i64 a) (.int .i64 b)=some z∨(BZ op (.int .i64 a) (.int .i64 b)=none/\∃ p,zP op (.int .i64 a) (.int .i64 b)=some (p,z)/\p):=by
 cases op
 case quo=>
  right
  refine ⟨rfl,b≠0,?_,?_⟩<;>(simp only [vR] at e; cases hb:b==0<;>rw [hb] at e<;>simp_all [zP])
 case rem=>
  right
  refine ⟨rfl,b≠0,?_,?_⟩<;>(simp only [vR] at e; cases hb:b==0<;>rw [hb] at e<;>simp_all [zP])
 case shl=>
  right
  simp only [vR] at e
  obtain ⟨h1,e⟩:=Bool.au e
  exact ⟨rfl,0<=b,by simp only [zP,ak] at e ⊢; rw [e],GA h1⟩
 case shr=>
  right
  simp only [vR] at e
  obtain ⟨h1,e⟩:=Bool.au e
  exact ⟨rfl,0<=b,by simp only [zP,ak] at e ⊢; rw [e],GA h1⟩
 case and=>left; exact e
 case andNot=>left; exact e
 all_goals first|(simp [vR] at e; done)|(left; simpa [vR,BZ] using e)
theorem z8 {v:Value} {n:Int} (e:G8 v=some n):v=.int .i64 n:=by
 unfold G8 at e
 split at e
 .simp only [ak] at e; subst e; rfl
 .simp at e
theorem xn {v:Value} {b:Bool} (e:A9 v=some b):v=.bool b:=by
 unfold A9 at e
 split at e
 .simp only [ak] at e; subst e; rfl
 .simp at e
theorem IK (bQ:dH P T) (h:R T N ay w0 sp s a w E) (hn:bM s.sl) {o:Oper} {op:BinOp} {t t2:TypeId} {x y:Operand} (ho:o.op=.binOp op t x y t2) {d:D} (e:xS T s op t x y=some d):cC P ay s a w E o d:=by
 unfold xS at e
 split at e
 .rename_i hy; exact Gh bQ h hn ho hy e
 split at e
 .exact Fq bQ h hn ho e
 rename_i hy
 split at e
 .rename_i u v hu hv
  have hu:=dG hn (nc hu)
  have hv:=dG hn (nc hv)
  split at e
  case h_2=>simp at e
  rename_i z hz
  simp only [ak] at e
  subst e
  unfold Hk at hz
  split at hz
  .rename_i n m za hm'
   have za:=z8 za
   have hm':=z8 hm'
   subst za hm'
   rcases Md hz with hz|⟨hz,p,hz2,hp⟩
   .exact cC.cL (p:=none) bQ h (by simp only [ho,bm,hu,hv,hz]) trivial
   .exact cC.cL (p:=some p) bQ h (by simp only [ho,bm,hu,hv,hz,hz2]) hp
  .split at hz
   .rename_i b c hb hc
    have hb:=xn hb
    have hc:=xn hc
    subst hb hc
    unfold at9 at hz
    split at hz
    case h_2=>simp at hz
    rename_i xj gY z0 nl
    split at hz
    .simp only [ak] at hz; subst hz
     exact cC.cL (p:=none) bQ h (by simp only [ho,bm,hu,hv,nl]) trivial
    .simp only [ak] at hz; subst hz
     exact cC.cL (p:=none) bQ h (by simp only [ho,bm,hu,hv,nl]) trivial
    .simp at hz
   .rename_i hnb
    refine cC.cL (p:=none) bQ h ?_ trivial
    simp only [ho,bm,hu,hv]
    split
    .rename_i b c hb hc
     simp only [ak,D.c.injEq,C.im.injEq,I.v.injEq] at hb hc
     subst hb hc
     exact (hnb _ _ rfl rfl).elim
    .rename_i u' v' _ hb hc
     simp only [ak,D.c.injEq,C.im.injEq,I.v.injEq] at hb hc
     subst hb hc
     simp only [hz]
    .rename_i hb hc; simp at hb
    .rename_i hb hc _; exact (hc _ _ rfl rfl).elim
 .split at e
  case h_2=>simp at e
  rename_i l m hl hm
  have hl:=dG hn (A2 hl)
  have hm:=dG hn (A2 hm)
  unfold eqF at e
  split at e
  case h_2=>simp at e
  rename_i ks hks
  split at e
  case h_2=>simp at e
  rename_i b hb
  split at e
  .simp only [ak] at e; subst e
   exact cC.cL (p:=none) bQ h (by simp only [ho,bm,hl,hm,hks,hb]) trivial
  .simp only [ak] at e; subst e
   exact cC.cL (p:=none) bQ h (by simp only [ho,bm,hl,hm,hks,hb]) trivial
  .simp at e
theorem L8 (bQ:dH P T) (h:R T N ay w0 sp s a w E) (hn:bM s.sl) {o:Oper} {op:UnOp} {t:TypeId} {x:Operand} (ho:o.op=.unOp op t x) {d:D} (e:unF s op x=some d):cC P ay s a w E o d:=by
 unfold unF at e
 split at e
 .split at e
  case h_2=>simp at e
  rename_i b hb
  simp only [ak] at e; subst e
  exact cC.cL (p:=none) bQ h (by simp only [ho,bm,dG hn (eW hb)]) trivial
 .split at e
  case h_2=>simp at e
  rename_i b hb
  simp only [ak] at e; subst e
  exact cC.cL (p:=none) bQ h (by simp only [ho,bm,dG hn (ec hb)]) trivial
 .simp at e
theorem zG (bQ:dH P T) (h:R T N ay w0 sp s a w E) (hn:bM s.sl) {o:Oper} {x:Operand} (ho:o.op=.nilCheck x) {d:D} (e:wG s x=some d):cC P ay s a w E o d:=by
 unfold wG at e
 split at e
 case h_2=>simp at e
 rename_i c hc
 have hc:=dG hn (cg hc)
 split at e<;>first|(simp at e; done)|(simp only [ak] at e; subst e; exact cC.cL (p:=none) bQ h (by simp only [ho,bm,hc]) trivial)
theorem Dr (bQ:dH P T) (h:R T N ay w0 sp s a w E) (hn:bM s.sl) {o:Oper} {t:TypeId} {x:Operand} {f:Nat} (ho:o.op=.fieldAddr t x f) {d:D} (e:Db T s t x f=some d):cC P ay s a w E o d:=by
 unfold Db at e
 split at e
 case h_2=>simp at e
 rename_i xj gY z0 fs hy
 split at e
 case h_2=>simp at e
 rename_i p hp
 rw [cd] at hp
 obtain ⟨o1,sz⟩:=p
 split at e
 case h_2=>simp at e
 rename_i c hc
 have hc:=dG hn (cg hc)
 obtain ⟨fH,e⟩:=Bool.au e
 unfold Pn at e
 split at e
 .simp only [ak] at e; subst e
  exact cC.cL (p:=none) bQ h (by simp only [ho,bm,hy,hp,fH,hc]) trivial
 .obtain ⟨hle,e⟩:=Bool.au e
  simp only [ak] at e; subst e
  exact cC.cL (p:=none) bQ h (by simp only [ho,bm,hy,hp,fH,hc,hle]) trivial
 .simp at e
theorem sW {i:Int} {n:Nat} (h:cM i n=true):0<=i/\i<(n:Int):=by
 unfold cM at h
 split at h
 .have:=aM h; exact ⟨Int.natCast_nonneg _,Int.ofNat_lt.2 this⟩
 .simp at h
theorem yZ {i:Int} {n:Nat} (h:GU i n=true):0<=i/\i<=(n:Int):=by
 unfold GU at h
 split at h
 .have:=ew h; exact ⟨Int.natCast_nonneg _,Int.ofNat_le.2 this⟩
 .simp at h
theorem qQ {t:Nat} {y:Ty} (e:rQ T t=some y):∃ xj gY z0 el,T.ty t=some ⟨xj,gY,z0,.slice el⟩/\T.ty el=some y:=by
 unfold rQ at e
 split at e
 .rename_i xj gY z0 el hy; exact ⟨xj,gY,z0,el,hy,e⟩
 .simp at e
theorem cz.array {P:Program} {t:TypeId} {y:Ty} (h:cz P t y) {n e:Nat} (hk:y.kd=.array n e):P.underlying t=some (.array n e):=by
 have:=h.kd
 rw [hk] at this
 unfold vG at this
 split at this<;>(try split at this)<;>simp_all
theorem Az {t:Nat} {n:Nat} {y:Ty} (e:LI T t=some (n,y)):∃ xj gY z0 el,T.ty t=some ⟨xj,gY,z0,.array n el⟩/\T.ty el=some y:=by
 unfold LI at e
 split at e
 .rename_i xj gY z0 n' el hy
  split at e
  .rename_i y' hy'
   simp only [ak,bw] at e
   obtain ⟨rfl,rfl⟩:=e
   exact ⟨xj,gY,z0,el,hy,hy'⟩
  .simp at e
 .simp at e
theorem B4 (bQ:dH P T) (h:R T N ay w0 sp s a w E) (hn:bM s.sl) {o:Oper} {t:TypeId} {x ix:Operand} (ho:o.op=.indexAddr t x ix) {n:Nat} {y:Ty} (hy:LI T t=some (n,y)) {i:Int} (hi:iu (cl s.sl ix)=some i) {c:C} (hc:dm (cl s.sl x)=some c) {d:D} (e:Bo n y.size i c=some d):cC P ay s a w E o d:=by
 obtain ⟨xj,gY,z0,el,hy1,hy2⟩:=Az hy
 have hu:=(bQ.ty _ _ hy1).array rfl
 have hye:=bQ.ty _ _ hy2
 replace hi:=(h.cl hn (ec hi)).1
 replace hc:=h.cl hn (cg hc)
 unfold Bo at e
 split at e
 .rename_i r k j
  obtain ⟨h1,e⟩:=Bool.au e
  simp only [ak] at e
  subst e
  obtain ⟨h2,h3⟩:=sW h1
  obtain ⟨b,sz,ji,hv⟩:=hc
  refine ⟨.pointer (some ((⟨b,k*sz+j,none⟩:Addr).add (i.toNat*y.size))),?_,b,sz,ji,?_⟩
  .simp only [execOp,ho,hv,hi]
   refine b4 ?_
   simp [Instr.indexAt,run_underlying hu,asIntOf,Instr.sureAddr,h2,h3,run_sizeOf hye.sz]
  .rw [Addr.add_mid]
   simp only [Value.pointer.injEq,ak,Addr.mk.injEq,and_true,true_and]
   omega
 .simp at e
theorem CT (bQ:dH P T) (h:R T N ay w0 sp s a w E) (hn:bM s.sl) {o:Oper} {t:TypeId} {x ix:Operand} (ho:o.op=.indexAddr t x ix) {n:Nat} {y:Ty} (hy:LI T t=some (n,y)) {i:Int} (hi:iu (cl s.sl ix)=some i) {c:C} (hc:dm (cl s.sl x)=some c) {d:D} (e:xi T n y.size i c=some d):cC P ay s a w E o d:=by
 unfold xi at e
 split at e
 case h_2=>exact B4 bQ h hn ho hy hi hc e
 rename_i q
 obtain ⟨xj,gY,z0,el,hy1,hy2⟩:=Az hy
 have hu:=(bQ.ty _ _ hy1).array rfl
 have hye:=bQ.ty _ _ hy2
 replace hi:=(h.cl hn (ec hi)).1
 replace hc:=h.cl hn (cg hc)
 unfold IC at e
 split at e
 case h_2=>simp at e
 rename_i g hg
 obtain ⟨h0,e⟩:=Bool.au e
 obtain ⟨h1,e⟩:=Bool.au e
 simp only [ak] at e
 subst e
 have h0:=bK h0
 obtain ⟨h2,h3⟩:=sW h1
 obtain ⟨ad,g1,g2,g3,g4,g5⟩:=h.gn q g hg
 simp only [Value.pointer.injEq,ak] at g1
 subst g1
 have hv:a.eval x=.pointer (some ⟨q,0,none⟩):=hc
 have dB:i.toNat*y.size+y.size<=n*y.size:=by
  have:i.toNat+1<=n:=by omega
  have:=fU y.size this
  rw [Nat.add_mul,Nat.one_mul] at this
  exact this
 refine ⟨.pointer (some ((⟨q,0,none⟩:Addr).add (i.toNat*y.size))),?_,_,rfl,?_,?_,?_,λj hj=>?_⟩
 .simp only [execOp,ho,hv,hi]
  refine b4 ?_
  simp [Instr.indexAt,run_underlying hu,asIntOf,Instr.sureAddr,h2,h3,run_sizeOf hye.sz]
 .rw [Addr.add_mid]
 .rw [Addr.add_mid]; exact g3
 .rw [Addr.add_mid]; exact g4
 .obtain ⟨z,q1,q2⟩:=g5 (i.toNat*y.size+j) (by rw [<- h0]; omega)
  refine ⟨z,?_,q2⟩
  rw [Addr.add_mid] at q1 ⊢
  rw [Addr.add_mid]
  simpa [Nat.add_assoc] using q1
theorem DG (bQ:dH P T) (h:R T N ay w0 sp s a w E) (hn:bM s.sl) {o:Oper} {t:TypeId} {x ix:Operand} (ho:o.op=.indexAddr t x ix) {d:D} (e:nw T s t x ix=some d):cC P ay s a w E o d:=by
 unfold nw at e
 split at e
 .rename_i a' ha
  obtain ⟨n,y⟩:=a'
  split at e
  case h_2=>simp at e
  rename_i i hi
  split at e
  case h_2=>simp at e
  rename_i c hc
  exact CT bQ h hn ho ha hi hc e
 split at e
 case h_2=>simp at e
 rename_i y hy
 obtain ⟨xj,gY,z0,el,hy1,hy2⟩:=qQ hy
 split at e
 case h_2=>simp at e
 rename_i i hi
 have hi:=dG hn (ec hi)
 split at e
 case h_2=>simp at e
 rename_i c hc
 have hc:=dG hn (cg hc)
 unfold ri at e
 split at e
 .obtain ⟨h1,e⟩:=Bool.au e
  obtain ⟨h2,e⟩:=Bool.au e
  simp only [ak] at e; subst e
  refine cC.cL (p:=some _) bQ h (by simp only [ho,bm,hy1,hy2,hi,hc,h1]) (sW h2)
 .split at e
  case h_4=>simp at e
  all_goals
   rename_i hl
   rw [cd] at hl
   obtain ⟨h1,e⟩:=Bool.au e
   obtain ⟨h2,e⟩:=Bool.au e
   simp only [ak] at e; subst e
   refine cC.cL (p:=some _) bQ h (by simp only [ho,bm,hy1,hy2,hi,hc,hl,h1]) (sW h2)
 .simp at e
theorem rm (hn:bM s.sl) {t:TypeId} {x:Operand} {d:D} (e:lg T s t x=some d):∃ p,bm T s [] (.load t x)=some (p,d)/\need p:=by
 unfold lg at e
 split at e
 case h_2=>simp at e
 rename_i y hy
 split at e
 case h_2=>simp at e
 rename_i c hc
 have hc:=dG hn (cg hc)
 have box:∀ {l:List C} {j:Nat},sC y l j=some d->(match y.kd.agg with
   | true=>match takeN y.size (w9 j l) with
     | some cs=>some (none,D.a cs)
     | none=>none
   | false=>match nth l j with
     | some c=>some (none,.c c)
     | none=>none)=some ((none:Option Prop),d):=by
  intro l j e
  unfold sC at e
  split at e
  .rename_i hagg
   split at e
   case h_2=>simp at e
   rename_i cs hcs
   simp only [ak] at e; subst e
   simp only [hagg,hcs]
  .rename_i hagg
   split at e
   case h_2=>simp at e
   rename_i cs hcs
   rw [cd] at hcs
   simp only [ak] at e; subst e
   simp only [hagg,hcs]
 unfold sc at e
 split at e
 .rename_i r i j
  unfold zg at e
  split at e
  .rename_i l hl
   rw [cd] at hl
   split at e
   .simp only [bm,hy,hc,hl]
    exact ⟨_,box e,trivial⟩
   .simp at e
  .rename_i sz n l hl
   rw [cd] at hl
   simp only [bm,hy,hc,hl]
   exact ⟨_,box e,trivial⟩
  .rename_i el sz n get hl
   rw [cd] at hl
   unfold Ki at e
   split at e
   .rename_i hagg
    obtain ⟨h1,e⟩:=Bool.au e
    obtain ⟨h2,e⟩:=Bool.au e
    simp only [ak] at e; subst e
    exact ⟨some (_<n),by simp only [bm,hy,hc,hl,hagg,h1],aM h2⟩
   .rename_i hagg
    obtain ⟨h1,e⟩:=Bool.au e
    obtain ⟨h2,e⟩:=Bool.au e
    simp only [ak] at e; subst e
    exact ⟨some (_<n),by simp only [bm,hy,hc,hl,hagg,h1],aM h2⟩
  .rename_i el sz n get et hl
   rw [cd] at hl
   unfold FL at e
   split at e
   .rename_i hagg
    obtain ⟨h1,e⟩:=Bool.au e
    obtain ⟨h2,e⟩:=Bool.au e
    split at e
    case h_2=>simp at e
    rename_i hg
    simp only [ak] at e; subst e
    exact ⟨some (_<n),by simp only [bm,hy,hc,hl,hagg,h1,hg],aM h2⟩
   .rename_i hagg
    obtain ⟨h1,e⟩:=Bool.au e
    obtain ⟨h2,e⟩:=Bool.au e
    split at e
    case h_2=>simp at e
    rename_i hg
    simp only [ak] at e; subst e
    exact ⟨some (_<n),by simp only [bm,hy,hc,hl,hagg,h1,hg],aM h2⟩
  .simp at e
 .rename_i q
  unfold V4 at e
  split at e
  case h_2=>simp at e
  rename_i z hz
  split at e
  .simp at e
  .rename_i hagg
   simp only [ak] at e; subst e
   exact ⟨none,by simp only [bm,hy,hc,hagg,hz],trivial⟩
 .rename_i n get
  unfold Ry at e
  split at e
  .rename_i hagg
   obtain ⟨h1,e⟩:=Bool.au e
   simp only [ak] at e; subst e
   exact ⟨none,by simp only [bm,hy,hc,hagg,h1],trivial⟩
  .rename_i hagg
   obtain ⟨h1,e⟩:=Bool.au e
   simp only [ak] at e; subst e
   exact ⟨none,by simp only [bm,hy,hc,hagg,h1],trivial⟩
 .simp at e
theorem ze (bQ:dH P T) (h:R T N ay w0 sp s a w E) (hn:bM s.sl) {o:Oper} {x:Operand} {k:Nat} (ho:o.op=.extract x k) {d:D} (e:rZ s x k=some d):cC P ay s a w E o d:=by
 unfold rZ at e
 split at e
 case h_2=>simp at e
 rename_i l hl
 have hl:=dG hn (LD hl)
 rw [cd] at e
 split at e
 .rename_i cs hc
  simp only [ak] at e; subst e
  exact cC.cL (p:=none) bQ h (by simp only [ho,bm,hl,hc]) trivial
 .rename_i cs hc
  simp only [ak] at e; subst e
  exact cC.cL (p:=none) bQ h (by simp only [ho,bm,hl,hc]) trivial
 .simp at e
theorem uZ (hn:bM s.sl) {fs:List (Nat×Nat)}:∀ {ps:List (Nat×Operand)} {l r:List C},vo fs s.sl ps l=some r->yU fs s [] ps l=some r
 | [],l,r,e=>e
 | p::ps,l,r,e=>by
   obtain ⟨k,x⟩:=p
   have e:(match aV fs k with
    | some o=>match Go.V.cl s.sl x with
      | some d=>match d.cells with
        | some cs=>(Bool.rec none (match put l o.1 cs with
          | some l'=>vo fs s.sl ps l'
          | none=>none) (Nat.beq cs.length o.2&&Nat.blt 0 o.2):Option (List C))
        | none=>none
      | none=>none
    | none=>none)=some r:=e
   split at e
   case h_2=>simp at e
   rename_i o ho
   rw [cd] at ho
   obtain ⟨o1,o2⟩:=o
   split at e
   case h_2=>simp at e
   rename_i d hd
   split at e
   case h_2=>simp at e
   rename_i cs hcs
   obtain ⟨h1,e⟩:=Bool.au e
   split at e
   case h_2=>simp at e
   rename_i l' vU
   simp only at h1 vU
   simp only [yU,ho,dG hn hd,hcs,h1,vU]
   exact uZ hn e
theorem D8 (bQ:dH P T) (h:R T N ay w0 sp s a w E) (hn:bM s.sl) {o:Oper} {t:TypeId} {ps:Array (Nat×Operand)} (ho:o.op=.build t ps) {d:D} (e:Dz T s t ps.toList=some d):cC P ay s a w E o d:=by
 unfold Dz at e
 split at e
 case h_2=>simp at e
 rename_i y hy
 split at e
 case h_2=>simp at e
 rename_i fs hk
 split at e
 case h_2=>simp at e
 rename_i z hz
 split at e
 case h_2=>simp at e
 rename_i l hl
 simp only [ak] at e; subst e
 exact cC.cL (p:=none) bQ h (by simp only [ho,bm,hy,hk,hz,uZ hn hl]) trivial
theorem Fx (bQ:dH P T) (h:R T N ay w0 sp s a w E) (hn:bM s.sl) {o:Oper} {fn:Fn} {first eA:Array Operand} (ho:o.op=.makeFunc fn first eA) {d:D} (e:JP s fn first.toList eA.toList=some d):cC P ay s a w E o d:=by
 unfold JP at e
 split at e
 case h_2=>simp at e
 split at e
 case h_2=>simp at e
 rename_i hf
 split at e
 .rename_i hc
  simp only [ak] at e; subst e
  exact cC.cL (p:=none) bQ h (by simp only [ho,bm,hf,mL hn hc]) trivial
 .rename_i hc
  simp only [ak] at e; subst e
  exact cC.cL (p:=none) bQ h (by simp only [ho,bm,hf,mL hn hc]) trivial
 .rename_i hc
  simp only [ak] at e; subst e
  exact cC.cL (p:=none) bQ h (by simp only [ho,bm,hf,mL hn hc]) trivial
 .rename_i hc
  simp only [ak] at e; subst e
  exact cC.cL (p:=none) bQ h (by simp only [ho,bm,hf,mL hn hc]) trivial
 .simp at e
theorem Iy (bQ:dH P T) (h:R T N ay w0 sp s a w E) (hn:bM s.sl) {o:Oper} {c:Call} (ho:o.op=.call c) {d:D} (e:HP T s c=some d):cC P ay s a w E o d:=by
 unfold HP at e
 split at e
 case h_2=>simp at e
 rename_i b hb
 have go:gw T b c.argTypes.toList (GR s [] c.args.toList)=some (none,d)->cC P ay s a w E o d:=λq=>
  cC.cL (p:=none) bQ h (by simp only [ho,bm,hb]; exact q) trivial
 unfold IX at e
 split at e
 .apply go
  unfold Nj at e
  split at e
  case h_2=>simp at e
  rename_i t x hts hxs
  rw [hts,hxs]
  split at e
  .rename_i hy
   split at e
   case h_2=>simp at e
   rename_i cc hc
   have hc:=dG hn (cg hc)
   unfold aq1 at e
   split at e<;>first|(simp at e; done)|(simp only [ak] at e; subst e; simp only [gw,GR,hc,hy])
  .rename_i hy
   split at e
   case h_2=>simp at e
   rename_i b hc
   have hc:=dG hn (nc hc)
   simp only [ak] at e; subst e
   simp only [gw,GR,hc,hy]
  .simp at e
 .apply go
  unfold PS at e
  split at e
  case h_2=>simp at e
  rename_i x y hxs
  split at e
  case h_2=>simp at e
  rename_i n m h1 h2
  simp only [ak] at e; subst e
  rw [hxs]
  simp only [gw,GR,dG hn (ec h1),dG hn (ec h2)]
 .apply go
  unfold O1 at e
  split at e
  case h_2=>simp at e
  rename_i x y hxs
  split at e
  case h_2=>simp at e
  rename_i n m h1 h2
  simp only [ak] at e; subst e
  rw [hxs]
  simp only [gw,GR,dG hn (ec h1),dG hn (ec h2)]
 .simp at e
theorem Fp (n:Int):∀ l:List (Int×FuncId),QC n l=A6 n l
 | []=>rfl
 | x::l=>by
   show (Bool.rec (QC n l) (some x.2) (n==x.1):Option FuncId)=A6 n (x::l)
   unfold A6
   cases n==x.1 with
   | true=>rfl
   | false=>exact Fp n l
theorem Aq (bQ:dH P T) (h:R T N ay w0 sp s a w E) (hn:bM s.sl) {o:Oper} {t:TypeId} {x i:Operand} {ok:Bool} (ho:o.op=.lookup t x i ok) {d:D} (e:fmF T s t x i ok=some d):cC P ay s a w E o d:=by
 unfold fmF at e
 obtain ⟨hk,e⟩:=Bool.au e
 unfold fmK at hk
 split at hk
 case h_2=>simp at hk
 rename_i k el nl
 split at hk
 case h_2=>simp at hk
 rename_i AD hye
 have nl:=(bQ.ty _ _ nl).map rfl
 have AD:=(bQ.ty _ _ AD).int rfl
 have hye:=bQ.ty _ _ hye
 obtain ⟨inf,hin,_,_,hz⟩:=hye.full
 split at e
 case h_2=>simp at e
 rename_i l n hx hi
 simp only [ak] at e
 subst e
 obtain ⟨b,es,clock,hx,_,h2,h3⟩:=h.cl hn (cg hx)
 have hi:=(h.cl hn (ec hi)).1
 rw [Fp]
 have hu:(Go.underlying t).run P w=.ok (.map k el) w:=by simp [Go.underlying,Go.program,Sem.run,nl]
 have huk:(Go.underlying k).run P w=.ok (.int .i64) w:=by simp [Go.underlying,Go.program,Sem.run,AD]
 have hg':(getObj b).run P w=.ok (.map es clock) w:=by simp [getObj,Sem.run,h2]
 have hz0:(zeroValue el).run P w=.ok .nilFunc w:=by simp [zeroValue,typeInfo,hin,hz]
 rcases h3 n with ⟨h4,h5⟩|⟨q,f,h4,h5⟩
 .have hf:(Instr.findKey k (.int .i64 n) es.toList).run P w=.ok none w:=by simp [Instr.findKey,huk,h4]
  rw [h5]
  cases ok with
  | true=>
    refine ⟨.tuple #[.nilFunc,.bool false],?_,_,rfl,.cons ⟨_,rfl,rfl,rfl⟩ (.cons ⟨_,rfl,rfl,rfl⟩ .nil)⟩
    simp only [execOp,ho,hx,hi]
    refine b4 ?_
    unfold Instr.lookup
    simp [Sem.run_bind,hu,hg',Result.andThen_ok,fQ AD,hf,hz0]
  | false=>
    refine ⟨.nilFunc,?_,rfl,rfl⟩
    simp only [execOp,ho,hx,hi]
    refine b4 ?_
    unfold Instr.lookup
    simp [Sem.run_bind,hu,hg',Result.andThen_ok,fQ AD,hf,hz0]
 .have hf:(Instr.findKey k (.int .i64 n) es.toList).run P w=.ok (some (q,.func (.func f) #[] #[])) w:=by simp [Instr.findKey,huk,h4]
  rw [h5]
  have hrel:cX (AV ay s.rs E) w (.fn f 0 λ_=>.v (.bool false)) (.func (.func f) #[] #[]):=⟨#[],rfl,rfl,λj hj=>by omega⟩
  cases ok with
  | true=>
    refine ⟨.tuple #[.func (.func f) #[] #[],.bool true],?_,_,rfl,.cons ⟨_,rfl,hrel⟩ (.cons ⟨_,rfl,rfl,rfl⟩ .nil)⟩
    simp only [execOp,ho,hx,hi]
    refine b4 ?_
    unfold Instr.lookup
    simp [Sem.run_bind,hu,hg',Result.andThen_ok,fQ AD,hf]
  | false=>
    refine ⟨.func (.func f) #[] #[],?_,hrel⟩
    simp only [execOp,ho,hx,hi]
    refine b4 ?_
    unfold Instr.lookup
    simp [Sem.run_bind,hu,hg',Result.andThen_ok,fQ AD,hf]
theorem zQ (bQ:dH P T) (h:R T N ay w0 sp s a w E) (hn:bM s.sl) {o:Oper} {t:TypeId} {x i:Operand} {ok:Bool} (ho:o.op=.lookup t x i ok) {d:D} (e:n9 T s t x i ok=some d):cC P ay s a w E o d:=by
 unfold n9 at e
 split at e
 .exact Aq bQ h hn ho e
 cases hk:Ld T t with
 | false=>rw [hk] at e; exact Aq bQ h hn ho e
 | true=>
 rw [hk] at e
 simp only at e
 unfold Ld at hk
 split at hk
 case h_2=>simp at hk
 rename_i hy
 split at hk
 case h_2=>simp at hk
 rename_i hy1 hy2
 split at e
 case h_2=>simp at e
 rename_i c n hc hi
 have hc:=dG hn (cg hc)
 have hi:=dG hn (ec hi)
 split at e
 case h_2=>simp at e
 rename_i l hl
 simp only [ak] at e; subst e
 unfold Rg at hl
 split at hl
 .split at hl
  case h_2=>simp at hl
  rename_i hr
  rw [cd] at hr
  simp only [ak] at hl; subst hl
  exact cC.cL (p:=none) bQ h (by simp only [ho,bm,hy,hy1,hy2,hc,hi,hr]) trivial
 .simp only [ak] at hl; subst hl
  exact cC.cL (p:=none) bQ h (by simp only [ho,bm,hy,hy1,hy2,hc,hi]) trivial
 .simp at hl
theorem De (bQ:dH P T) (h:R T N ay w0 sp s a w E) (hn:bM s.sl) {o:Oper} {t:TypeId} {x l:Operand} (ho:o.op=.slice t x (some l) none none) {y:Ty} (hy:rQ T t=some y) {c:C} (hc:dm (cl s.sl x)=some c) {q:Int} (hl:iu (cl s.sl l)=some q) {d:D} (e:ym y.size c q=some d):cC P ay s a w E o d:=by
 obtain ⟨xj,gY,z0,el,hy1,hy2⟩:=qQ hy
 have nl:=(bQ.ty _ _ hy1).slice rfl
 replace hc:=h.cl hn (cg hc)
 replace hl:=(h.cl hn (ec hl)).1
 unfold ym at e
 split at e
 case h_2=>simp at e
 rename_i sz n get
 obtain ⟨h1,e⟩:=Bool.au e
 simp only [dJ] at h1
 obtain ⟨h2,h3⟩:=yZ h1.1
 have h4:=bK h1.2
 subst h4
 simp only [ak] at e
 subst e
 obtain ⟨ao,cap,hv,g1,g2,g3⟩:=hc
 have he:P.elem t=el:=by simp [Program.elem,nl]
 have ht:P.underlying t=some (.slice (P.elem t)):=by rw [he]; exact nl
 have hqn:q.toNat<=n:=by omega
 have e1:n-q.toNat<=cap-q.toNat:=Nat.sub_le_sub_right g1 _
 have e2:n-q.toNat<=maxLen:=cW (Nat.sub_le _ _) g2
 have e3:0<n-q.toNat->0<n/\cap≠q.toNat:=λh0=>⟨by omega,by omega⟩
 have e4:∀ i,i<n-q.toNat->q.toNat+i<n:=λi hi=>by omega
 refine ⟨sliced ao q.toNat n cap y.size,?_,_,_,rfl,e1,e2,λh0=>?_⟩
 .simp only [execOp,ho,hv,hl,Option.map_some,Option.map_none]
  refine b4 ?_
  rw [run_sliceAt_slice w t _ _ _ _ ht,run_slice_l w t ao n cap ht .i64 q h2 h3,he,run_sizeOf (bQ.ty _ _ hy2).sz,Result.andThen_ok]
 .obtain ⟨ad,rfl,k1,k2,k3,k4⟩:=g3 (e3 h0).1
  refine ⟨ad.add (q.toNat*y.size),?_,yR _ k1 _,by rw [block_add]; exact k2,by rw [block_add]; exact k3,λi hi j hj=>?_⟩
  .rw [if_neg (e3 h0).2]; rfl
  .obtain ⟨v,m1,m2⟩:=k4 (q.toNat+i) (e4 i hi) j hj
   refine ⟨v,?_,m2⟩
   rw [add_add _ k1,<- m1]
   congr 2
   rw [Nat.add_mul,Nat.add_assoc]
theorem CN (bQ:dH P T) (h:R T N ay w0 sp s a w E) (hn:bM s.sl) {o:Oper} {t:TypeId} {x:Operand} {lo hi mx:Option Operand} (ho:o.op=.slice t x lo hi mx) {d:D} (e:lL T s t x lo hi mx=some d):cC P ay s a w E o d:=by
 unfold lL at e
 split at e
 case h_3=>simp at e
 case h_2=>
  split at e
  case h_2=>simp at e
  rename_i y hy
  split at e
  case h_2=>simp at e
  rename_i c n hc hh
  exact De bQ h hn ho hy hc hh e
 rename_i hi
 split at e
 case h_2=>simp at e
 rename_i y hy
 obtain ⟨xj,gY,z0,el,hy1,hy2⟩:=qQ hy
 split at e
 case h_2=>simp at e
 rename_i c n hc hh
 have hc:=dG hn (cg hc)
 have hh:=dG hn (ec hh)
 unfold nS at e
 split at e
 .obtain ⟨h1,e⟩:=Bool.au e
  simp only [ak] at e; subst e
  exact cC.cL (p:=some _) bQ h (by simp only [ho,bm,hy1,hy2,hc,hh]) (yZ h1)
 .split at e
  case h_4=>simp at e
  all_goals
   rename_i hl
   rw [cd] at hl
   obtain ⟨h1,e⟩:=Bool.au e
   simp only [ak] at e; subst e
   exact cC.cL (p:=some _) bQ h (by simp only [ho,bm,hy1,hy2,hc,hh,hl]) (yZ h1)
 .obtain ⟨h1,e⟩:=Bool.au e
  simp only [ak] at e; subst e
  exact cC.cL (p:=some _) bQ h (by simp only [ho,bm,hy1,hy2,hc,hh]) (show n=0 by simpa using h1)
 .simp at e
theorem H4 (bQ:dH P T) (h:R T N ay w0 sp s a w E) (hn:bM s.sl) {o:Oper} {t t':TypeId} {x:Operand} (ho:o.op=.convert t t' x) {d:D} (e:SS T s t t' x=some d):cC P ay s a w E o d:=by
 unfold SS at e
 split at e
 case h_2=>simp at e
 rename_i y z b v hy hz
 split at e
 case h_2=>simp at e
 rename_i n hx
 simp only [ak] at e
 subst e
 have hx:=(h.cl hn (cg hx)).1
 obtain ⟨u,hu,_⟩:=(bQ.ty _ _ hy).und
 have hu':=(bQ.ty _ _ hz).int rfl
 refine ⟨.int .i64 (IntKind.i64.wrap n),?_,rfl,rfl⟩
 simp only [execOp,ho,hx]
 simp [convert,run_underlying hu,run_underlying hu',Sem.run_bind,Conv.intToInt]
theorem GC (bQ:dH P T) (h:R T N ay w0 sp s a w E) (hn:bM s.sl) {o:Oper} {d:D} (e:fh T s o.op=some d):cC P ay s a w E o d:=by
 generalize hop:o.op=op at e
 cases op with
 | move x=>exact cC.cL (p:=none) bQ h (by simp only [hop,bm,dG hn (show Go.V.cl s.sl x=some d from e)]) trivial
 | assign x=>exact cC.cL (p:=none) bQ h (by simp only [hop,bm,dG hn (show Go.V.cl s.sl x=some d from e)]) trivial
 | pick c x y=>exact E4 h hn hop e
 | binOp op t x y t2=>exact IK bQ h hn hop e
 | unOp op t x=>exact L8 bQ h hn hop e
 | nilCheck x=>exact zG bQ h hn hop e
 | fieldAddr t x f=>exact Dr bQ h hn hop e
 | indexAddr t x i=>exact DG bQ h hn hop e
 | load t x=>
   obtain ⟨p,h1,h2⟩:=rm hn e
   exact cC.cL (p:=p) bQ h (by rw [hop]; exact h1) h2
 | extract x k=>exact ze bQ h hn hop e
 | build t ps=>exact D8 bQ h hn hop e
 | makeFunc fn first eA=>exact Fx bQ h hn hop e
 | call c=>exact Iy bQ h hn hop e
 | lookup t x i ok=>exact zQ bQ h hn hop e
 | slice t x lo hi mx=>exact CN bQ h hn hop e
 | convert t t2 x=>exact H4 bQ h hn hop e
 | _=>exact absurd e (by simp [fh])
end
open Go.RowKit
theorem Mj (x:ag) (rs:List ag):place rs.length x rs=rs++[x]:=by simp [place,dq]
theorem ic {b:Nat} (x:ag) {rs:List ag} (h:b<rs.length):place b x rs=rs.set b x:=by
 have:Nat.beq b rs.length=false:=by
  cases hb:Nat.beq b rs.length with
  | false=>rfl
  | true=>have:=Nat.eq_of_beq_eq_true hb; omega
 simp [place,this,aT]
section
variable {P:Program} {T:dL} {N:Nat} {ay:Nat->Prop} {w0:Kp} {sp:List (D×Value)} {s:VS} {a:Act} {w:World} {E:Env}
def lS (s:VS) (E:Env) (b:Nat):Prop:=(s.rs[b]?=some .dead/\E[b]?=some hole)∨b=s.rs.length
structure mF (b:Nat) (E E':Env):Prop where
 le:Env.le E E'
 free:∀ q,q≠b->E[q]?=some hole->E'[q]?=some hole
theorem mF.refl (b:Nat) (E:Env):mF b E E:=⟨Env.le_refl E,λ_ _ h=>h⟩
theorem R.make (h:R T N ay w0 sp s a w E) {b:Nat} (hf:lS s E b) {dead:Option Nat} {x:ag} {e:fA} {w':World} {row:Option Nat}
  (hg:w.grownBy w' row)
  (nv:∀ k,row=some k->∃ r y q,dead=some r/\s.rs[r]?=some y/\y.live/\bq E r k q)
  (iX:∀ k,e.1=some k->some k=row∨w.heap.size<=k) (dB:∀ k,e.1=some k->k<w'.heap.size)
  (hx:∀ E' cY,Env.le E E'->(∀ k,k<w.heap.size->cY k->AV ay s.rs E k)->(∀ k,cY k->AV ay s.rs E k∨e.has k)->ba (AV ay s.rs E) w w'->aP E' cY w0.base w' e x)
  (sg:∀ k,e.2.1.2 k->(∃ r y q,dead=some r/\s.rs[r]?=some y/\y.live/\cU E r k q)∨(w.heap.size<=k/\k<w'.heap.size):=by intro k hk; exact hk.elim) :
  ∃ E',R T N ay w0 sp { s with rs:=place b x (kill dead s.rs) } a w' E'/\E'[b]?=some e/\mF b E E'/\(∀ k,k<w.heap.size->AV ay (place b x (kill dead s.rs)) E' k->AV ay s.rs E k)/\∀ k,AV ay (place b x (kill dead s.rs)) E' k->AV ay s.rs E k∨e.has k:=by
 have hkl:(kill dead s.rs).length=s.rs.length:=by cases dead<;>simp [kill]
 rcases hf with ⟨hb,hE⟩|rfl
 .have hbl:b<(kill dead s.rs).length:=by rw [hkl]; exact (List.getElem?_eq_some_iff.1 hb).1
  have hbE:b<E.length:=(List.getElem?_eq_some_iff.1 hE).1
  obtain ⟨h1,h2,gk⟩:=h.at (b:=b) (dead:=dead) (x:=x) (e:=e) (w':=w') (row:=row) hb hE hg nv iX dB (λeG sD hk=>hx _ _ (Env.yi e hE) eG sD hk) sg
  rw [ic x hbl]
  refine ⟨_,h1,by rw [dI]; simp [hbE],⟨Env.yi e hE,λq hq h3=>?_⟩,h2,gk⟩
  rw [dI,if_neg (λe=>hq e.symm)]; exact h3
 .have h0:=h.Ww 1
  have hle:Env.le E (E++List.replicate 1 hole):=Env.eb _ _
  have Et:(s.rs++List.replicate 1 ag.dead)[s.rs.length]?=some .dead:=by simp
  have hEs:(E++List.replicate 1 hole)[s.rs.length]?=some hole:=by rw [<- h.len]; simp
  have hav0:∀ k,AV ay (s.rs++List.replicate 1 .dead) (E++List.replicate 1 hole) k->AV ay s.rs E k:=by
   rintro k (q|⟨r,y,sz,h1,h2,hh,h3⟩)
   .exact .inl q
   .rcases Nat.lt_or_ge r s.rs.length with hr|hr
    .rw [dv hr] at h1
     rw [dv (by rw [h.len]; exact hr)] at h3
     exact .inr ⟨r,y,sz,h1,h2,hh,h3⟩
    .rw [gm hr,List.getElem?_replicate] at h1
     split at h1
     .simp only [ak] at h1; subst h1; exact h2.elim
     .simp at h1
  have hav1:∀ k,AV ay s.rs E k->AV ay (s.rs++List.replicate 1 .dead) (E++List.replicate 1 hole) k:=by
   rintro k (q|⟨r,y,sz,h1,h2,h3⟩)
   .exact .inl q
   .exact .inr ⟨r,y,sz,by rw [dv (List.getElem?_eq_some_iff.1 h1).1]; exact h1,h2,Gk _ h3⟩
  obtain ⟨h1,h2,gk⟩:=h0.at (b:=s.rs.length) (dead:=dead) (x:=x) (e:=e) (w':=w') (row:=row) Et hEs hg (λk hk=>by
   obtain ⟨r,y,q,h3,h4,h5,h6⟩:=nv k hk
   exact ⟨r,y,q,h3,by rw [dv (List.getElem?_eq_some_iff.1 h4).1]; exact h4,h5,hle.at_ h6⟩) iX dB
   (λeG sD hk=>hx _ _ (hle.trans (Env.yi e hEs)) (λk kT q=>hav0 k (eG k kT q)) (λk q=>(sD k q).imp (hav0 k) id) ⟨hk.size,λk kT hn=>hk.same k kT λq=>hn (hav0 k q)⟩) (λk hk=>by
   rcases sg k hk with ⟨r,y,q,h3,h4,h5,h6⟩|h7
   .exact .inl ⟨r,y,q,h3,by rw [dv (List.getElem?_eq_some_iff.1 h4).1]; exact h4,h5,Gk _ h6⟩
   .exact .inr h7)
  have hk2:(kill dead (s.rs++List.replicate 1 .dead)).set s.rs.length x=place s.rs.length x (kill dead s.rs):=by
   rw [<- hkl,Mj]
   cases dead with
   | none=>simp [kill]
   | some r=>
     simp only [kill]
     rw [List.set_append]
     split
     .rename_i hr
      have:(s.rs.set r ag.dead++List.replicate 1 ag.dead).set (s.rs.set r ag.dead).length x=s.rs.set r ag.dead++[x]:=by
       rw [List.set_append]; simp
      exact this
     .rename_i hr
      have h3:s.rs.set r ag.dead=s.rs:=List.set_eq_of_length_le (by omega)
      have h4:(List.replicate 1 ag.dead).set (r-s.rs.length) ag.dead=List.replicate 1 ag.dead:=by
       cases r-s.rs.length<;>rfl
      rw [h3,h4,List.set_append]
      simp
  simp only at h1 h2 gk
  rw [hk2] at h1 h2 gk
  refine ⟨_,h1,?_,⟨hle.trans (Env.yi e hEs),λq hq h3=>?_⟩,λk hk q=>hav0 k (h2 k hk q),λk q=>(gk k q).imp (hav0 k) id⟩
  .rw [dI,if_pos rfl]
   simp [h.len]
  .rw [dI,if_neg (λe=>hq e.symm),dv (List.getElem?_eq_some_iff.1 h3).1]
   exact h3
def dV (e:cm):Option D:=match e with
 | .val d=>some d
 | .wr d _=>d
 | .all d _=>some d
 | .cD _=>none
def iO (T:dL) (N:Nat) (ay:Nat->Prop) (w0:Kp) (sp:List (D×Value)) (s:VS) (a:Act) (w:World) (E:Env) (b:Nat) (e:cm) (v:Value) (w':World) (E':Env):Prop:=
 mF b E E'/\R T N ay w0 sp { s with rs:=EY e s.rs } a w' E'/\∀ d,dV e=some d->aZ E' (AV ay (EY e s.rs) E') w' d v
theorem M3 {α:Type} (l m:List α) (o k n:Nat) (hm:m.length=k) (h:o+k<=n) (hn:n<=l.length):(l.take o++m++l.drop (o+k)).take n=(l.take n).take o++m++(l.take n).drop (o+k):=by
 apply List.ext_getElem?
 intro i
 have h1:(l.take o).length=o:=by simp; omega
 have h2:((l.take n).take o).length=o:=by simp; omega
 rw [dx]
 rcases Nat.lt_or_ge i o with hi|hi
 .rw [if_pos (by omega),List.append_assoc,List.append_assoc,dv (by omega),dv (by omega)]
  rw [dx,dx,dx,if_pos hi,if_pos hi,if_pos (by omega)]
 .rcases Nat.lt_or_ge i (o+k) with hk|hk
  .have A:∀ l1 l3:List α,l1.length=o->(l1++m++l3)[i]?=m[i-o]?:=λl1 l3 hl=>by
    rw [List.append_assoc,gm (by omega),hl,dv (by omega)]
   rw [if_pos (by omega),A _ _ h1,A _ _ h2]
  .rw [gm (by simp; omega),gm (by simp; omega),List.getElem?_drop,List.getElem?_drop,dx]
   simp only [List.length_append,h1,h2,hm]
   rw [show o+k+(i-(o+k))=i by omega]
theorem qf (get:Nat->I):∀ (n o q:Nat),q<n->(dT get o n)[q]?=some (.im (get (o+q)))
 | 0,_,_,h=>by omega
 | n+1,o,0,_=>by simp [dT]
 | n+1,o,q+1,h=>by
   simp only [dT,List.getElem?_cons_succ]
   rw [qf get n (o+1) q (by omega)]
   congr 3; omega
theorem gV (get:Nat->I):∀ (n o:Nat),(dT get o n).length=n
 | 0,_=>rfl
 | n+1,o=>by simp [dT,gV get n]
theorem uu (get:Nat->Nat->I) (sz i n:Nat):vE get sz i (n+1)=dT (get i) 0 sz++vE get sz (i+1) n:=rfl
theorem mT (get:Nat->Nat->I) (sz:Nat):∀ (n i:Nat),(vE get sz i n).length=n*sz
 | 0,_=>by simp; rfl
 | n+1,i=>by rw [uu,List.length_append,gV,mT get sz n,Nat.add_mul,Nat.one_mul]; omega
theorem ng (get:Nat->Nat->I) (sz:Nat):∀ (n i k j:Nat),k<n->j<sz->(vE get sz i n)[k*sz+j]?=some (.im (get (i+k) j))
 | 0,_,_,_,h,_=>by omega
 | n+1,i,0,j,_,hj=>by
   rw [uu,dv (by rw [gV]; omega),qf _ _ _ _ (by omega)]
   simp
 | n+1,i,k+1,j,h,hj=>by
   have:(k+1)*sz+j=sz+(k*sz+j):=by rw [Nat.add_mul,Nat.one_mul]; omega
   rw [uu,gm (by rw [gV]; omega),gV,show (k+1)*sz+j-sz=k*sz+j by omega,ng get sz n (i+1) k j (by omega) hj]
   congr 3; omega
theorem aB.Ia {α β:Type} {Rr:α->β->Prop}:∀ {l:List α} {m:List β},l.length=m.length->(∀ (i:Nat) (x:α),l[i]?=some x->∃ y,m[i]?=some y/\Rr x y)->aB Rr l m
 | [],[],_,_=>.nil
 | x::l,y::m,h,k=>by
   obtain ⟨y',h1,h2⟩:=k 0 x rfl
   simp only [List.getElem?_cons_zero,ak] at h1
   subst h1
   exact .cons h2 (aB.Ia (by simpa using h) λi x hx=>by simpa using k (i+1) x (by simpa using hx))
 | [],_::_,h,_=>by simp at h
 | _::_,[],h,_=>by simp at h
theorem R.swap (h:R T N ay w0 sp s a w E) {r:Nat} {x y:ag} (hr:s.rs[r]?=some x) (hl:y.live->x.live)
  (hx:∀ e av,aP E av w0.base w e x->(∀ b,av b->AV ay s.rs E b)->aP E av w0.base w e y):R T N ay w0 sp { s with rs:=s.rs.set r y } a w E:=by
 have dB:r<s.rs.length:=(List.getElem?_eq_some_iff.1 hr).1
 have key:∀ (q:Nat) (z:ag),(s.rs.set r y)[q]?=some z->z.live->∃ z',s.rs[q]?=some z'/\z'.live/\(z=z'∨(q=r/\z=y/\z'=x)):=by
  intro q z h1 h2
  rw [dI] at h1
  simp only [dB,if_true] at h1
  split at h1
  .rename_i hq
   subst hq
   simp only [ak] at h1
   subst h1
   exact ⟨x,hr,hl h2,.inr ⟨rfl,rfl,rfl⟩⟩
  .exact ⟨z,h1,h2,.inl rfl⟩
 have eG:∀ b,AV ay (s.rs.set r y) E b->AV ay s.rs E b:=by
  rintro b (q|⟨q,z,sz,h1,h2,h3⟩)
  .exact .inl q
  .obtain ⟨z',h4,h5,_⟩:=key q z h1 h2
   exact .inr ⟨q,z',sz,h4,h5,h3⟩
 refine h.zi (aJ:=s.rs.set r y) (Env.le_refl E) (ba.refl _ w) h.below (λb _ q=>eG b q) (by simpa using h.len) ?_ ?_ ?_
 .intro q z e h1 h2
  by_cases hz:z.live
  .obtain ⟨z',h4,h5,h6⟩:=key q z h1 hz
   have h7:=aP.mono (Env.le_refl E) (ba.refl _ w) (λb _ q=>eG b q) (λ_ _ _=>rfl) (h.roots q z' e h4 h2)
   rcases h6 with rfl|⟨rfl,rfl,rfl⟩
   .exact h7
   .exact hx e _ h7 eG
  .cases z with
   | dead=>trivial
   | _=>exact (hz trivial).elim
 .intro q z b sz h1 h2 h3
  obtain ⟨z',h4,h5,_⟩:=key q z h1 h2
  exact h.cS q z' b sz h4 h5 h3
 .intro q q' z z' b sz cF h1 ku h2 gk h3 kL
  obtain ⟨u,h4,h5,_⟩:=key q z h1 h2
  obtain ⟨u',h4',h5',_⟩:=key q' z' ku gk
  exact h.dD q q' u u' b sz cF h4 h4' h5 h5' h3 kL
theorem Vz {E:Env} {av:Nat->Prop} {base:Nat} {w:World} {e:fA} {el sz n:Nat} {get:Nat->Nat->I} (h:aP E av base w e (.arr el sz n get)):aP E av base w e (.row el sz n (vE get sz 0 n)):=by
 obtain ⟨h1,h2,xs,h3,h4⟩:=h
 refine ⟨h1,h2,xs,h3,aB.Ia (by rw [mT,h3.1]) λq x hx=>?_⟩
 have hq:q<n*sz:=by have:=(List.getElem?_eq_some_iff.1 hx).1; rwa [mT] at this
 have hz:0<sz:=by
  rcases Nat.eq_zero_or_pos sz with e|e
  .subst e; simp at hq
  .exact e
 have e1:q/sz*sz+q%sz=q:=by rw [Nat.mul_comm]; exact Nat.div_add_mod q sz
 have hk:q/sz<n:=Nat.div_lt_of_lt_mul (by rw [Nat.mul_comm]; exact hq)
 have hm:q%sz<sz:=Nat.mod_lt _ hz
 obtain ⟨y,h7,h8⟩:=h4 (q/sz) hk (q%sz) hm
 have h9:=ng get sz n 0 (q/sz) (q%sz) hk hm
 rw [e1] at h7 h9
 rw [hx] at h9
 simp only [Nat.zero_add,ak] at h9
 subst h9
 exact ⟨y,h7,h8⟩
theorem Tf {E:Env} {av:Nat->Prop} {base:Nat} {w:World} {e:fA} {el sz n:Nat} {l:List C} {get:Nat->Nat->I} (h:aP E av base w e (.row el sz n l)) (hl:∀ i,i<n->∀ j,j<sz->l[i*sz+j]?=some (.im (get i j))):aP E av base w e (.arr el sz n get):=by
 obtain ⟨h1,h2,xs,h3,h4⟩:=h
 refine ⟨h1,h2,xs,h3,λi hi j hj=>?_⟩
 obtain ⟨y,h5,h6⟩:=h4.nth (i:=i*sz+j) (x:=.im (get i j)) (by rw [bp]; exact hl i hi j hj)
 exact ⟨y,h5,h6⟩
theorem Vv (get:Nat->Nat->I) (i j:Nat) (ys:List I):IZ get i j ys=zi get i j ys:=by
 funext i' j'
 unfold IZ zi
 by_cases h:i'=i/\j<=j'/\j'<j+ys.length
 .rw [if_pos h]
  obtain ⟨rfl,h2,h3⟩:=h
  have e1:Nat.beq i' i'=true:=dq i'
  have e2:Nat.ble j j'=true:=Nat.ble_eq▸h2
  have e3:Nat.blt j' (j+ys.length)=true:=by simpa [kD] using h3
  rw [e1,e2,e3]; rfl
 .rw [if_neg h]
  cases hb:(Nat.beq i' i&&(Nat.ble j j'&&Nat.blt j' (j+ys.length))) with
  | false=>rfl
  | true=>
    simp only [dJ] at hb
    exact (h ⟨bK hb.1,ew hb.2.1,aM hb.2.2⟩).elim
theorem TB (n:Nat) (get get':Nat->Nat->I):gA n get get'=app n get get':=by
 funext i j
 unfold gA app
 by_cases h:i<n
 .rw [if_pos h,(by simpa [kD] using h:Nat.blt i n=true)]
 .rw [if_neg h]
  cases hb:Nat.blt i n with
  | false=>rfl
  | true=>exact (h (aM hb)).elim
theorem l5:∀ ys:List I,(lift ys).length=ys.length
 | []=>rfl
 | y::ys=>by simp [lift,l5 ys]
theorem pO:∀ {ys:List I} {j:Nat},j<ys.length->(lift ys)[j]?=some (.im (iv ys j))
 | [],j,h=>by simp at h
 | y::ys,0,h=>rfl
 | y::ys,j+1,h=>by
   have:=pO (ys:=ys) (j:=j) (by simpa using h)
   simpa [lift,iv,nth] using this
structure StN (get:Nat->Nat->O) (et:Option (Nat×List Fc)) (get':Nat->Nat->O) (kE:Option (Nat×List Fc)) (i j:Nat) (cs:List C):Prop where
 out:∀ i' j',¬ (i'=i/\j<=j'/\j'<j+cs.length)->fS get' kE i' j'=fS get et i' j'
 in_:∀ k,k<cs.length->∃ c x,cs[k]?=some x/\fS get' kE i (j+k)=some c/\(c=.c x∨∃ y,x=.im y/\c=.o (.im y))
 et:∀ {n sz:Nat},(∀ x,et=some x->x.1<n/\x.2.length=sz)->∀ x,kE=some x->x.1<n/\x.2.length=sz
theorem AO:∀ {ys:List C} {l r:List Fc} {o:Nat},Ll ys l o=some r->r.length=l.length/\(∀ q,¬ (o<=q/\q<o+ys.length)->r[q]?=l[q]?)/\∀ (k:Nat) (y:C),ys[k]?=some y->r[o+k]?=some (.c y)
 | [],l,r,o,h=>by
   have h:some l=some r:=h
   simp only [ak] at h; subst h
   exact ⟨rfl,λ_ _=>rfl,λk y hk=>by simp at hk⟩
 | y::ys,l,r,o,h=>by
   have h:(match aV l o with
    | some _=>Ll ys (setAt l o (.c y)) (o+1)
    | none=>none)=some r:=h
   split at h
   case h_2=>simp at h
   rename_i z hz
   rw [cd,bp] at hz
   have ho:o<l.length:=(List.getElem?_eq_some_iff.1 hz).1
   obtain ⟨h1,h2,h3⟩:=AO h
   rw [aT] at h1 h2
   refine ⟨by simpa using h1,λq hq=>?_,λk y' hk=>?_⟩
   .rw [h2 q (by simp at hq; omega),dI,if_neg (by simp at hq; omega)]
   .cases k with
    | zero=>
      simp only [List.getElem?_cons_zero,ak] at hk
      subst hk
      rw [Nat.add_zero,h2 o (by omega),dI,if_pos rfl,if_pos ho]
    | succ k=>
      have:=h3 k y' (by simpa using hk)
      rw [show o+(k+1)=o+1+k by omega]; exact this
theorem Vs (get:Nat->Nat->O) (i j k:Nat) (ys:List I) (h:k<ys.length):Mf get i j ys i (j+k)=.im (iv ys k):=by
 have h1:(Nat.beq i i&&(Nat.ble j (j+k)&&Nat.blt (j+k) (j+ys.length)))=true:=by
  simp only [dJ]
  exact ⟨dq i,by rw [Nat.ble_eq]; omega,by unfold Nat.blt; rw [Nat.ble_eq]; omega⟩
 unfold Mf
 rw [h1]
 show O.im (iv ys (j+k-j))=_
 rw [Nat.add_sub_cancel_left]
theorem NT (get:Nat->Nat->O) (i j i' j':Nat) (ys:List I) (h:¬ (i'=i/\j<=j'/\j'<j+ys.length)):Mf get i j ys i' j'=get i' j':=by
 have h1:(Nat.beq i' i&&(Nat.ble j j'&&Nat.blt j' (j+ys.length)))=false:=by
  rw [Bool.eq_false_iff]
  intro q
  simp only [dJ] at q
  exact h ⟨Nat.eq_of_beq_eq_true q.1,Nat.le_of_ble_eq_true q.2.1,aM q.2.2⟩
 unfold Mf
 rw [h1]
theorem vA {el sz n size r i j:Nat} {get:Nat->Nat->O} {et:Option (Nat×List Fc)} {cs:List C} {e:cm} (fo:cs.length=size) (hf:∀ x,et=some x->Nat.beq i x.1=false) (h:pw el sz n get et size r i j cs=some e) :
  ∃ get' kE,e=.wr none [(r,.bt el sz n get' kE)]/\j+size<=sz/\i<n/\StN get et get' kE i j cs:=by
 unfold pw at h
 split at h
 case h_2=>simp at h
 rename_i ys hys
 obtain ⟨h1,h⟩:=Bool.au h
 obtain ⟨h2,h⟩:=Bool.au h
 simp only [ak] at h; subst h
 have him:=ry hys
 have hl:ys.length=cs.length:=by rw [him,l5]
 have nf:∀ (g:Nat->Nat->O) (j:Nat),fS g et i j=some (.o (g i j)):=λg j=>by
  unfold fS
  cases et with
  | none=>rfl
  | some x=>simp only [hf x rfl]
 refine ⟨_,et,rfl,ew h1,aM h2,⟨λi' j' hn=>?_,λk hk=>?_,λhq=>hq⟩⟩
 .rw [<- hl] at hn
  unfold fS
  rw [NT get i j i' j' ys hn]
 .have hk2:k<ys.length:=by omega
  refine ⟨_,_,eK hk,nf _ _,.inr ⟨iv ys k,?_,by rw [Vs _ _ _ _ _ hk2]⟩⟩
  have:(lift ys)[k]?=some (.im (iv ys k)):=by
   have:=pO (ys:=ys) (j:=k) hk2
   exact this
  rw [<- him,eK hk] at this
  simpa using this
theorem GN {el sz n size r i j:Nat} {get:Nat->Nat->O} {et:Option (Nat×List Fc)} {cs:List C} {e:cm} (fo:cs.length=size) (h:rv el sz n get et size r i j cs=some e) :
  ∃ get' kE,e=.wr none [(r,.bt el sz n get' kE)]/\j+size<=sz/\(i<n∨∃ x,et=some x/\i=x.1)/\StN get et get' kE i j cs:=by
 unfold rv at h
 split at h
 .obtain ⟨get',kE,h1,h2,h3,h4⟩:=vA fo (λx hx=>by cases hx) h
  exact ⟨get',kE,h1,h2,.inl h3,h4⟩
 .rename_i x
  cases hb:Nat.beq i x.1 with
  | false=>
    rw [hb] at h
    obtain ⟨get',kE,h1,h2,h3,h4⟩:=vA fo (λy hy=>by simp only [ak] at hy; subst hy; exact hb) h
    exact ⟨get',kE,h1,h2,.inl h3,h4⟩
  | true=>
    rw [hb] at h
    have h:(match Ll cs x.2 j with
     | some l=>(Bool.rec none (some (.wr none [(r,.bt el sz n get (some (x.1,l)))])) (Nat.ble (j+size) sz):Option cm)
     | none=>none)=some e:=h
    split at h
    case h_2=>simp at h
    rename_i l hl
    obtain ⟨h1,h⟩:=Bool.au h
    simp only [ak] at h; subst h
    obtain ⟨p1,p2,p3⟩:=AO hl
    have hi:=Nat.eq_of_beq_eq_true hb
    refine ⟨get,_,rfl,ew h1,.inr ⟨x,rfl,hi⟩,⟨λi' j' hn=>?_,λk hk=>?_,λhq y hy=>?_⟩⟩
    .unfold fS
     cases hb2:Nat.beq i' x.1 with
     | false=>simp only [hb2]
     | true=>
       have jW:=Nat.eq_of_beq_eq_true hb2
       simp only [hb2,bp]
       exact p2 j' (λq=>hn ⟨by rw [jW,hi],q.1,q.2⟩)
    .refine ⟨.c cs[k],cs[k],eK hk,?_,.inl rfl⟩
     unfold fS
     simp only [hb,bp]
     exact p3 k _ (eK hk)
    .simp only [ak] at hy; subst hy
     obtain ⟨q1,q2⟩:=hq x rfl
     exact ⟨q1,p1.trans q2⟩
theorem C0 (bQ:dH P T) (h:R T N ay w0 sp s a w E) (hn:bM s.sl) {dst:Option Tmp} {t:TypeId} {x v:Operand} {e:cm} (ef:gU T s dst t x v=some e) (b:Nat) :
  (∃ l,e=.cD l)∨dst=none/\∃ w',(Instr.storeAt t (a.eval x) (a.eval v)).run P w=.ok () w'/\iO T N ay w0 sp s a w E b e undef w' E:=by
 unfold gU at ef
 split at ef
 .simp at ef
 split at ef
 case h_2=>simp at ef
 rename_i y d hy hd
 have hv:=h.cl hn hd
 split at ef
 case h_2=>simp at ef
 rename_i cs hcs
 obtain ⟨fo,ef⟩:=Bool.au ef
 split at ef
 case h_2=>simp at ef
 rename_i r i j hx
 have hx:=h.cl hn (cg hx)
 have hcv:=mK hv hcs
 unfold mo at ef
 split at ef
 .rename_i l hl
  refine .inr ⟨rfl,?_⟩
  rw [cd] at hl
  split at ef
  case h_2=>simp at ef
  split at ef
  case h_2=>simp at ef
  rename_i l' vU
  simp only [ak] at ef
  subst ef
  have hr:r<s.rs.length:=by rw [bp] at hl; exact (List.getElem?_eq_some_iff.1 hl).1
  obtain ⟨s',w',h1,h2,h3⟩:=vp (t:=t) bQ h hx hv (K:=λs'=>s'={ s with rs:=setAt s.rs r (.box l') }) (by
   simp only [D3,hy,hcs,fo,hl,vU])
  subst h3
  refine ⟨w',h1,mF.refl _ _,?_,λd hd=>by simp [dV] at hd⟩
  show R T N ay w0 sp { s with rs:=place r (.box l') s.rs } a w' E
  rw [ic _ hr,<- aT]
  exact h2
 .rename_i el asz n l hl
  refine .inr ⟨rfl,?_⟩
  rw [cd,bp] at hl
  split at ef
  case h_2=>simp at ef
  rename_i l' vU
  simp only [ak] at ef
  subst ef
  have hy:=bQ.ty _ _ hy
  simp only [dJ] at fo
  obtain ⟨fo,fH⟩:=fo
  have fo:=bK fo
  have fH:=aM fH
  have tu:(a.eval v).cells.size=y.size:=by have:=hcv.length; rw [fo] at this; simpa using this.symm
  have hr:r<s.rs.length:=(List.getElem?_eq_some_iff.1 hl).1
  obtain ⟨b',sz,⟨qk,hE⟩,hpx⟩:=hx
  obtain ⟨q1,q2,xs,q3,q4⟩:=h.roots r _ _ hl hE
  have q1:sz=asz:=q1
  have q2:some b'=qk.1.ownBlock:=q2
  subst q1
  obtain ⟨q5,q6⟩:=q3
  have q6:(qk.1=.slice none 0 0/\n=0)∨∃ g cap cur,qk.1=.slice (some ⟨g,0,none⟩) n cap/\w0.base<=g/\w.heap[g]?=some (.cells cur el (0,0))/\n<=cap/\cap<=maxLen/\cur.size=cap*sz/\cur.toList.take (n*sz)=xs:=q6
  rcases q6 with ⟨q6,_⟩|⟨g',cap,cur,q6,q7,q8,q9,q10,q11,q12⟩
  .rw [q6] at q2; simp [Value.ownBlock] at q2
  rw [q6] at q2
  simp only [Value.ownBlock,ak] at q2
  subst q2
  have hfit0:i*sz+j+y.size<=n*sz:=by
   have hlen:=q4.length
   rcases sy vU with h1|h1
   .rw [fo] at h1; omega
   .subst h1; simp at fo; omega
  have hcap:n*sz<=cap*sz:=fU _ q9
  have hrun:=ig (w:=w) hy (o:=i*sz+j) q8 tu (by omega) (hcv.sh)
  rw [hpx]
  refine ⟨_,hrun,mF.refl _ _,?_,λd hd=>by simp [dV] at hd⟩
  show R T N ay w0 sp { s with rs:=place r _ s.rs } a _ E
  rw [ic _ hr]
  have hl2:(a.eval v).cells.toList.length=y.size:=by simpa using tu
  have hk:ba (AV ay s.rs E) w (w.setRow b' (cur.toList.take (i*sz+j)++(a.eval v).cells.toList++cur.toList.drop (i*sz+j+y.size)).toArray):=
    ⟨by simp,λk hk hn=>setRow_other w _ k _ λe=>by subst e; exact hn (.inr ⟨r,_,sz,hl,trivial,bq.own ⟨qk,hE⟩⟩)⟩
  have hp:=as1 vU q4 hcv
  rw [hl2,<- q12,<- M3 cur.toList _ (i*sz+j) y.size (n*sz) hl2 hfit0 (by simp; omega)] at hp
  refine h.turn hl trivial hE (by simp) (λk hk=>setRow_other w _ k _ hk) ⟨rfl,rfl,rfl⟩ ⟨rfl,by rw [q6]; rfl,_,⟨?_,.inr ⟨b',cap,_,q6,q7,setRow_heap w b' cur _ el (0,0) q8,q9,q10,?_,rfl⟩⟩,?_⟩
  .simp [hl2]
   omega
  .simp [hl2]
   omega
  .exact hp.mono λ_ _ q=>bg.mono (Env.le_refl E) hk (λ_ _ q=>q) q
 .rename_i el asz n get hl
  rw [cd] at hl
  split at ef
  .rename_i ys hys
   refine .inr ⟨rfl,?_⟩
   obtain ⟨h1,ef⟩:=Bool.au ef
   obtain ⟨h2,ef⟩:=Bool.au ef
   simp only [ak] at ef
   subst ef
   have hr:r<s.rs.length:=by rw [bp] at hl; exact (List.getElem?_eq_some_iff.1 hl).1
   obtain ⟨s',w',h3,h4,h5⟩:=vp (t:=t) bQ h hx hv (K:=λs'=>s'={ s with rs:=setAt s.rs r (.arr el asz n (zi get i j ys)) }) (by
    simp only [D3,hy,hcs,fo,hl,hys,h1]
    exact ⟨aM h2,trivial⟩)
   subst h5
   refine ⟨w',h3,mF.refl _ _,?_,λd hd=>by simp [dV] at hd⟩
   show R T N ay w0 sp { s with rs:=place r (.arr el asz n (IZ get i j ys)) s.rs } a w' E
   rw [ic _ hr,<- aT,Vv]
   exact h4
  .unfold oP at ef
   split at ef
   .simp only [ak] at ef
    exact .inl ⟨_,ef.symm⟩
   .simp at ef
 .rename_i el asz n get et hl
  refine .inr ⟨rfl,?_⟩
  rw [cd,bp] at hl
  have hy:=bQ.ty _ _ hy
  simp only [dJ] at fo
  obtain ⟨fo,fH⟩:=fo
  have fo:=bK fo
  obtain ⟨get',kE,rfl,hjs,hin,l8⟩:=GN fo ef
  have hr:r<s.rs.length:=(List.getElem?_eq_some_iff.1 hl).1
  obtain ⟨b',sz,⟨qk,hE⟩,hpx⟩:=hx
  obtain ⟨q1,q2,xs,q3,Ks,hK,hf,q4⟩:=h.roots r _ _ hl hE
  have q1:sz=asz:=q1
  have q2:some b'=qk.1.ownBlock:=q2
  have hK:Kt qk.2 qk.1.ownBlock Ks:=hK
  subst q1
  have tu:(a.eval v).cells.size=y.size:=by have:=hcv.length; rw [fo] at this; simpa using this.symm
  obtain ⟨q5,q6⟩:=q3
  have q6:(qk.1=.slice none 0 0/\n=0)∨∃ g cap cur,qk.1=.slice (some ⟨g,0,none⟩) n cap/\w0.base<=g/\w.heap[g]?=some (.cells cur el (0,0))/\n<=cap/\cap<=maxLen/\cur.size=cap*sz/\cur.toList.take (n*sz)=xs:=q6
  rcases q6 with ⟨q6,_⟩|⟨g',cap,cur,q6,q7,q8,q9,q10,q11,q12⟩
  .rw [q6] at q2; simp [Value.ownBlock] at q2
  have LW:qk.1.ownBlock=some b':=q2.symm
  rw [q6] at q2
  simp only [Value.ownBlock,ak] at q2
  subst q2
  have hi:i<n:=hin.elim id λ⟨x,g1,g2⟩=>g2▸(hf x g1).1
  have hjs:j+y.size<=sz:=hjs
  have hfit0:i*sz+j+y.size<=n*sz:=by
   have:=fU sz (show i+1<=n by omega)
   rw [Nat.add_mul,Nat.one_mul] at this
   omega
  have hcap:n*sz<=cap*sz:=fU _ q9
  have hrun:=ig (w:=w) hy (o:=i*sz+j) q8 tu (by omega) (hcv.sh)
  rw [hpx]
  refine ⟨_,hrun,mF.refl _ _,?_,λd hd=>by simp [dV] at hd⟩
  show R T N ay w0 sp { s with rs:=place r _ s.rs } a _ E
  rw [ic _ hr]
  have hl2:(a.eval v).cells.toList.length=y.size:=by simpa using tu
  have hk:ba (AV ay s.rs E) w (w.setRow b' (cur.toList.take (i*sz+j)++(a.eval v).cells.toList++cur.toList.drop (i*sz+j+y.size)).toArray):=
    ⟨by simp,λk hk hn=>setRow_other w _ k _ λe=>by subst e; exact hn (.inr ⟨r,_,sz,hl,trivial,bq.own ⟨qk,hE⟩⟩)⟩
  refine h.turn hl trivial hE (by simp) (λk hk=>setRow_other w _ k _ hk) ⟨rfl,rfl,rfl⟩ ⟨rfl,by rw [q6]; rfl,_,⟨?_,.inr ⟨b',cap,_,q6,q7,setRow_heap w b' cur _ el (0,0) q8,q9,q10,?_,rfl⟩⟩,Ks,hK,l8.et hf,?_⟩
  .simp [hl2]
   omega
  .simp [hl2]
   omega
  .intro i' jW j' hj'
   have hq:i'*sz+j'<n*sz:=by
    have:=fU sz (show i'+1<=n by omega)
    rw [Nat.add_mul,Nat.one_mul] at this
    omega
   have hxs:∀ q,q<n*sz->((cur.toList.take (i*sz+j)++(a.eval v).cells.toList++cur.toList.drop (i*sz+j+y.size)).toArray.toList.take (n*sz))[q]?=if i*sz+j<=q/\q<i*sz+j+y.size then (a.eval v).cells.toList[q-(i*sz+j)]? else xs[q]?:=by
    intro q hq
    rw [dx,if_pos hq,<- q12,dx,if_pos hq]
    have h1:(cur.toList.take (i*sz+j)).length=i*sz+j:=by rw [List.length_take,Array.length_toList,q11]; omega
    split
    .rename_i hc
     rw [dv (by rw [List.length_append,h1,hl2]; exact hc.2),gm (by rw [h1]; exact hc.1),h1]
    .rename_i hc
     rcases Nat.lt_or_ge q (i*sz+j) with dB|hge
     .rw [dv (by rw [List.length_append,h1]; omega),dv (by rw [h1]; exact dB),dx,if_pos dB]
     .have hge2:i*sz+j+y.size<=q:=by omega
      rw [gm (by rw [List.length_append,h1,hl2]; exact hge2),List.getElem?_drop,List.length_append,h1,hl2]
      congr 1; omega
   have hs:∀ b,Ks i' j' b->(w.setRow b' (cur.toList.take (i*sz+j)++(a.eval v).cells.toList++cur.toList.drop (i*sz+j+y.size)).toArray).heap[b]?=w.heap[b]?:=λb hb=>setRow_other w _ b _ λe=>by
    subst e
    exact hK.ne _ _ _ hb LW
   by_cases hc:i'=i/\j<=j'/\j'<j+y.size
   .obtain ⟨rfl,h2,h3⟩:=hc
    obtain ⟨c,x,g1,g2,g3⟩:=l8.in_ (j'-j) (by rw [fo]; omega)
    obtain ⟨u,g4,g5⟩:=hcv.nth (i:=j'-j) (x:=x) (by rw [bp]; exact g1)
    refine ⟨u,c,?_,by rw [show j+(j'-j)=j' by omega] at g2; exact g2,?_⟩
    .rw [hxs _ hq,if_pos (by omega),show i'*sz+j'-(i'*sz+j)=j'-j by omega]; exact g4
    .have g6:=bg.mono (Env.le_refl E) hk (λ_ _ q=>q) g5
     rcases g3 with rfl|⟨z,rfl,rfl⟩
     .exact g6
     .exact g6
   .obtain ⟨u,c,g1,g2,g3⟩:=q4 i' jW j' hj'
    refine ⟨u,c,?_,by rw [l8.out i' j' (by rw [fo]; exact hc)]; exact g2,iK.mono (Env.le_refl E) hk (λ_ _ q=>q) hs g3⟩
    rw [hxs _ hq,if_neg]
    .exact g1
    .rintro ⟨h1,h2⟩
     refine hc ?_
     have hii:i'=i:=by
      rcases Nat.lt_trichotomy i' i with h3|h3|h3
      .have:=fU sz (show i'+1<=i by omega)
       rw [Nat.add_mul,Nat.one_mul] at this
       omega
      .exact h3
      .have:=fU sz (show i+1<=i' by omega)
       rw [Nat.add_mul,Nat.one_mul] at this
       omega
     subst hii
     omega
 .simp at ef
theorem R.JF (h:R T N ay w0 sp s a w E) {b:Nat} (hf:lS s E b) {l:List C} {cs:Array Value} (hl:aB (bg E (AV ay s.rs E) w) l cs.toList) (t:TypeId) :
  ∃ E',iO T N ay w0 sp s a w E b (.wr (some (.c (.rt b 0 0))) [(b,.box l)]) (.pointer (some ⟨w.heap.size,0,none⟩)) (w.alloc (.cells cs t)) E':=by
 obtain ⟨E',h1,h2,h3,h4⟩:=h.make hf (dead:=none) (x:=.box l) (e:=(some w.heap.size,mr,l.length)) (w':=w.alloc (.cells cs t)) (row:=none) (World.grownBy_alloc w _ none) (λk hk=>by cases hk)
  (λk hk=>by simp at hk; omega) (λk hk=>by simp at hk ⊢; omega) (λE' cY hE eG _ hk=>⟨w.heap.size,cs,t,rfl,rfl,heap_alloc_new w _,hl.mono λ_ _ q=>bg.mono hE hk eG q⟩)
 refine ⟨E',h3,h1,λd hd=>?_⟩
 simp only [dV,ak] at hd
 subst hd
 exact ⟨w.heap.size,l.length,⟨mr,h2⟩,by simp⟩
theorem Hq (h:R T N ay w0 sp s a w E) (hn:bM s.sl) {b:Nat} (hf:lS s E b) {x:Operand} (t:TypeId) {e:cm} (ef:vI b s x=some e) :
  ∃ E',iO T N ay w0 sp s a w E b e (.pointer (some ⟨w.heap.size,0,none⟩)) (w.alloc (.cells (a.eval x).cells t)) E':=by
 unfold vI at ef
 split at ef
 case h_2=>simp at ef
 rename_i d hd
 split at ef
 case h_2=>simp at ef
 rename_i l hl
 simp only [ak] at ef
 subst ef
 exact h.JF hf (mK (h.cl hn hd) hl) t
theorem Bi (bQ:dH P T) (h:R T N ay w0 sp s a w E) {b:Nat} (hf:lS s E b) {t:TypeId} {e:cm} (ef:lu T b t=some e) :
  ∃ v w' E',(∀ o:Oper,o.op=.alloc t->(execOp a.eval o).run P w=.ok (.value v) w')/\iO T N ay w0 sp s a w E b e v w' E':=by
 unfold lu at ef
 split at ef
 case h_2=>simp at ef
 rename_i y hy
 have hy:=bQ.ty _ _ hy
 split at ef
 case h_2=>simp at ef
 rename_i l hl
 simp only [ak] at ef
 subst ef
 obtain ⟨i,hi,_,_,hz⟩:=hy.full
 obtain ⟨E',h1⟩:=h.JF hf (cs:=y.zero.cells) (kQ hl) t
 refine ⟨_,_,E',λo ho=>?_,h1⟩
 have hz0:(zeroValue t).run P w=.ok y.zero w:=by simp [zeroValue,typeInfo,hi,hz]
 simp only [execOp,ho,Instr.alloc,Sem.run_bind,hz0,Result.andThen_ok]
 rfl
theorem CC (h:R T N ay w0 sp s a w E) {b:Nat} (hf:lS s E b) {t:TypeId} {r:Option Operand} {e:cm} (ef:ld T b t r=some e) :
  r=none/\∃ E',iO T N ay w0 sp s a w E b e (.map (some w.heap.size)) (w.alloc (.map #[] 0)) E':=by
 unfold ld at ef
 split at ef
 case h_2=>simp at ef
 simp only [ak] at ef
 subst ef
 refine ⟨rfl,?_⟩
 obtain ⟨E',h1,h2,h3,h4⟩:=h.make hf (dead:=none) (x:=.set []) (e:=(some w.heap.size,mr,0)) (w':=w.alloc (.map #[] 0)) (row:=none) (World.grownBy_alloc w _ none) (λk hk=>by cases hk)
  (λk hk=>by simp at hk; omega) (λk hk=>by simp at hk ⊢; omega) (λE' cY hE eG _ hk=>⟨w.heap.size,#[],0,rfl,heap_alloc_new w _,.nil⟩)
 refine ⟨E',h3,h1,λd hd=>?_⟩
 simp only [dV,ak] at hd
 subst hd
 exact ⟨w.heap.size,0,⟨mr,h2⟩,rfl⟩
theorem EE (bQ:dH P T) (h:R T N ay w0 sp s a w E) (hn:bM s.sl) {dst:Option Tmp} {t:TypeId} {m k v:Operand} {e:cm} (ef:mB T s dst t m k v=some e) (b:Nat) :
  dst=none/\∃ w',(Instr.mapUpdate t (a.eval m) (a.eval k) (a.eval v)).run P w=.ok () w'/\iO T N ay w0 sp s a w E b e undef w' E:=by
 unfold mB at ef
 split at ef
 .simp at ef
 refine ⟨rfl,?_⟩
 obtain ⟨hk,ef⟩:=Bool.au ef
 unfold Ld at hk
 split at hk
 case h_2=>simp at hk
 rename_i nl
 have nl:=(bQ.ty _ _ nl).map rfl
 split at hk
 case h_2=>simp at hk
 rename_i AD _
 have AD:=(bQ.ty _ _ AD).int rfl
 split at ef
 case h_2=>simp at ef
 rename_i r n hm hk hv
 obtain ⟨b',sz,⟨hh,hE⟩,hm⟩:=h.cl hn (cg hm)
 have hk:=(h.cl hn (ec hk)).1
 have hv:=(h.cl hn (eW hv)).1
 split at ef
 case h_2=>simp at ef
 rename_i l hl
 rw [cd,bp] at hl
 simp only [ak] at ef
 subst ef
 obtain ⟨w',h1,h2⟩:=Mt h hl hE nl AD
 rw [hm,hk,hv]
 refine ⟨w',h1,mF.refl _ _,?_,λd hd=>by simp [dV] at hd⟩
 show R T N ay w0 sp { s with rs:=place r _ s.rs } a _ E
 rw [ic _ (List.getElem?_eq_some_iff.1 hl).1]
 exact h2
theorem R.Da (h:R T N ay w0 sp s a w E) {b:Nat} (hf:lS s E b) {el sz n:Nat} {l:List C} {w':World} {hd:Value} {xs:List Value} {row:Option Nat} {dead:Option Nat}
  (hg:w.grownBy w' row) (eE:w'.ownsRow w0.base el sz hd n xs)
  (nv:∀ k,row=some k->∃ r x q,dead=some r/\s.rs[r]?=some x/\x.live/\bq E r k q)
  (iX:∀ k,hd.ownBlock=some k->some k=row∨w.heap.size<=k)
  (hl:aB (bg E (AV ay s.rs E) w) l xs) :
  ∃ E',R T N ay w0 sp { s with rs:=place b (.row el sz n l) (kill dead s.rs) } a w' E'/\mF b E E'/\aZ E' (AV ay (place b (.row el sz n l) (kill dead s.rs)) E') w' (.c (.sa b n)) hd:=by
 obtain ⟨E',h1,h2,h3,h4⟩:=h.make hf (dead:=dead) (x:=.row el sz n l) (e:=(hd.ownBlock,nI hd,sz)) (w':=w') (row:=row) hg nv iX (λk hk=>by
   rcases eE.2 with ⟨h1,_⟩|⟨g,cap,cur,h1,h2,h3,_⟩
   .have hk:hd.ownBlock=some k:=hk
    rw [h1] at hk; simp [Value.ownBlock] at hk
   .have hk:hd.ownBlock=some k:=hk
    rw [h1] at hk
    simp only [Value.ownBlock,ak] at hk
    subst hk
    exact (Array.getElem?_eq_some_iff.1 h3).1)
  (λE' cY hE eG _ hk=>⟨rfl,rfl,xs,eE,hl.mono λ_ _ q=>bg.mono hE hk eG q⟩)
 refine ⟨E',h1,h3,?_⟩
 rcases eE.2 with ⟨q5,q6⟩|⟨g,cap,cur,q5,_⟩
 .exact ⟨_,none,0,0,h2,q5,by omega,by rw [q5,q6]⟩
 .exact ⟨_,_,n,cap,h2,q5,bG _,q5⟩
theorem R.v7 (h:R T N ay w0 sp s a w E) {b:Nat} (hf:lS s E b) {el sz n:Nat} {get:Nat->Nat->I} {w':World} {hd:Value} {xs:List Value} {row:Option Nat} {dead:Option Nat}
  (hg:w.grownBy w' row) (eE:w'.ownsRow w0.base el sz hd n xs)
  (nv:∀ k,row=some k->∃ r x q,dead=some r/\s.rs[r]?=some x/\x.live/\bq E r k q)
  (iX:∀ k,hd.ownBlock=some k->some k=row∨w.heap.size<=k)
  (hl:∀ i,i<n->∀ j,j<sz->∃ x,xs[i*sz+j]?=some x/\cX (AV ay s.rs E) w (get i j) x) :
  ∃ E',R T N ay w0 sp { s with rs:=place b (.arr el sz n get) (kill dead s.rs) } a w' E'/\mF b E E'/\aZ E' (AV ay (place b (.arr el sz n get) (kill dead s.rs)) E') w' (.c (.sa b n)) hd:=by
 obtain ⟨E',h1,h2,h3,h4⟩:=h.make hf (dead:=dead) (x:=.arr el sz n get) (e:=(hd.ownBlock,nI hd,sz)) (w':=w') (row:=row) hg nv iX (λk hk=>by
   rcases eE.2 with ⟨h1,_⟩|⟨g,cap,cur,h1,h2,h3,_⟩
   .have hk:hd.ownBlock=some k:=hk
    rw [h1] at hk; simp [Value.ownBlock] at hk
   .have hk:hd.ownBlock=some k:=hk
    rw [h1] at hk
    simp only [Value.ownBlock,ak] at hk
    subst hk
    exact (Array.getElem?_eq_some_iff.1 h3).1)
  (λE' cY hE eG _ hk=>⟨rfl,rfl,xs,eE,λi hi j hj=>by
   obtain ⟨x,q1,q2⟩:=hl i hi j hj
   exact ⟨x,q1,cX.mono hk eG q2⟩⟩)
 refine ⟨E',h1,h3,?_⟩
 rcases eE.2 with ⟨q5,q6⟩|⟨g,cap,cur,q5,_⟩
 .exact ⟨_,none,0,0,h2,q5,by omega,by rw [q5,q6]⟩
 .exact ⟨_,_,n,cap,h2,q5,bG _,q5⟩
theorem R.UE (h:R T N ay w0 sp s a w E) {b:Nat} (hf:lS s E b) {el sz n:Nat} {get:Nat->Nat->O} {et:Option (Nat×List Fc)} {w':World} {hd:Value} {xs:List Value} {row:Option Nat} {dead:Option Nat} {K:Nat->Prop} {Ks:Nat->Nat->Nat->Prop}
  (hg:w.grownBy w' row) (eE:w'.ownsRow w0.base el sz hd n xs)
  (nv:∀ k,row=some k->∃ r x q,dead=some r/\s.rs[r]?=some x/\x.live/\bq E r k q)
  (iX:∀ k,hd.ownBlock=some k->some k=row∨w.heap.size<=k)
  (hK:∀ k,K k->∃ r x q,dead=some r/\s.rs[r]?=some x/\x.live/\cU E r k q)
  (hP:Kt K hd.ownBlock Ks) (hfo:∀ x,et=some x->x.1<n/\x.2.length=sz) (yB:∀ i j b,Ks i j b->w'.heap[b]?=w.heap[b]?)
  (hl:∀ i,i<n->∀ j,j<sz->∃ x c,xs[i*sz+j]?=some x/\fS get et i j=some c/\iK E (AV ay s.rs E) w0.base w c (Ks i j) x) :
  ∃ E',R T N ay w0 sp { s with rs:=place b (.bt el sz n get et) (kill dead s.rs) } a w' E'/\mF b E E'/\aZ E' (AV ay (place b (.bt el sz n get et) (kill dead s.rs)) E') w' (.c (.sa b n)) hd:=by
 obtain ⟨E',h1,h2,h3,h4⟩:=h.make hf (dead:=dead) (x:=.bt el sz n get et) (e:=(hd.ownBlock,(hd,K),sz)) (w':=w') (row:=row) hg nv iX (λk hk=>by
   rcases eE.2 with ⟨h1,_⟩|⟨g,cap,cur,h1,h2,h3,_⟩
   .have hk:hd.ownBlock=some k:=hk
    rw [h1] at hk; simp [Value.ownBlock] at hk
   .have hk:hd.ownBlock=some k:=hk
    rw [h1] at hk
    simp only [Value.ownBlock,ak] at hk
    subst hk
    exact (Array.getElem?_eq_some_iff.1 h3).1)
  (λE' cY hE eG _ hk=>⟨rfl,rfl,xs,eE,Ks,hP,hfo,λi hi j hj=>by
   obtain ⟨x,c,q1,q2,q3⟩:=hl i hi j hj
   exact ⟨x,c,q1,q2,iK.mono hE hk eG (yB i j) q3⟩⟩) (λk q=>.inl (hK k q))
 refine ⟨E',h1,h3,?_⟩
 rcases eE.2 with ⟨q5,q6⟩|⟨g,cap,cur,q5,_⟩
 .exact ⟨_,none,0,0,h2,q5,by omega,by rw [q5,q6]⟩
 .exact ⟨_,_,n,cap,h2,q5,bG _,q5⟩
theorem sX (hn:bM s.sl) {sz:Nat}:∀ {ps:List (Nat×Operand)} {l r:List C},oU sz s.sl ps l=some r->zk sz s [] ps l=some r
 | [],l,r,e=>e
 | p::ps,l,r,e=>by
   obtain ⟨k,x⟩:=p
   have e:(match Go.V.cl s.sl x with
    | some d=>match d.cells with
      | some cs=>(Bool.rec none (match put l (k*sz) cs with
        | some l'=>oU sz s.sl ps l'
        | none=>none) (Nat.beq cs.length sz&&Nat.blt 0 sz):Option (List C))
      | none=>none
    | none=>none)=some r:=e
   split at e
   case h_2=>simp at e
   rename_i d hd
   split at e
   case h_2=>simp at e
   rename_i cs hcs
   obtain ⟨h1,e⟩:=Bool.au e
   split at e
   case h_2=>simp at e
   rename_i l' vU
   simp only [zk,dG hn hd,hcs,h1,vU]
   exact sX hn e
theorem LF (bQ:dH P T) (h:R T N ay w0 sp s a w E) (hn:bM s.sl) {b:Nat} (hf:lS s E b) {t n:Nat} {ps:Array (Nat×Operand)} {e:cm} {cD:Bool} (ef:MN T b s cD t n ps.toList=some e) :
  ∃ v w' E',(Instr.buildSlice t n (ps.map λ(i,x)=>(i,a.eval x))).run P w=.ok v w'/\iO T N ay w0 sp s a w E b e v w' E':=by
 unfold MN at ef
 split at ef
 case h_2=>simp at ef
 rename_i xj gY z0 el th
 have th:=bQ.ty _ _ th
 split at ef
 case h_2=>simp at ef
 rename_i y hy
 have hy:=bQ.ty _ _ hy
 split at ef
 case h_2=>simp at ef
 rename_i z hz
 split at ef
 case h_2=>simp at ef
 rename_i l hl
 obtain ⟨hb,ef⟩:=Bool.au ef
 simp only [ak] at ef
 subst ef
 simp only [dJ] at hb
 have fH:=aM hb.1
 have Hn:=ew hb.2
 have vZ:z.length=y.size:=by
  have:=(kQ (E:=E) (av:=AV ay s.rs E) (w:=w) hz).length
  rw [this]
  simpa using hy.zs
 obtain ⟨cs,h1,h2,h3⟩:=xW bQ h (bJ.nil a) th rfl hy hz (sX hn hl) vZ fH Hn
 have hm:n<=maxLen:=by
  have:n<=n*y.size:=Nat.le_mul_of_pos_right _ fH
  simp only [maxLen]; omega
 have eE:=World.ownsRow_lit (e:=el) (size:=y.size) (base:=w0.base) w cs n h.size_le hm (by rw [<- h3,h2.length]; simp)
 rcases jO cD b el y.size n l with hc|⟨is,hi,hc⟩|⟨tr,hc⟩
 case inr.inr=>
  rw [hc]
  subst tr
  obtain ⟨E',h4,h5,h6⟩:=h.v7 hf (dead:=none) (row:=none) (n:=0) (get:=iW) (World.grownBy_alloc w _ none) eE (λk hk=>by cases hk) (λk hk=>by simp [Value.ownBlock] at hk; right; omega) (λi hi=>by omega)
  refine ⟨_,_,E',h1,h5,h4,λd hd=>?_⟩
  simp only [dV,ak] at hd
  subst hd
  exact h6
 case inr.inl=>
  rw [hc]
  have hb:=iJ w (.cells cs el)
  refine ⟨_,_,E,h1,mF.refl _ _,h.grown hb,λd hd=>?_⟩
  simp only [dV,ak] at hd
  subst hd
  have him:=ry hi
  subst him
  have hx:=wh h2
  have hxl:=hx.length
  have hE:=(h.grown hb)
  refine ⟨_,n,rfl,bG _,hm,λh0=>⟨_,rfl,rfl,λq=>?_,by rw [World.size_alloc]; exact Nat.lt_succ_self _,λi jW j hj=>?_⟩⟩
  .have:w.heap.size<w.heap.size:=by
    rcases q with q|⟨r,x,sz,g1,g2,g3⟩
    .exact h.jU q
    .exact (h.cS r x _ sz g1 g2 g3).2
   omega
  .have dB:i*y.size+j<n*y.size:=by
    have:=fU y.size (show i+1<=n by omega)
    rw [Nat.add_mul,Nat.one_mul] at this
    omega
   obtain ⟨x,h5,h6⟩:=po hx (q:=i*y.size+j) (by rw [hxl,<- h2.length,h3]; exact dB)
   refine ⟨x,?_,cX.mono (ba.mS hb) (λ_ _ q=>q) h6⟩
   rw [Addr.add_mid,cT (heap_alloc_new w _)]
   simpa using h5
 rw [hc]
 obtain ⟨E',h4,h5,h6⟩:=h.Da hf (dead:=none) (row:=none) (n:=n) (l:=l) (World.grownBy_alloc w _ none) eE (λk hk=>by cases hk) (λk hk=>by simp [Value.ownBlock] at hk; right; omega) h2
 refine ⟨_,_,E',h1,h5,h4,λd hd=>?_⟩
 simp only [dV,ak] at hd
 subst hd
 exact h6
theorem EP (bQ:dH P T) (h:R T N ay w0 sp s a w E) (hn:bM s.sl) {b:Nat} (hf:lS s E b) {t:TypeId} {l c:Operand} {e:cm} (ef:mW T b s t l c=some e) :
  ∃ v w' E',(Instr.makeSlice t (a.eval l) (a.eval c)).run P w=.ok v w'/\iO T N ay w0 sp s a w E b e v w' E':=by
 unfold mW at ef
 split at ef
 case h_2=>simp at ef
 rename_i xj gY z0 el th
 have hu:=(bQ.ty _ _ th).slice rfl
 split at ef
 case h_2=>simp at ef
 rename_i y hy
 have hy:=bQ.ty _ _ hy
 split at ef
 case h_2=>simp at ef
 rename_i z hz
 split at ef
 case h_2=>simp at ef
 rename_i n m hl hc
 split at ef
 case h_2=>simp at ef
 rename_i is his
 obtain ⟨fH,ef⟩:=Bool.au ef
 obtain ⟨hb,ef⟩:=Bool.au ef
 obtain ⟨h1,ef⟩:=Bool.au ef
 simp only [ak] at ef
 subst ef
 simp only [dJ] at hb
 have h1:=bK h1
 subst h1
 have fH:=aM fH
 have hm:=ew hb.1
 have hby:=ew hb.2
 have hl:=(h.cl hn (ec hl)).1
 have hc:=(h.cl hn (ec hc)).1
 have hzr:=kQ (E:=E) (av:=AV ay s.rs E) (w:=w) hz
 have vZ:z.length=y.size:=by rw [hzr.length]; simpa using hy.zs
 obtain ⟨inf,hin,fo,hbytes,hzero⟩:=hy.full
 obtain ⟨w',hr,eE,hg⟩:=run_make_full w w0.base t el inf y.zero y.size hu hin hzero fo .i64 .i64 n (by rw [hbytes,Nat.mul_comm]; exact hby) hm h.size_le
 have H2:aB (bg E (AV ay s.rs E) w) (Sb z n) (madeCells y.zero.cells (n*y.size)).toList:=by
  refine aB.tS (by rw [jF,vZ]; simp [size_madeCells]) λi x v hx hv=>?_
  have hi:i<n*z.length:=by
   have:=(List.getElem?_eq_some_iff.1 hx).1
   rwa [jF] at this
  rw [wu z n i hi] at hx
  have jW:i<n*y.size:=by rw [<- vZ]; exact hi
  have hcs:y.zero.cells.size=y.size:=hy.zs
  have hmod:i%y.zero.cells.size<y.zero.cells.size:=Nat.mod_lt _ (by rw [hcs]; exact fH)
  have hv':v=y.zero.cells[i%y.zero.cells.size]'hmod:=by
   have:(madeCells y.zero.cells (n*y.size)).toList[i]?=some (y.zero.cells[i%y.zero.cells.size]!):=by
    simp [madeCells,jW]
   rw [this] at hv
   simp only [ak] at hv
   rw [<- hv,getElem!_pos y.zero.cells _ hmod]
  refine aB.get hzr hx (i:=i%z.length) ?_
  rw [hv',show i%z.length=i%y.zero.cells.size by rw [vZ,hcs]]
  simp [hmod]
 have hil:z=lift is:=ry his
 have hisl:is.length=y.size:=by rw [<- vZ,hil,l5]
 have hcells2:∀ i,i<n->∀ j,j<y.size->∃ x,(madeCells y.zero.cells (n*y.size)).toList[i*y.size+j]?=some x/\cX (AV ay s.rs E) w (iv is j) x:=by
  intro i hi j hj
  have dB:i*y.size+j<n*y.size:=by
   have:=fU y.size (show i+1<=n by omega)
   rw [Nat.add_mul,Nat.one_mul] at this
   omega
  have e1:(Sb z n)[i*y.size+j]?=some (.im (iv is j)):=by
   rw [wu z n _ (by rw [vZ]; exact dB),vZ]
   have e2:(i*y.size+j)%y.size=j:=by rw [Nat.mul_comm,Nat.mul_add_mod]; exact Nat.mod_eq_of_lt hj
   rw [e2,hil,pO (by rw [hisl]; exact hj)]
  obtain ⟨x,h7,h8⟩:=H2.nth (i:=i*y.size+j) (x:=.im (iv is j)) (by rw [bp]; exact e1)
  exact ⟨x,h7,h8⟩
 obtain ⟨E',h4,h5,h6⟩:=h.v7 hf (dead:=none) (row:=none) (n:=n) (get:=λ_=>iv is) hg eE (λk hk=>by cases hk) (λk hk=>by simp [Value.ownBlock] at hk; right; omega) hcells2
 refine ⟨.slice (some ⟨w.heap.size,0,none⟩) n n,w',E',?_,h5,h4,λd hd=>?_⟩
 .rw [hl,hc]; exact hr
 .simp only [dV,ak] at hd
  subst hd
  exact h6
theorem LR (get:Nat->Nat->I) (sz n i k:Nat) (h:k<=n):(vE get sz i n).take (k*sz)=vE get sz i k:=by
 apply List.ext_getElem?
 intro q
 rw [dx]
 split
 .rename_i hq
  have hz:0<sz:=by
   rcases Nat.eq_zero_or_pos sz with e|e
   .subst e; simp at hq
   .exact e
  have e1:q/sz*sz+q%sz=q:=by rw [Nat.mul_comm]; exact Nat.div_add_mod q sz
  have hk:q/sz<k:=Nat.div_lt_of_lt_mul (by rw [Nat.mul_comm]; exact hq)
  have hm:q%sz<sz:=Nat.mod_lt _ hz
  have h1:=ng get sz n i (q/sz) (q%sz) (by omega) hm
  have h2:=ng get sz k i (q/sz) (q%sz) hk hm
  rw [e1] at h1 h2
  rw [h1,h2]
 .rename_i hq
  rw [List.getElem?_eq_none (by rw [mT]; omega)]
theorem ss {e:fA} {el sz n:Nat} {l:List C} {base:Nat} {av:Nat->Prop} (hrr:aP E av base w e (.row el sz n l)) {ao:Option Addr} {n' cap k:Nat} (h2:e.2.1.1=.slice ao n' cap) (h3:k<=n') (Wu:k<=n) :
  ∃ ao' cap',Value.slice ao k cap=.slice ao' k cap'/\(ao'=none->k=0)/\∃ news:List Value,news.length=k*sz/\(∀ ad,ao'=some ad->∀ j u,news[j]?=some u->w.cell? (ad.add j)=some u)/\(∀ u∈news,u.oneCell'=true)/\
   aB (bg E av w) (l.take (k*sz)) news:=by
 obtain ⟨q1,q2,xs,q3,q4⟩:=hrr
 have hxl:=q3.1
 have hks:k*sz<=n*sz:=fU _ Wu
 have hxk:(xs.take (k*sz)).length=k*sz:=by rw [List.length_take]; omega
 rcases q3.2 with ⟨q5,q6⟩|⟨g,cap',cur,q5,q6,q7,q8,q9,q10,q11⟩
 .rw [h2] at q5
  simp only [dK] at q5
  obtain ⟨rfl,rfl,rfl⟩:=q5
  have:k=0:=by omega
  subst this
  exact ⟨none,0,rfl,λ_=>rfl,[],by simp,λ_ _ j u hj=>(by simp at hj),λu hu=>(by cases hu),by simp; exact .nil⟩
 .rw [h2] at q5
  simp only [dK] at q5
  obtain ⟨rfl,rfl,rfl⟩:=q5
  refine ⟨_,cap,rfl,λe=>(by simp at e),xs.take (k*sz),hxk,?_,?_,q4.take _⟩
  .intro ad he j u hj
   simp only [ak] at he
   subst he
   rw [Addr.add_mid,cT q7]
   rw [<- q11,List.take_take,dx] at hj
   split at hj
   .simpa using hj
   .simp at hj
  .exact aB.sh (q4.take _)
theorem xC (h:R T N ay w0 sp s a w E) {c:C} {vs:Value} {sz k:Nat} {l':List C} (hs:xY s.rs c=some (sz,k,l')) (hr:bg E (AV ay s.rs E) w c vs) :
  ∃ ao cap,vs=.slice ao k cap/\(ao=none->k=0)/\∃ news:List Value,news.length=k*sz/\(∀ ad,ao=some ad->∀ j u,news[j]?=some u->w.cell? (ad.add j)=some u)/\(∀ u∈news,u.oneCell'=true)/\
   aB (bg E (AV ay s.rs E) w) l' news:=by
 unfold xY at hs
 split at hs
 .rename_i cF k' get
  simp only [ak,bw] at hs
  obtain ⟨rfl,rfl,rfl⟩:=hs
  obtain ⟨ao,cap,h1,h2,news,h3,h4,h5,h6⟩:=LQ h (src:=.c (.im (.sl cF k' get))) rfl hr
  refine ⟨ao,cap,h1,h2,news,h3,h4,h5,aB.Ia (by rw [mT,h3]) λq x hx=>?_⟩
  have hq:q<k'*cF:=by have:=(List.getElem?_eq_some_iff.1 hx).1; rwa [mT] at this
  have hz:0<cF:=by
   rcases Nat.eq_zero_or_pos cF with e|e
   .subst e; simp at hq
   .exact e
  have e1:q/cF*cF+q%cF=q:=by rw [Nat.mul_comm]; exact Nat.div_add_mod q cF
  have hk:q/cF<k':=Nat.div_lt_of_lt_mul (by rw [Nat.mul_comm]; exact hq)
  have hm:q%cF<cF:=Nat.mod_lt _ hz
  obtain ⟨y,h7,h8⟩:=h6 (q/cF) hk (q%cF) hm
  have h9:=ng get cF k' 0 (q/cF) (q%cF) hk hm
  rw [e1] at h7 h9
  rw [hx] at h9
  simp only [Nat.zero_add,ak] at h9
  subst h9
  exact ⟨y,h7,h8⟩
 .obtain ⟨rfl,_⟩:=hr
  simp only [ak,bw] at hs
  obtain ⟨rfl,rfl,rfl⟩:=hs
  exact ⟨none,0,rfl,λ_=>rfl,[],rfl,λ_ q=>(by cases q),λ_ q=>(by cases q),.nil⟩
 .rename_i q k'
  split at hs
  case h_3=>simp at hs
  .rename_i el cF n l hl
   rw [cd,bp] at hl
   obtain ⟨Wu,hs⟩:=Bool.au hs
   split at hs
   case h_2=>simp at hs
   rename_i l2 hl2
   obtain ⟨rfl,hlen⟩:=mE _ _ _ hl2
   simp only [ak,bw] at hs
   obtain ⟨rfl,rfl,rfl⟩:=hs
   obtain ⟨e,ao,n',cap,h1,h2,h3,rfl⟩:=hr
   exact ss (h.roots q _ _ hl h1) h2 h3 (ew Wu)
  .rename_i el cF n get hl
   rw [cd,bp] at hl
   obtain ⟨Wu,hs⟩:=Bool.au hs
   simp only [ak,bw] at hs
   obtain ⟨rfl,rfl,rfl⟩:=hs
   obtain ⟨e,ao,n',cap,h1,h2,h3,rfl⟩:=hr
   have:=ss (Vz (h.roots q _ _ hl h1)) h2 h3 (ew Wu)
   rwa [LR _ _ _ _ _ (ew Wu)] at this
 .simp at hs
theorem Im (h:R T N ay w0 sp s a w E) {c:C} {vs:Value} {sz k:Nat} {get:Nat->Nat->I} (hs:se sz s.rs c=some (k,get)) (hr:bg E (AV ay s.rs E) w c vs) :
  ∃ ao cap,vs=.slice ao k cap/\(ao=none->k=0)/\∃ news:List Value,news.length=k*sz/\(∀ ad,ao=some ad->∀ j u,news[j]?=some u->w.cell? (ad.add j)=some u)/\(∀ u∈news,u.oneCell'=true)/\
   (∀ i,i<k->∀ j,j<sz->∃ x,news[i*sz+j]?=some x/\cX (AV ay s.rs E) w (get i j) x):=by
 have fin:∀ {l':List C},xY s.rs c=some (sz,k,l')->(∀ i,i<k->∀ j,j<sz->l'[i*sz+j]?=some (.im (get i j)))->∃ ao cap,vs=.slice ao k cap/\(ao=none->k=0)/\∃ news:List Value,news.length=k*sz/\(∀ ad,ao=some ad->∀ j u,news[j]?=some u->w.cell? (ad.add j)=some u)/\(∀ u∈news,u.oneCell'=true)/\
   (∀ i,i<k->∀ j,j<sz->∃ x,news[i*sz+j]?=some x/\cX (AV ay s.rs E) w (get i j) x):=by
  intro l' h1 h2
  obtain ⟨ao,cap,q1,q2,news,q3,q4,q5,q6⟩:=xC h h1 hr
  refine ⟨ao,cap,q1,q2,news,q3,q4,q5,λi hi j hj=>?_⟩
  obtain ⟨x,q7,q8⟩:=q6.nth (i:=i*sz+j) (x:=.im (get i j)) (by rw [bp]; exact h2 i hi j hj)
  exact ⟨x,q7,q8⟩
 have my:∀ (n:Nat) (g:Nat->Nat->I),∀ i,i<n->∀ j,j<sz->(vE g sz 0 n)[i*sz+j]?=some (.im (g i j)):=λn g i hi j hj=>by
  have:=ng g sz n 0 i j hi hj
  rwa [Nat.zero_add] at this
 unfold se at hs
 split at hs
 .rename_i cF k' get'
  replace hs:=Bool.au hs
  obtain ⟨h1,h2⟩:=hs
  have h1:=bK h1
  subst h1
  simp only [ak,bw] at h2
  obtain ⟨rfl,rfl⟩:=h2
  exact fin (l':=vE get' cF 0 k') rfl (my _ _)
 .obtain ⟨rfl,_⟩:=hr
  simp only [ak,bw] at hs
  obtain ⟨rfl,rfl⟩:=hs
  exact ⟨none,0,rfl,λ_=>rfl,[],by simp,λ_ q=>(by cases q),λ_ q=>(by cases q),λi hi=>by omega⟩
 .rename_i q k'
  split at hs
  case h_3=>simp at hs
  .rename_i el cF n l hl
   obtain ⟨h1,hs⟩:=Bool.au hs
   simp only [dJ] at h1
   have h2:=bK h1.2
   subst h2
   split at hs
   case h_2=>simp at hs
   rename_i l2 hl2
   split at hs
   case h_2=>simp at hs
   rename_i is his
   simp only [ak,bw] at hs
   obtain ⟨rfl,rfl⟩:=hs
   refine fin (l':=l2) (by simp only [xY,hl,h1.1,hl2]) λi hi j hj=>?_
   have him:=ry his
   obtain ⟨rfl,hlen⟩:=mE _ _ _ hl2
   have dB:i*cF+j<k'*cF:=by
    have:=fU cF (show i+1<=k' by omega)
    rw [Nat.add_mul,Nat.one_mul] at this
    omega
   have hil:is.length=k'*cF:=by rw [<- l5,<- him,List.length_take]; omega
   rw [him]
   exact pO (by rw [hil]; exact dB)
  .rename_i el cF n get' hl
   replace hs:=Bool.au hs
   obtain ⟨h1,h3⟩:=hs
   have h1:=bK h1
   subst h1
   obtain ⟨h2,h4⟩:=Bool.au h3
   simp only [ak,bw] at h4
   obtain ⟨rfl,rfl⟩:=h4
   exact fin (l':=vE get' cF 0 k') (by simp only [xY,hl,h2]) (my _ _)
 .simp at hs
theorem xB {t el:TypeId} {y0 y:Ty} (th:cz P t y0) (hk:y0.kd=.slice el) (hy:cz P el y) (ao:Option Addr) (cap:Nat) (ty:TypeId) :
  (Builtin.append_ #[t,t] ty #[.slice none 0 0,.slice ao 0 cap]).run P w=.ok (.slice none 0 0) w:=by
 obtain ⟨i,hi,_⟩:=hy.full
 cases ao<;>simp [Builtin.append_,run_underlying (th.slice hk),sizeOf,typeInfo,hi,Builtin.lenOf,Builtin.firstCells,loadCells,loadCellsFrom]
theorem z6 (h:R T N ay w0 sp s a w E) {b:Nat} (hf:lS s E b) {t el:TypeId} {y0 y:Ty} (th:cz P t y0) (hk:y0.kd=.slice el) (hy:cz P el y) (fH:0<y.size)
  {k:Nat} {l':List C} {c:C} {v:Value} (hc:bg E (AV ay s.rs E) w c v) {ao:Option Addr} {cap:Nat} (sg:ao=none->k=0) {news:List Value} (hl:news.length=k*y.size)
  (hcell:∀ ad,ao=some ad->∀ j u,news[j]?=some u->w.cell? (ad.add j)=some u) (h1:∀ u∈news,u.oneCell'=true) (hrel:aB (bg E (AV ay s.rs E) w) l' news)
  {e:cm} (ef:Eb el y.size k l' y.bytes b s.rs c=some e) (ty:TypeId) :
  ∃ v' w' E',(Builtin.append_ #[t,t] ty #[v,.slice ao k cap]).run P w=.ok v' w'/\iO T N ay w0 sp s a w E b e v' w' E':=by
 unfold Eb at ef
 split at ef
 .obtain ⟨rfl,_⟩:=hc
  split at ef
  .simp only [ak] at ef
   subst ef
   refine ⟨_,w,E,xB th hk hy ao cap ty,mF.refl _ _,h,λd hd=>?_⟩
   simp only [dV,ak] at hd
   subst hd
   exact ⟨rfl,rfl⟩
  .obtain ⟨hroom,ef⟩:=Bool.au ef
   simp only [ak] at ef
   subst ef
   rename_i k
   simp only [b5,dJ] at hroom
   have hroom:room (k+1) y.bytes:=⟨ew hroom.1,ew hroom.2⟩
   obtain ⟨v',w',q1,q2,q3,q4⟩:=fV th hk hy fH (w.ownsRow_nil w0.base el y.size) h.size_le sg hl hcell h1 (by simpa using hroom) ty
   simp only [Nat.zero_add,List.nil_append] at q2
   obtain ⟨E',h4,h5,h6⟩:=h.Da hf (dead:=none) (row:=none) (n:=k+1) (l:=l') q3 q2 (λk hk=>by cases hk) (λk hk=>by
    rcases q4 k hk with q5|q5
    .simp [Value.ownBlock] at q5
    .exact .inr q5) hrel
   refine ⟨v',w',E',q1,h5,h4,λd hd=>?_⟩
   simp only [dV,ak] at hd
   subst hd
   exact h6
 .rename_i r m
  split at ef
  case h_3=>simp at ef
  .rename_i pF cF n l hlr
   rw [cd,bp] at hlr
   obtain ⟨he,ef⟩:=Bool.au ef
   obtain ⟨hroom,ef⟩:=Bool.au ef
   simp only [ak] at ef
   subst ef
   simp only [dJ] at he hroom
   have he1:=bK he.1
   have SZ:=bK he.2
   subst he1 SZ
   have hmn:=bK hroom.1
   subst hmn
   have hroom:=hroom.2
   simp only [b5,dJ] at hroom
   have hroom:room (m+k) y.bytes:=⟨ew hroom.1,ew hroom.2⟩
   obtain ⟨e',a',n',cap',h2,h3,h4,rfl⟩:=hc
   obtain ⟨q1,q2,xs,q3,q4⟩:=h.roots r _ _ hlr h2
   have za:n'=m:=by
    rcases q3.2 with ⟨q5,q6⟩|⟨g,cap2,cur,q5,_⟩
    .rw [h3] at q5; simp only [dK] at q5; omega
    .rw [h3] at q5; simp only [dK] at q5; omega
   subst za
   rw [<- h3]
   obtain ⟨v',w',p1,p2,p3,p4⟩:=fV th hk hy fH q3 h.size_le sg hl hcell h1 hroom ty
   have ji:∀ b,e'.2.1.1.ownBlock=some b->bq E r b e'.2.2:=by
    intro b hb
    obtain ⟨e1,e2,e3⟩:=e'
    have q2:e1=e2.1.ownBlock:=q2
    have hb:e2.1.ownBlock=some b:=hb
    rw [hb] at q2
    subst q2
    exact ⟨e2,h2⟩
   obtain ⟨E',h5,h6,h7⟩:=h.Da hf (dead:=some r) (row:=e'.2.1.1.ownBlock) (n:=n'+k) (l:=l++l') p3 p2 (λb hb=>⟨r,_,_,rfl,hlr,trivial,ji b hb⟩) (λb hb=>p4 b hb) (q4.append hrel)
   have hkill:kill (some r) s.rs=setAt s.rs r .dead:=by rw [aT]; rfl
   rw [hkill] at h5 h7
   refine ⟨v',w',E',p1,h6,h5,λd hd=>?_⟩
   simp only [dV,ak] at hd
   subst hd
   exact h7
  .rename_i pF cF n get hlr
   rw [cd,bp] at hlr
   split at ef
   case h_2=>simp at ef
   obtain ⟨he,ef⟩:=Bool.au ef
   obtain ⟨hroom,ef⟩:=Bool.au ef
   simp only [ak] at ef
   subst ef
   simp only [dJ] at he hroom
   have he1:=bK he.1
   have SZ:=bK he.2
   subst he1 SZ
   have hmn:=bK hroom.1
   subst hmn
   have hroom:=hroom.2
   simp only [b5,dJ] at hroom
   have hroom:room (m+1) y.bytes:=⟨ew hroom.1,ew hroom.2⟩
   obtain ⟨e',a',n',cap',h2,h3,h4,rfl⟩:=hc
   obtain ⟨q1,q2,xs,q3,Ks,hK,hfo,q4⟩:=h.roots r _ _ hlr h2
   have za:n'=m:=by
    rcases q3.2 with ⟨q5,q6⟩|⟨g,cap2,cur,q5,_⟩
    .rw [h3] at q5; simp only [dK] at q5; omega
    .rw [h3] at q5; simp only [dK] at q5; omega
   subst za
   rw [<- h3]
   obtain ⟨v',w',p1,p2,p3,p4⟩:=fV th hk hy fH q3 h.size_le sg hl hcell h1 hroom ty
   have ji:∀ b,e'.2.1.1.ownBlock=some b->bq E r b e'.2.2:=by
    intro b hb
    obtain ⟨e1,e2,e3⟩:=e'
    have q2:e1=e2.1.ownBlock:=q2
    have hb:e2.1.ownBlock=some b:=hb
    rw [hb] at q2
    subst q2
    exact ⟨e2,h2⟩
   have hKo:∀ k,e'.2.1.2 k->cU E r k e'.2.2:=λk hk=>⟨e',h2,rfl,.inr hk⟩
   have hxl:=q3.1
   have hl1:l'.length=y.size:=by rw [hrel.length,hl]; omega
   obtain ⟨E',h5,h6,h7⟩:=h.UE hf (dead:=some r) (row:=e'.2.1.1.ownBlock) (n:=n'+1) (get:=get) (et:=some (n',l'.map Fc.c)) (K:=e'.2.1.2) (Ks:=Ks) p3 p2 (λb hb=>⟨r,_,_,rfl,hlr,trivial,ji b hb⟩) (λb hb=>p4 b hb)
    (λk hk=>⟨r,_,_,rfl,hlr,trivial,hKo k hk⟩)
    ⟨hK.sub,λi j b hb e=>by
     rcases p4 b e with p5|p5
     .exact hK.ne i j b hb p5.symm
     .have:=(h.cS r _ b _ hlr trivial (hKo b (hK.sub i j b hb))).2
      omega,hK.inj⟩
    (λx hx=>by simp only [ak] at hx; subst hx; exact ⟨Nat.lt_succ_self _,by simpa using hl1⟩)
    (λi j b hb=>p3.block b (h.cS r _ b _ hlr trivial (hKo b (hK.sub i j b hb))).2 λe=>hK.ne i j b hb e.symm)
    (λi hi j hj=>by
     unfold fS
     cases hb:Nat.beq i n' with
     | true=>
       have jW:=Nat.eq_of_beq_eq_true hb
       subst jW
       simp only [bp]
       have hjl:j<l'.length:=by omega
       have hx:=eK hjl
       obtain ⟨u,g1,g2⟩:=hrel.nth (i:=j) (x:=l'[j]) (by rw [bp]; exact hx)
       exact ⟨u,.c l'[j],by rw [gm (by omega),hxl,Nat.add_sub_cancel_left]; exact g1,by simp only [dq,List.getElem?_map,hx]; rfl,g2⟩
     | false=>
       have oZ:i≠n':=λe=>by rw [e,dq] at hb; cases hb
       obtain ⟨u,c,g1,g2,g3⟩:=q4 i (by omega) j hj
       have dB:i*y.size+j<xs.length:=(List.getElem?_eq_some_iff.1 g1).1
       exact ⟨u,c,by rw [dv dB]; exact g1,by simp only [hb]; exact g2,g3⟩)
   have hkill:kill (some r) s.rs=setAt s.rs r .dead:=by rw [aT]; rfl
   rw [hkill] at h5 h7
   refine ⟨v',w',E',p1,h6,h5,λd hd=>?_⟩
   simp only [dV,ak] at hd
   subst hd
   exact h7
 .simp at ef
theorem I2 (h:R T N ay w0 sp s a w E) {b:Nat} (hf:lS s E b) {t el:TypeId} {y0 y:Ty} (th:cz P t y0) (hk:y0.kd=.slice el) (hy:cz P el y) (fH:0<y.size)
  {k:Nat} {get':Nat->Nat->I} {c:C} {v:Value} (hc:bg E (AV ay s.rs E) w c v) {ao:Option Addr} {cap:Nat} (sg:ao=none->k=0) {news:List Value} (hl:news.length=k*y.size)
  (hcell:∀ ad,ao=some ad->∀ j u,news[j]?=some u->w.cell? (ad.add j)=some u) (h1:∀ u∈news,u.oneCell'=true) (hrel:∀ i,i<k->∀ j,j<y.size->∃ x,news[i*y.size+j]?=some x/\cX (AV ay s.rs E) w (get' i j) x)
  {e:cm} (ef:qV el y.size k get' y.bytes b s.rs c=some e) (ty:TypeId) :
  ∃ v' w' E',(Builtin.append_ #[t,t] ty #[v,.slice ao k cap]).run P w=.ok v' w'/\iO T N ay w0 sp s a w E b e v' w' E':=by
 unfold qV at ef
 split at ef
 .obtain ⟨rfl,_⟩:=hc
  obtain ⟨hroom,ef⟩:=Bool.au ef
  simp only [ak] at ef
  subst ef
  simp only [b5,dJ] at hroom
  have hroom:room k y.bytes:=⟨ew hroom.1,ew hroom.2⟩
  obtain ⟨v',w',q1,q2,q3,q4⟩:=fV th hk hy fH (w.ownsRow_nil w0.base el y.size) h.size_le sg hl hcell h1 (by simpa using hroom) ty
  simp only [Nat.zero_add,List.nil_append] at q2
  obtain ⟨E',h4,h5,h6⟩:=h.v7 hf (dead:=none) (row:=none) (n:=k) (get:=get') q3 q2 (λk hk=>by cases hk) (λk hk=>by
   rcases q4 k hk with q5|q5
   .simp [Value.ownBlock] at q5
   .exact .inr q5) hrel
  refine ⟨v',w',E',q1,h5,h4,λd hd=>?_⟩
  simp only [dV,ak] at hd
  subst hd
  exact h6
 .rename_i r m
  split at ef
  case h_2=>simp at ef
  rename_i pF cF n get hlr
  rw [cd,bp] at hlr
  obtain ⟨he,ef⟩:=Bool.au ef
  obtain ⟨hroom,ef⟩:=Bool.au ef
  obtain ⟨hmn,ef⟩:=Bool.au ef
  simp only [ak] at ef
  subst ef
  simp only [dJ] at he
  have he1:=bK he.1
  have SZ:=bK he.2
  subst he1 SZ
  have hmn:=bK hmn
  subst hmn
  simp only [b5,dJ] at hroom
  have hroom:room (m+k) y.bytes:=⟨ew hroom.1,ew hroom.2⟩
  obtain ⟨e',a',n',cap',h2,h3,h4,rfl⟩:=hc
  obtain ⟨q1,q2,xs,q3,q4⟩:=h.roots r _ _ hlr h2
  have za:n'=m:=by
   rcases q3.2 with ⟨q5,q6⟩|⟨g,cap2,cur,q5,_⟩
   .rw [h3] at q5; simp only [dK] at q5; omega
   .rw [h3] at q5; simp only [dK] at q5; omega
  subst za
  rw [<- h3]
  obtain ⟨v',w',p1,p2,p3,p4⟩:=fV th hk hy fH q3 h.size_le sg hl hcell h1 hroom ty
  have ji:∀ b,e'.2.1.1.ownBlock=some b->bq E r b e'.2.2:=by
   intro b hb
   obtain ⟨e1,e2,e3⟩:=e'
   have q2:e1=e2.1.ownBlock:=q2
   have hb:e2.1.ownBlock=some b:=hb
   rw [hb] at q2
   subst q2
   exact ⟨e2,h2⟩
  obtain ⟨E',h5,h6,h7⟩:=h.v7 hf (dead:=some r) (row:=e'.2.1.1.ownBlock) (n:=n'+k) (get:=gA n' get get') p3 p2 (λb hb=>⟨r,_,_,rfl,hlr,trivial,ji b hb⟩) (λb hb=>p4 b hb) (λi hi j hj=>by
   have hxl:=q3.1
   rw [TB]
   unfold app
   by_cases hin:i<n'
   .obtain ⟨x,g1,g2⟩:=q4 i hin j hj
    refine ⟨x,?_,by rw [if_pos hin]; exact g2⟩
    rw [dv (List.getElem?_eq_some_iff.1 g1).1]
    exact g1
   .obtain ⟨x,g1,g2⟩:=hrel (i-n') (by omega) j hj
    refine ⟨x,?_,by rw [if_neg hin]; exact g2⟩
    have e1:i*y.size+j=n'*y.size+((i-n')*y.size+j):=by
     have:i*y.size=n'*y.size+(i-n')*y.size:=by rw [<- Nat.add_mul]; congr 1; omega
     omega
    rw [gm (by rw [hxl,e1]; omega),hxl,e1,Nat.add_sub_cancel_left]
    exact g1)
  have hkill:kill (some r) s.rs=setAt s.rs r .dead:=by rw [aT]; rfl
  rw [hkill] at h5 h7
  refine ⟨v',w',E',p1,h6,h5,λd hd=>?_⟩
  simp only [dV,ak] at hd
  subst hd
  exact h7
 .simp at ef
theorem Jl (bQ:dH P T) (h:R T N ay w0 sp s a w E) (hn:bM s.sl) {b:Nat} (hf:lS s E b) {ts:List TypeId} {xs:List Operand} {e:cm} (ef:oR T b s ts xs=some e) (ty:TypeId) :
  (∃ l,e=.cD l)∨∃ v' w' E',(Builtin.append_ ts.toArray ty (xs.map a.eval).toArray).run P w=.ok v' w'/\iO T N ay w0 sp s a w E b e v' w' E':=by
 unfold oR at ef
 split at ef
 case h_2=>simp at ef
 rename_i t t' x y'
 replace ef:=Bool.au ef
 obtain ⟨ht,ef⟩:=ef
 have ht:=bK ht
 subst ht
 split at ef
 case h_2=>simp at ef
 rename_i xj gY z0 el th
 have th:=bQ.ty _ _ th
 split at ef
 .rename_i e' he'
  subst ef
  unfold pX at he'
  split at he'
  case h_2=>simp at he'
  rename_i c src hc hsrc
  split at he'
  case h_2=>simp at he'
  split at he'
  case h_2=>simp at he'
  rename_i y hy
  have hy:=bQ.ty _ _ hy
  simp only [ak] at he'
  unfold DA at he'
  have hc:=h.cl hn (cg hc)
  have hsrc:=h.cl hn (cg hsrc)
  split at he'
  .rename_i k get' hs
   obtain ⟨fH,he'⟩:=Bool.au he'
   obtain ⟨ao,cap,hv2,sg,news,hl,hcell,h1,hrel⟩:=Im h hs hsrc
   simp only [List.map_cons,List.map_nil]
   rw [hv2]
   exact .inr (I2 h hf th rfl hy (aM fH) hc sg hl hcell h1 hrel he' ty)
  .unfold oP at he'
   split at he'
   .simp only [ak] at he'
    exact .inl ⟨_,he'.symm⟩
   .simp at he'
 refine .inr ?_
 unfold oW at ef
 split at ef
 case h_2=>simp at ef
 rename_i y hy
 have hy:=bQ.ty _ _ hy
 split at ef
 case h_2=>simp at ef
 rename_i src hsrc
 have hsrc:=h.cl hn (cg hsrc)
 split at ef
 case h_2=>simp at ef
 rename_i sz k l' hs
 obtain ⟨ao,cap,hv2,sg,news,hl,hcell,h1,hrel⟩:=xC h hs hsrc
 split at ef
 case h_2=>simp at ef
 rename_i c hc
 have hc:=h.cl hn (cg hc)
 simp only [List.map_cons,List.map_nil]
 rw [hv2]
 split at ef
 .
  have hnews:news=[]:=List.eq_nil_of_length_eq_zero (by simpa using hl)
  subst hnews
  replace ef:=Bool.au ef
  obtain ⟨fH,ef⟩:=ef
  exact z6 h hf th rfl hy (aM fH) hc sg (by simp) (λ_ _ j u hj=>by simp at hj) (λu hu=>by cases hu) .nil ef ty
 .replace ef:=Bool.au ef
  obtain ⟨fo,ef⟩:=ef
  simp only [dJ] at fo
  have hsz1:=bK fo.1
  subst hsz1
  exact z6 h hf th rfl hy (aM fo.2) hc sg hl hcell h1 hrel ef ty
end
noncomputable section
def oi (acc:List Nat) (l:List Edge):Nat->Nat:=List.rec (λm=>m) (λe _ ih m=>Bool.rec (ih m) (ih (Nat.lor (Nat.lor (Nat.shiftLeft 1 e.on) m) (match aV acc e.on with
 | some x=>x
 | none=>0))) (Region.binds .any e)) l
def jm (l:List Oper):List Nat->List Nat:=List.rec (λacc=>acc) (λo _ ih acc=>ih (acc++[oi acc o.after.toList 0])) l
def pc (t:Tmp) (l:List Oper):Nat->Option Nat:=List.rec (λ_=>none) (λo _ ih k=>match o.dst with
 | some t'=>Bool.rec (ih (k+1)) (some k) (Nat.beq t t')
 | none=>ih (k+1)) l
def KU (ops:List Oper) (m:Nat) (t:Tmp):Bool:=match pc t ops 0 with
 | some j=>Nat.testBit m j
 | none=>true
def tb (ops:List Oper) (m:Nat) (l:List Operand):Bool:=List.rec true (λx _ ih=>match x with
 | .tmp t=>Bool.rec false ih (KU ops m t)
 | _=>ih) l
def CQ (m:Nat) (g:Option (Nat×Bool)):Bool:=match g with
 | some (j,_)=>Nat.testBit m j
 | none=>true
def G5 (ops l:List Oper):List Nat->Bool:=List.rec (λ_=>true) (λo _ ih ms=>match ms with
 | m::ms=>Bool.rec false (ih ms) (CQ m o.guard&&tb ops m o.op.operands.toList)
 | []=>false) l
def I8 (t:Tmp) (l:List Oper):Bool:=match pc t l 0 with
 | some _=>false
 | none=>true
def Ff (l:List Oper):Bool:=List.rec true (λo l ih=>match o.dst with
 | some t=>Bool.rec false ih (I8 t l)
 | none=>ih) l
def C3 (l:List Nat):Nat->Bool:=List.rec (λ_=>true) (λm _ ih i=>Bool.rec false (ih (i+1)) (Nat.blt m (Nat.shiftLeft 1 i))) l
def si (ops:List Oper):Bool:=Ff ops&&(G5 ops ops (jm ops [])&&C3 (jm ops []) 0)
def DQ (c:Callee):Nat:=match c with
 | .builtin .append=>1
 | .value _=>1
 | _=>0
def eu (op:Op):Nat:=match op with
 | .box _ _=>1
 | .alloc _=>1
 | .buildSlice _ _ _=>1
 | .makeMap _ _=>1
 | .makeSlice _ _ _=>1
 | .call c=>DQ c.callee
 | _=>0
def dO (l:List Oper):Nat:=List.rec 0 (λo _ ih=>eu o.op+ih) l
structure kR where
 dst:Option Tmp
 val:Option D
 ws:List (Nat×ag)
 al:Option (List ag)
 ex:Bool:=false
def zU (s:VS) (dst:Option Tmp) (d:Option D):VS:=match dst with
 | some t=>match d with
   | some d=>{ s with sl:=(t,d,[])::s.sl }
   | none=>s
 | none=>s
def DI (al:Option (List ag)) (rs:List ag):List ag:=match al with
 | some aJ=>aJ
 | none=>rs
def kR.on (u:kR) (s:VS):VS:=zU { s with rs:=writes u.ws (DI u.al s.rs) } u.dst u.val
def Ec (N:Nat) (dst:Option Tmp) (d:Option D):Bool:=match dst with
 | some t=>match d with
   | some _=>Nat.blt t N
   | none=>false
 | none=>true
inductive Pr where
 | cD (l:List Nat)
 | ok (u:kR)
def P0 (i m:Nat) (cr:List Nat):Nat->Bool:=List.rec (λ_=>true) (λx _ ih k=>Bool.rec false (ih (k+1)) (Nat.beq k i||(Nat.testBit m k||Nat.testBit x i))) cr
def Gd (cr:List Nat) (i:Nat):Bool:=match aV cr i with
 | some m=>P0 i m cr 0
 | none=>false
def eqV (x y:Value):Bool:=match x,y with
 | .int .i64 a,.int .i64 b=>a==b
 | .bool a,.bool b=>MG a b
 | _,_=>false
def Rc (x y:C):Bool:=match x,y with
 | .im (.v a),.im (.v b)=>eqV a b
 | .rt r i j,.rt r' i' j'=>Nat.beq r r'&&(Nat.beq i i'&&Nat.beq j j')
 | .sa r m,.sa r' m'=>Nat.beq r r'&&Nat.beq m m'
 | .mp r,.mp r'=>Nat.beq r r'
 | _,_=>false
def ZV (l:List C):List C->Bool:=List.rec (λm=>match m with
 | []=>true
 | _=>false) (λx _ ih m=>match m with
 | y::m=>Bool.rec false (ih m) (Rc x y)
 | []=>false) l
def NJ (x y:ag):Bool:=match x,y with
 | .dead,.dead=>true
 | .box l,.box m=>ZV l m
 | _,_=>false
def xF (n:Nat) (l:List Nat):Bool:=List.rec true (λr _ ih=>Bool.rec false ih (Nat.blt r n)) l
def vK (n:Nat) (x:C):Bool:=match x with
 | .im _=>true
 | .rt r _ _=>Nat.blt r n
 | .sa r _=>Nat.blt r n
 | .mp r=>Nat.blt r n
 | .yl r=>Nat.blt r n
 | .ow r _=>Nat.blt r n
 | .dM _ l=>xF n l
def iH (n:Nat) (l:List C):Bool:=List.rec true (λx _ ih=>Bool.rec false ih (vK n x)) l
def yH (n:Nat) (x:Fc):Bool:=match x with
 | .c x=>vK n x
 | .o _=>true
def vv (n:Nat) (l:List Fc):Bool:=List.rec true (λx _ ih=>Bool.rec false ih (yH n x)) l
def ib (n:Nat) (x:ag):Bool:=match x with
 | .dead=>true
 | .box l=>iH n l
 | .row _ _ _ l=>iH n l
 | .arr _ _ _ _=>true
 | .bt _ _ _ _ none=>true
 | .own _=>true
 | .bt _ _ _ _ (some x)=>vv n x.2
 | .set _=>true
 | .kA=>true
 | _=>false
def Bx (n:Nat) (l:List (Bool×List C)):Bool:=List.rec true (λx _ ih=>Bool.rec false ih (iH n x.2)) l
def jz (n:Nat) (d:D):Bool:=match d with
 | .c x=>vK n x
 | .a l=>iH n l
 | .t l=>Bx n l
def yE (n:Nat) (rs:List ag):List ag->Nat->Option (List (Nat×ag)):=List.rec (λ_ _=>some []) (λx _ ih aJ k=>match aJ with
 | y::aJ=>Bool.rec (Bool.rec none (match ih aJ (k+1) with
   | some ws=>some ((k,y)::ws)
   | none=>none) (ib n y)) (ih aJ (k+1)) (NJ x y)
 | []=>none) rs
def Ml (lo:Lo) (dst:Option Tmp) (d:D) (rs aJ:List ag):Option Pr:=match lo.diff rs aJ with
 | some ws=>Bool.rec none (some (.ok ⟨dst,some d,ws,none,true⟩)) (jz rs.length d)
 | none=>none
def rX (lo:Lo) (rs:List ag) (cr:List Nat) (i:Nat) (dst:Option Tmp) (e:Option cm):Option Pr:=match e with
 | some (.val d)=>some (.ok ⟨dst,some d,[],none,false⟩)
 | some (.wr d ws)=>some (.ok ⟨dst,d,ws,none,false⟩)
 | some (.cD l)=>some (.cD l)
 | some (.all d aJ)=>Bool.rec (Ml lo dst d rs aJ) (some (.ok ⟨dst,some d,[],some aJ,false⟩)) (Gd cr i)
 | none=>none
def kP (T:dL) (lo:Lo) (hi:Hint) (cr:List Nat) (i b:Nat) (ops:List Oper) (s:VS) (o:Oper):Option Pr:=match mY ops s.sl o.guard with
 | some true=>rX lo s.rs cr i o.dst (fO T lo hi b s o.dst o.op)
 | some false=>some (.ok ⟨o.dst,some (.t []),[],none,false⟩)
 | none=>none
inductive Dc where
 | cD (l:List Nat)
 | ok (W:List (Nat×List Nat)) (s:VS)
def ES (k:Nat) (u:kR) (W:List (Nat×List Nat)):List (Nat×List Nat):=match u.ws with
 | []=>W
 | ws=>W++[(k,ws.map (·.1))]
def mn (T:dL) (lo:Lo) (hi:Hint) (N:Nat) (cr:List Nat) (ops l:List Oper):Nat->Nat->List (Nat×List Nat)->VS->Option Dc:=List.rec (λ_ _ W s=>some (.ok W s)) (λo _ ih k b W s=>
 match kP T lo hi cr k b ops s o with
 | some (.ok u)=>Bool.rec none (ih (k+1) (b+eu o.op) (ES k u W) (u.on s)) (Ec N u.dst u.val)
 | some (.cD c)=>some (.cD c)
 | none=>none) l
def eC (cr:List Nat) (i m:Nat) (W:List (Nat×List Nat)):List Nat:=List.rec [] (λw _ ih=>
 Bool.rec (w.2++ih) ih (Nat.beq w.1 i||(Nat.testBit m w.1||(match aV cr w.1 with
  | some x=>Nat.testBit x i
  | none=>false)))) W
def xq (l:List Nat) (rs:List ag):List ag:=List.rec (λrs=>rs) (λq _ ih rs=>ih (setAt rs q .dead)) l rs
def pg (n:Nat) (l:List Nat):Bool:=List.rec false (λx _ ih=>Bool.rec ih true (Nat.beq x n)) l
def nF (l m:List Nat):Bool:=List.rec true (λx _ ih=>Bool.rec ih false (pg x m)) l
def nn (k:Nat) (W:List (Nat×List Nat)):List Nat:=match findF k W with
 | some l=>l
 | none=>[]
def Cd (l m:List Nat):Bool:=List.rec true (λx _ ih=>Bool.rec false ih (pg x m)) l
def UP (l:List Nat) (s:VS):VS:=match l with
 | []=>s
 | _=>{ s with rs:=xq l s.rs }
def Sz (ex:Bool) (l:List Nat):Bool:=match ex with
 | false=>true
 | true=>match l with
   | []=>true
   | _=>false
def kB (T:dL) (lo:Lo) (hi:Hint) (N:Nat) (ops:List Oper) (cr:List Nat) (W:List (Nat×List Nat)) (l:List Oper):List Nat->Nat->Nat->VS->Option VS:=List.rec (λ_ _ _ s=>some s) (λo _ ih ms i b s=>
 match ms with
 | m::ms=>match kP T lo hi cr i b ops (UP (eC cr i m W) s) o with
   | some (.ok u)=>Bool.rec none (ih ms (i+1) (b+eu o.op) (u.on s)) (Ec N u.dst u.val&&(Cd (u.ws.map (·.1)) (nn i W)&&(nF (u.ws.map (·.1)) (eC cr i m W)&&Sz u.ex (eC cr i m W))))
   | _=>none
 | []=>none) l
def fP (ops:List Oper) (s:VS):VS:={ s with rs:=s.rs++List.replicate (dO ops) .dead }
def Am (T:dL) (lo:Lo) (hi:Hint) (N:Nat) (ops:List Oper) (s0 s':VS) (b:Nat) (W:List (Nat×List Nat)):Option VS:=match W with
 | []=>some s'
 | _=>kB T lo hi N ops (jm ops []) W ops (jm ops []) 0 b s0
def yP (T:dL) (lo:Lo) (hi:Hint) (N:Nat) (ops:List Oper) (n:Nat):VS->Option VS:=Nat.rec (λ_=>none) (λ_ ih s=>
 match mn T lo hi N (jm ops []) ops ops 0 s.rs.length [] (fP ops s) with
 | some (.cD l)=>match gK l s with
   | some s'=>ih s'
   | none=>none
 | some (.ok W s')=>Am T lo hi N ops (fP ops s) s' s.rs.length W
 | none=>none) n
def tj (hi:Hint) (f:FuncId) (id:Nat) (s:VS):VS:=match hi.ar6 f id with
 | some l=>{ s with sl:=vf s.sl l }
 | none=>s
def regionF (T:dL) (lo:Lo) (hi:Hint) (N:Nat) (f:FuncId) (ro:Option Nat) (id:Nat) (ops:List Oper) (draw:Bool) (s:VS):Option VS:=match draw with
 | false=>match Mz T lo hi N ops ops s with
   | some s'=>some (tj hi f id s')
   | none=>none
 | true=>match ro with
   | some _=>none
   | none=>match si ops with
     | true=>match yP T lo hi N ops 8 s with
       | some s'=>some (tj hi f id s')
       | none=>none
     | false=>none
def uh (ro:Option Nat) (s:VS):Option VS:=match ro with
 | some r=>match aV s.rs r with
   | some (.loop g M sl ps as bd .ready none)=>some { s with rs:=setAt s.rs r (.loop g M sl ps as bd .busy none) }
   | _=>none
 | none=>none
def pA (lo:Lo) (N:Nat) (f:FuncId) (ro:Option Nat) (g:Operand) (ps:List Tmp) (as b:Code) (s:VS):Option (Option Code×VS):=match ro with
 | some _=>none
 | none=>match dm (cl s.sl g) with
   | some c=>match pV c with
     | some (h,eA)=>match lo.call h (.c (.yl (s.rs.length+1))::eA) (s.rs++[.kA,.loop f N s.sl ps as b .ready none]) with
       | some (_,aJ)=>match aV aJ (s.rs.length+1) with
         | some (.loop _ _ _ _ _ _ .ready none)=>some (none,{ s with rs:=setAt aJ (s.rs.length+1) .dead,df:=s.rs.length::s.df })
         | some (.loop _ _ _ _ _ _ .done (some c))=>some (some c,{ s with rs:=setAt aJ (s.rs.length+1) .dead,df:=s.rs.length::s.df })
         | _=>none
       | none=>none
     | none=>none
   | none=>none
def Aw (j:Option Code) (k:List Item):List Item:=match j with
 | some c=>.code c::k
 | none=>k
def zE (T:dL) (lo:Lo) (hi:Hint) (N:Nat) (f:FuncId) (ro:Option Nat) (n:Nat):List Item->VS->Option (Option Code×VS):=Nat.rec (λ_ _=>none) (λ_ ih todo s=>match todo with
 | []=>some (none,s)
 | x::k=>match x with
   | .inBlock _=>ih k s
   | .inLoop c=>ih (.code c::.inLoop c::k) s
   | .beginRound=>match uh ro s with
     | some s'=>ih k s'
     | none=>none
   | .code c=>match c with
     | .skip=>ih k s
     | .label _=>ih k s
     | .ret=>some (some .ret,s)
     | .seq a b=>ih (.code a::.code b::k) s
     | .cond c a b=>match jn (cl s.sl c) with
       | some p=>ih (.code (Bool.rec b a p)::k) s
       | none=>none
     | .block id c=>ih (.code c::.inBlock id::k) s
     | .loop c=>ih (.code c::.inLoop c::k) s
     | .exit id=>match exitTo id k with
       | some k'=>ih k' s
       | none=>some (some (.exit id),s)
     | .region id ops draw=>match regionF T lo hi N f ro id ops.toList draw s with
       | some s'=>ih k s'
       | none=>none
     | .rangeFunc g ps as b=>match pA lo N f ro g ps.toList as b s with
       | some (j,s')=>ih (Aw j k) s'
       | none=>none
     | _=>none
   | _=>none) n
def Oj (l:List Nat):List ag->Option (List ag):=List.rec (λrs=>some rs) (λr _ ih rs=>match aV rs r with
 | some .kA=>ih (setAt rs r .dead)
 | _=>none) l
def vW (T:dL) (s:VS) (x:ResultVar):Option (Bool×List C):=match (match x with
  | .tmp t=>eJ s.sl t
  | .cell ad t=>lg T s t (.tmp ad)) with
 | some (.c x)=>some (false,[x])
 | some (.a l)=>some (true,l)
 | _=>none
def Cr (T:dL) (s:VS) (l:List ResultVar):Option (List (Bool×List C)):=List.rec (some []) (λx _ ih=>match vW T s x,ih with
 | some q,some l=>some (q::l)
 | _,_=>none) l
def Xz (T:dL) (s:VS) (l:List ResultVar):Option D:=match Cr T s l with
 | some [(false,[x])]=>some (.c x)
 | some [(true,l)]=>some (.a l)
 | some l=>some (.t l)
 | none=>none
def RN (T:dL) (s:VS) (l:List ResultVar):Option (D×List ag):=match Oj s.df s.rs with
 | some rs=>match Xz T { s with rs:=rs } l with
   | some d=>some (d,rs)
   | none=>none
 | none=>none
def Se (j:Option Code):Bool:=match j with
 | none=>true
 | some .ret=>true
 | _=>false
def Lg (N:Nat) (ps:List Tmp):List D->aK->Option aK:=List.rec (λds sl=>match ds with
 | []=>some sl
 | _=>none) (λt _ ih ds sl=>match ds with
 | d::ds=>Bool.rec none (ih ds ((t,d,[])::sl)) (Nat.blt t N)
 | []=>none) ps
def Ql (T:dL) (hi:Hint) (F:FuncId->Option Func) (fuel:Nat) (lo:Lo) (f:FuncId) (ds:List D) (rs:List ag):Option (D×List ag):=match F f with
 | some fn=>match fn.body with
   | some c=>Bool.rec none (match zE T lo hi fn.ntmps f none fuel [.code c] ⟨dk 0 ds,rs,[]⟩ with
     | some (j,s)=>Bool.rec none (RN T s fn.results.toList) (Se j)
     | none=>none) (Nat.ble ds.length fn.ntmps)
   | none=>none
 | none=>none
def PR (T:dL) (hi:Hint) (F:FuncId->Option Func) (Kn:FuncId->Option D) (fuel:Nat) (lo:Lo) (f:FuncId) (ds:List D) (rs:List ag):Option (D×List ag):=match Kn f with
 | some d=>match ds with
   | []=>some (d,rs)
   | _=>none
 | none=>Ql T hi F fuel lo f ds rs
def DP (r:Nat) (j:Option Code) (s:VS):Option (D×List ag):=match s.df with
 | []=>match aV s.rs r with
   | some (.loop f N sl ps as bd .busy none)=>match j with
     | none=>some (bool true,setAt s.rs r (.loop f N sl ps as bd .ready none))
     | some c=>some (bool false,setAt s.rs r (.loop f N sl ps as bd .done (some c)))
   | _=>none
 | _=>none
def Y4 (T:dL) (hi:Hint) (fuel:Nat) (lo:Lo) (r:Nat) (ds:List D) (rs:List ag):Option (D×List ag):=match aV rs r with
 | some (.loop f N sl ps as bd .ready none)=>match Lg N ps ds sl with
   | some sl=>match zE T lo hi N f (some r) fuel [.code as,.beginRound,.code bd] ⟨sl,rs,[]⟩ with
     | some (j,s)=>DP r j s
     | none=>none
   | none=>none
 | _=>none
def loN (T:dL) (hi:Hint) (F:FuncId->Option Func) (Kn:FuncId->Option D) (fuel:Nat) (n:Nat):Lo:=Nat.rec ⟨λ_ _ _=>none,λ_ _ _=>none,λrs aJ=>yE rs.length rs aJ 0,λ_ _ _=>none⟩ (λ_ ih=>⟨PR T hi F Kn fuel ih,Y4 T hi fuel ih,λrs aJ=>yE rs.length rs aJ 0,λ_ _ _=>none⟩) n
end
open Go.RowKit
structure Kept (E E':Env):Prop where
 le:Env.le E E'
 free:∀ q:Nat,E[q]?=some hole->E'[q]?=some hole
theorem Kept.refl (E:Env):Kept E E:=⟨Env.le_refl E,λ_ h=>h⟩
theorem Kept.trans {E F G:Env} (h:Kept E F) (k:Kept F G):Kept E G:=⟨h.le.trans k.le,λq e=>k.free q (h.free q e)⟩
theorem Kept.KX {E E':Env} {b:Nat} (h:mF b E E') (hb:E.length<=b):Kept E E':=⟨h.le,λq e=>h.free q (λhq=>by
 have:=(List.getElem?_eq_some_iff.1 e).1
 omega) e⟩
theorem Kept.XH {E E':Env} (h:Kept E E') (b:Nat):mF b E E':=⟨h.le,λq _=>h.free q⟩
def OI (diff:List ag->List ag->Option (List (Nat×ag))):Prop:=∀ rs aJ ws,diff rs aJ=some ws->∀ (q:Nat) (x:ag),(writes ws rs)[q]?=some x->aJ[q]?=some x/\(rs[q]?=some x∨ib rs.length x=true)
structure gP (T:dL) (P:Program) (lo:Lo):Prop where
 call:∀ f ds rs d aJ,lo.call f ds rs=some (d,aJ)->Enters P f/\∀ (N:Nat) (ay:Nat->Prop) (w0:Kp) (sp:List (D×Value)) (sl:aK) (df:List Nat) (a:Act) (w:World) (E:Env) (vs:List Value),R T N ay w0 sp ⟨sl,rs,df⟩ a w E->aB (aZ E (AV ay rs E) w) ds vs->
  Go.Calls P f vs.toArray w λe w'=>∃ v E',e=.returned v/\Kept E E'/\R T N ay w0 sp ⟨sl,aJ,df⟩ a w' E'/\aZ E' (AV ay aJ E') w' d v
 NW:∀ r ds rs d aJ,lo.NW r ds rs=some (d,aJ)->∀ (N:Nat) (ay:Nat->Prop) (w0:Kp) (sp:List (D×Value)) (sl:aK) (df:List Nat) (a:Act) (w:World) (E:Env) (vs:List Value),R T N ay w0 sp ⟨sl,rs,df⟩ a w E->aB (aZ E (AV ay rs E) w) ds vs->
  ∃ b sz f tm as bd,bq E r b sz/\(Instr.yield b vs.toArray).run P w=.ok (.round b f tm as bd) w/\
   yt P b f tm as bd w λv w'=>∃ E',Kept E E'/\R T N ay w0 sp ⟨sl,aJ,df⟩ a w' E'/\aZ E' (AV ay aJ E') w' d v
 diff:OI lo.diff
 wr:∀ f ds rs d q x,lo.wr f ds rs=some (d,q,x)->Enters P f/\∀ (N:Nat) (ay:Nat->Prop) (w0:Kp) (sp:List (D×Value)) (sl:aK) (df:List Nat) (a:Act) (w:World) (E:Env) (vs:List Value),R T N ay w0 sp ⟨sl,rs,df⟩ a w E->aB (aZ E (AV ay rs E) w) ds vs->
  Go.Calls P f vs.toArray w λe w'=>∃ v E',e=.returned v/\Kept E E'/\R T N ay w0 sp ⟨sl,place q x rs,df⟩ a w' E'/\aZ E' (AV ay (place q x rs) E') w' d v
 mono:∀ f ds rs pK r,rs.length=pK.length->(∀ (q:Nat) (x:ag),aV rs q=some x->x.live->aV pK q=some x)->lo.wr f ds rs=some r->lo.wr f ds pK=some r
section
variable {P:Program} {T:dL} {lo:Lo} {hi:Hint} {N:Nat} {ay:Nat->Prop} {w0:Kp} {sp:List (D×Value)} {s:VS} {a:Act} {w:World} {E:Env}
theorem R.none {av:Nat->Prop} (eG:∀ b,av b->b<w.heap.size) (hg:qx T av w):R T 0 av (Kp.of w) [] ⟨[],[],[]⟩ { tmps := #[],defers:=[] } w []:=
 ⟨rfl,.nil,λ_ hx=>(by cases hx),Kp.holds_of (Below.refl _ _),rfl,λb q=>⟨eG b q,λq=>q⟩,λr x e h1=>(by simp at h1),λr x b sz h1=>(by simp at h1),λr r' x x' b sz cF h1=>(by simp at h1),λt d c h1=>(by simp [look] at h1),hg.mono (ba.refl _ w) (λb _ q=>q.elim id λ⟨r,x,sz,h1,_⟩=>by simp at h1)⟩
theorem ur {av:Nat->Prop}:∀ b,AV av [] [] b↔av b:=λb=>⟨λq=>q.elim id λ⟨r,x,sz,h1,_⟩=>by simp at h1,.inl⟩
theorem gP.pure (hl:gP T P lo) {f:FuncId} {is:List D} {d:D} {aJ:List ag} (e:lo.call f is []=some (d,aJ)) {d':D} (e':dF aJ d=some d'):Ft T P f is d':=by
 intro av w vs eG hgl tu
 have h0:=(hl.call f is [] d aJ e).2 0 av (Kp.of w) [] [] [] _ w [] vs (R.none eG hgl) (tu.mono λ_ _ q=>aZ.mono (Env.le_refl []) (ba.refl _ w) (λb _ q=>(ur b).1 q) q)
 refine h0.mono ?_
 rintro e w' ⟨v,E',rfl,_,hR,hd⟩
 exact ⟨v,rfl,qW hR (kl.outer hR) e' hd,hR.below.below⟩
theorem ar4 (hl:gP T P lo):WJ T P ⟨λf is=>match lo.call f is [] with
  | some (d,aJ)=>match dF aJ d with
    | some d'=>some (none,d')
    | none=>none
  | none=>none,λ_ _ _=>none,λ_ _ _=>none⟩ where
 pur f ds p d e:=by
  simp only at e
  split at e
  case h_2=>simp at e
  rename_i d0 aJ h1
  split at e
  case h_2=>simp at e
  rename_i d' h2
  simp only [ak,bw] at e
  obtain ⟨rfl,rfl⟩:=e
  exact ⟨(hl.call _ _ _ _ _ h1).1,λ_=>hl.pure h1 h2⟩
 eff _ _ _ _ _ _ e:=by simp at e
 NW _ _ _ _ _ _ e:=by simp at e
theorem yM (hl:gP T P lo) (h:R T N ay w0 sp s a w E) {f:FuncId} {ds:List D} {d:D} (e:zO lo s.rs f ds=some d) (hs:(fk ds||ir d)=true) (hd:ki d=true) {vs:List Value} (hv:aB (aZ E (AV ay s.rs E) w) ds vs) :
  Enters P f/\Go.Calls P f vs.toArray w λe w'=>∃ v,e=.returned v/\Below w.heap.size w w'/\aZ E (AV ay s.rs E) w' d v:=by
 unfold zO at e
 split at e
 case h_2=>simp at e
 rename_i is hi
 split at e
 case h_2=>simp at e
 rename_i d0 aJ h1
 have hc:=ar4 hl
 have hp:(match lo.call f is [] with
  | some (d,aJ)=>match dF aJ d with
    | some d'=>some ((none:Option Prop),d')
    | none=>none
  | none=>none)=some (none,d):=by rw [h1]; simp only [e]
 exact ⟨(hl.call _ _ _ _ _ h1).1,R4 hc h hi hp trivial hs hd hv⟩
def jI (T:dL) (P:Program) (N:Nat) (ay:Nat->Prop) (w0:Kp) (sp:List (D×Value)) (s:VS) (a:Act) (w:World) (E:Env) (b:Nat) (e:cm) (f:FuncId) (vs:List Value):Prop:=
 Enters P f/\Go.Calls P f vs.toArray w λen w'=>∃ v E',en=.returned v/\iO T N ay w0 sp s a w E b e v w' E'
theorem iO.AA (h:R T N ay w0 sp s a w E) {b:Nat} {d:D} {v:Value} {w':World} (hb:Below w.heap.size w w') (hd:aZ E (AV ay s.rs E) w' d v):iO T N ay w0 sp s a w E b (.val d) v w' E:=
 ⟨mF.refl _ _,h.grown hb,λd' qk=>by simp only [dV,ak] at qk; subst qk; exact hd⟩
theorem eU {rs:List ag} {ds:List D} {e e':cm} (h:jk rs ds e=some e'):(∃ l,e'=.cD l)∨(e'=e/\vg rs ds=some []):=by
 unfold jk at h
 split at h
 .simp only [ak] at h; exact .inl ⟨_,h.symm⟩
 .rename_i hs; simp only [ak] at h; exact .inr ⟨h.symm,hs⟩
 .simp at h
theorem l0:∀ {l:List C},fe l=true->fI l=true
 | [],_=>rfl
 | c::l,h=>by
   cases c with
   | im x=>cases x with
     | v x=>simp only [fe] at h; simp only [fI]; exact l0 h
     | _=>simp [fe] at h
   | _=>simp [fe] at h
theorem vi {d:D} (h:ir d=true):ki d=true:=by
 cases d with
 | c x=>exact l0 (l:=[x]) h
 | a l=>exact l0 h
 | t l=>simp only [ir,ki,List.all_eq_true] at h ⊢; exact λx hx=>l0 (h x hx)
theorem mX {rec:List C->Option (List Nat)} {rs:List ag}:∀ {l:List C},Gn rec rs l=some []->fI l=true
 | [],_=>rfl
 | x::l,h=>by
   have h:(match ZQ rec rs x with
    | some a=>match Gn rec rs l with
      | some b=>some (a++b)
      | none=>none
    | none=>none)=some []:=h
   split at h
   case h_2=>simp at h
   rename_i m hm
   split at h
   case h_2=>simp at h
   rename_i k hk
   simp only [ak,List.append_eq_nil_iff] at h
   obtain ⟨rfl,rfl⟩:=h
   unfold ZQ at hm
   split at hm
   .simp only [fI]; exact mX hk
   .split at hm
    .split at hm
     .simp at hm
     .simp at hm
    .simp at hm
    .simp at hm
    .simp at hm
   .simp at hm
theorem pS {rs:List ag}:∀ {ds:List D},vg rs ds=some []->fk ds=true
 | [],_=>rfl
 | d::ds,h=>by
   have h:(match IH rs d,vg rs ds with
    | some a,some b=>some (a++b)
    | _,_=>none)=some []:=h
   split at h
   case h_2=>simp at h
   rename_i m k hm hk
   simp only [ak,List.append_eq_nil_iff] at h
   obtain ⟨rfl,rfl⟩:=h
   have hd:ki d=true:=by
    cases d with
    | c x=>exact mX (l:=[x]) hm
    | a l=>exact mX hm
    | t l=>simp [IH] at hm
   simp only [fk,hd]
   exact pS hk
theorem sH (hl:gP T P lo) (h:R T N ay w0 sp s a w E) {b:Nat} {f:FuncId} {ds:List D} {e:cm} (ef:gR lo s.rs f ds=some e) {vs:List Value} (hv:aB (aZ E (AV ay s.rs E) w) ds vs) :
  (∃ l,e=.cD l)∨jI T P N ay w0 sp s a w E b e f vs:=by
 unfold gR at ef
 split at ef
 case h_2=>simp at ef
 rename_i d hd
 have fin:(fk ds||ir d)=true->ki d=true->jI T P N ay w0 sp s a w E b (.val d) f vs:=λh1 h2=>by
  obtain ⟨h3,h4⟩:=yM hl h hd h1 h2 hv
  refine ⟨h3,h4.mono ?_⟩
  rintro en w' ⟨v,rfl,hb,hr⟩
  exact ⟨v,E,rfl,iO.AA h hb hr⟩
 cases hp:ir d with
 | true=>
   rw [hp] at ef
   simp only [ak] at ef
   subst ef
   exact .inr (fin (by simp [hp]) (vi hp))
 | false=>
   rw [hp] at ef
   obtain ⟨h1,ef⟩:=Bool.au (show (Bool.rec none (jk s.rs ds (.val d)) (ki d):Option cm)=some e from ef)
   rcases eU ef with hc|⟨rfl,hc⟩
   .exact .inl hc
   .exact .inr (fin (by simp [pS hc]) h1)
theorem xG (hl:gP T P lo) (h:R T N ay w0 sp s a w E) {b:Nat} {f:FuncId} {ds:List D} {e:cm} (ef:tO lo s.rs f ds=some e) {vs:List Value} (hv:aB (aZ E (AV ay s.rs E) w) ds vs) :
  jI T P N ay w0 sp s a w E b e f vs:=by
 unfold tO at ef
 split at ef
 case h_2=>simp at ef
 rename_i d aJ hd
 simp only [ak] at ef
 subst ef
 obtain ⟨h1,h2⟩:=hl.call _ _ _ _ _ hd
 refine ⟨h1,(h2 N ay w0 sp s.sl s.df a w E vs h hv).mono ?_⟩
 rintro en w' ⟨v,E',rfl,hk,hR,hr⟩
 exact ⟨v,E',rfl,hk.XH b,hR,λd' qk=>by simp only [dV,ak] at qk; subst qk; exact hr⟩
theorem L6 (hl:gP T P lo) (h:R T N ay w0 sp s a w E) {b:Nat} {f:FuncId} {ds:List D} {e:cm} (ef:SC lo s.rs f ds=some e) {vs:List Value} (hv:aB (aZ E (AV ay s.rs E) w) ds vs) :
  jI T P N ay w0 sp s a w E b e f vs:=by
 unfold SC at ef
 split at ef
 case h_2=>simp at ef
 rename_i d q x hd
 replace ef:=(Bool.au ef).2
 simp only [ak] at ef
 subst ef
 obtain ⟨h1,h2⟩:=hl.wr _ _ _ _ _ _ hd
 refine ⟨h1,(h2 N ay w0 sp s.sl s.df a w E vs h hv).mono ?_⟩
 rintro en w' ⟨v,E',rfl,hk,hR,hr⟩
 exact ⟨v,E',rfl,hk.XH b,hR,λd' qk=>by simp only [dV,ak] at qk; subst qk; exact hr⟩
theorem kO {w w':World} (h:Below w.heap.size w w'):w.grownBy w' none:=⟨h.os,h.tape,h.output,h.size,λk hk _=>h.block k hk⟩
theorem mI {rs:List ag} {f:FuncId} {ds:List D} {b:Nat} {d:Option D} {ws:List (Nat×ag)} (e:yC lo rs f ds b=some (.wr d ws)) :
  (∃ is q n aJ el sz l,dn rs ds=some is/\lo.call f is []=some (.c (.sa q n),aJ)/\nth aJ q=some (.row el sz n l)/\fI l=true/\d=some (.c (.sa b n))/\ws=[(b,.row el sz n l)]) ∨
  (∃ is q n aJ el sz get,dn rs ds=some is/\lo.call f is []=some (.c (.sa q n),aJ)/\nth aJ q=some (.arr el sz n get)/\d=some (.c (.sa b n))/\ws=[(b,.arr el sz n get)]):=by
 unfold yC at e
 split at e
 case h_2=>simp at e
 rename_i is hi
 split at e
 .rename_i q m aJ hc
  split at e
  case h_3=>simp at e
  .rename_i el sz n l hl
   obtain ⟨h1,e⟩:=Bool.au e
   simp only [dJ] at h1
   have h2:=bK h1.1
   subst h2
   rw [cd] at hl
   simp only [ak,cm.wr.injEq] at e
   exact .inl ⟨is,q,m,aJ,el,sz,l,hi,hc,hl,h1.2,e.1.symm,e.2.symm⟩
  .rename_i el sz n get hl
   obtain ⟨h1,e⟩:=Bool.au e
   have h2:=bK h1
   subst h2
   rw [cd] at hl
   simp only [ak,cm.wr.injEq] at e
   exact .inr ⟨is,q,m,aJ,el,sz,get,hi,hc,hl,e.1.symm,e.2.symm⟩
 .split at e
  case h_2=>simp at e
  obtain ⟨_,e⟩:=Bool.au e
  simp at e
 .simp at e
theorem yr {E E':Env} {av cY:Nat->Prop} {w w':World} (hk:ba av w w') (ha:∀ b,b<w.heap.size->cY b->av b):∀ {l:List C} {xs:List Value},fI l=true->aB (bg E av w) l xs->aB (bg E' cY w') l xs
 | [],_,_,.nil=>.nil
 | c::l,_,h,.cons q k=>by
   cases c with
   | im x=>exact .cons (cX.mono (x:=x) hk ha q) (yr hk ha (by simpa [fI] using h) k)
   | _=>simp [fI] at h
theorem JU (hl:gP T P lo) (h:R T N ay w0 sp s a w E) {b:Nat} (hf:lS s E b) {f:FuncId} {ds is:List D} {q n el sz:Nat} {aJ:List ag} {l:List C} (hi:dn s.rs ds=some is)
  (hc:lo.call f is []=some (.c (.sa q n),aJ)) (hq:nth aJ q=some (.row el sz n l)) (hp:fI l=true) (hs:fe l=true∨fk ds=true) {vs:List Value} (hv:aB (aZ E (AV ay s.rs E) w) ds vs) :
  jI T P N ay w0 sp s a w E b (.wr (some (.c (.sa b n))) [(b,.row el sz n l)]) f vs:=by
 obtain ⟨h1,h2⟩:=hl.call _ _ _ _ _ hc
 refine ⟨h1,?_⟩
 have avlt:∀ b,AV ay s.rs E b->b<w.heap.size:=by
  rintro b (q|⟨r,x,sz,h1,h2,h3⟩)
  .exact h.jU q
  .exact (h.cS r x b sz h1 h2 h3).2
 have key:∃ av:Nat->Prop,(∀ b,av b->b<w.heap.size)/\qx T av w/\aB (aZ [] av w) is vs/\(fe l=true∨∀ k,AV ay s.rs E k->av k):=by
  rcases hs with hs|hs
  .exact ⟨λ_=>False,λ_ q=>q.elim,h.gn.mono (ba.refl _ w) (λ_ _ q=>q.elim),o0 h (kl.none ay s E) hi hv,.inl hs⟩
  .exact ⟨AV ay s.rs E,avlt,h.gn,jf hs hi hv,.inr λ_ q=>q⟩
 obtain ⟨av,eG,hgl,tu,hcase⟩:=key
 refine (h2 0 av (Kp.of w) [] [] [] _ w [] vs (R.none eG hgl) (tu.mono λ_ _ q=>aZ.mono (Env.le_refl []) (ba.refl _ w) (λb _ q=>(ur b).1 q) q)).mono ?_
 rintro en w' ⟨v,E1,rfl,_,hR,hd⟩
 obtain ⟨e0,ao,n',cap,g1,g2,g3,rfl⟩:=hd
 rw [bp] at hq
 obtain ⟨r1,r2,xs,r3,r4⟩:=hR.roots q _ _ hq g1
 have hvn:e0.2.1.1=.slice ao n cap:=by
  rcases r3.2 with ⟨q5,q6⟩|⟨g,cap2,cur,q5,_⟩
  .rw [g2] at q5 ⊢; simp only [dK] at q5 ⊢; simp; omega
  .rw [g2] at q5 ⊢; simp only [dK] at q5 ⊢; simp; omega
 have hb:=hR.below.below
 have eE:w'.ownsRow w0.base el sz (.slice ao n cap) n xs:=by
  rw [hvn] at r3
  refine ⟨r3.1,r3.2.imp id ?_⟩
  rintro ⟨g,cap2,cur,q5,q6,q7⟩
  exact ⟨g,cap2,cur,q5,cW h.size_le q6,q7⟩
 have iX:∀ k,(Value.slice ao n cap).ownBlock=some k->w.heap.size<=k/\k<w'.heap.size/\bq E1 q k e0.2.2:=by
  intro k hk
  have ji:bq E1 q k e0.2.2:=by
   obtain ⟨e1,e2,e3⟩:=e0
   have r2:e1=e2.1.ownBlock:=r2
   have hvn:e2.1=_:=hvn
   rw [hvn,hk] at r2
   exact ⟨e2,by rw [g1,r2]⟩
  have:=hR.blk q _ k e0.2.2 hq trivial ji
  exact ⟨this.1.base,this.2,ji⟩
 obtain ⟨E',h4,h5,h6,h7⟩:=h.make hf (dead:=Option.none) (x:=.row el sz n l) (e:=((Value.slice ao n cap).ownBlock,nI (.slice ao n cap),sz)) (w':=w') (row:=Option.none) (kO hb) (λk hk=>by cases hk)
  (λk hk=>.inr (iX k hk).1) (λk hk=>(iX k hk).2.1) (λE' cY hE aj3 sD hk=>⟨rfl,rfl,xs,eE,by
   rcases hcase with Gb|hcase
   .exact jD Gb r4
   .refine yr (ba.refl _ w') (λk kT q=>?_) hp r4
    rcases sD k q with q|q
    .exact .inl (hcase k q)
    .exact .inr ⟨_,_,_,hq,trivial,(iX k (q.resolve_right λq=>q)).2.2.own⟩⟩)
 .refine ⟨_,E',rfl,h6,h4,λd hd=>?_⟩
  simp only [dV,ak] at hd
  subst hd
  rcases eE.2 with ⟨q5,q6⟩|⟨g,cap2,cur,q5,_⟩
  .exact ⟨_,ao,n,cap,h5,rfl,bG _,rfl⟩
  .exact ⟨_,ao,n,cap,h5,rfl,bG _,rfl⟩
theorem S8 (hl:gP T P lo) (h:R T N ay w0 sp s a w E) {b:Nat} (hf:lS s E b) {f:FuncId} {ds is:List D} {q n el sz:Nat} {aJ:List ag} {get:Nat->Nat->I} (hi:dn s.rs ds=some is)
  (hc:lo.call f is []=some (.c (.sa q n),aJ)) (hq:nth aJ q=some (.arr el sz n get)) (hs:fk ds=true) {vs:List Value} (hv:aB (aZ E (AV ay s.rs E) w) ds vs) :
  jI T P N ay w0 sp s a w E b (.wr (some (.c (.sa b n))) [(b,.arr el sz n get)]) f vs:=by
 obtain ⟨h1,h2⟩:=hl.call _ _ _ _ _ hc
 refine ⟨h1,?_⟩
 have avlt:∀ b,AV ay s.rs E b->b<w.heap.size:=by
  rintro b (q|⟨r,x,sz,h1,h2,h3⟩)
  .exact h.jU q
  .exact (h.cS r x b sz h1 h2 h3).2
 have key:∃ av:Nat->Prop,(∀ b,av b->b<w.heap.size)/\qx T av w/\aB (aZ [] av w) is vs/\(∀ k,AV ay s.rs E k->av k):=
  ⟨AV ay s.rs E,avlt,h.gn,jf hs hi hv,λ_ q=>q⟩
 obtain ⟨av,eG,hgl,tu,hcase⟩:=key
 refine (h2 0 av (Kp.of w) [] [] [] _ w [] vs (R.none eG hgl) (tu.mono λ_ _ q=>aZ.mono (Env.le_refl []) (ba.refl _ w) (λb _ q=>(ur b).1 q) q)).mono ?_
 rintro en w' ⟨v,E1,rfl,_,hR,hd⟩
 obtain ⟨e0,ao,n',cap,g1,g2,g3,rfl⟩:=hd
 rw [bp] at hq
 obtain ⟨r1,r2,xs,r3,r4⟩:=hR.roots q _ _ hq g1
 have hvn:e0.2.1.1=.slice ao n cap:=by
  rcases r3.2 with ⟨q5,q6⟩|⟨g,cap2,cur,q5,_⟩
  .rw [g2] at q5 ⊢; simp only [dK] at q5 ⊢; simp; omega
  .rw [g2] at q5 ⊢; simp only [dK] at q5 ⊢; simp; omega
 have hb:=hR.below.below
 have eE:w'.ownsRow w0.base el sz (.slice ao n cap) n xs:=by
  rw [hvn] at r3
  refine ⟨r3.1,r3.2.imp id ?_⟩
  rintro ⟨g,cap2,cur,q5,q6,q7⟩
  exact ⟨g,cap2,cur,q5,cW h.size_le q6,q7⟩
 have iX:∀ k,(Value.slice ao n cap).ownBlock=some k->w.heap.size<=k/\k<w'.heap.size/\bq E1 q k e0.2.2:=by
  intro k hk
  have ji:bq E1 q k e0.2.2:=by
   obtain ⟨e1,e2,e3⟩:=e0
   have r2:e1=e2.1.ownBlock:=r2
   have hvn:e2.1=_:=hvn
   rw [hvn,hk] at r2
   exact ⟨e2,by rw [g1,r2]⟩
  have:=hR.blk q _ k e0.2.2 hq trivial ji
  exact ⟨this.1.base,this.2,ji⟩
 obtain ⟨E',h4,h5,h6,h7⟩:=h.make hf (dead:=Option.none) (x:=.arr el sz n get) (e:=((Value.slice ao n cap).ownBlock,nI (.slice ao n cap),sz)) (w':=w') (row:=Option.none) (kO hb) (λk hk=>by cases hk)
  (λk hk=>.inr (iX k hk).1) (λk hk=>(iX k hk).2.1) (λE' cY hE aj3 sD hk=>⟨rfl,rfl,xs,eE,λi hi j hj=>by
   obtain ⟨x,g5,g6⟩:=r4 i hi j hj
   exact ⟨x,g5,cX.mono (ba.refl _ w') (λk kT q=>by
    rcases sD k q with q|q
    .exact .inl (hcase k q)
    .exact .inr ⟨_,_,_,hq,trivial,(iX k (q.resolve_right λq=>q)).2.2.own⟩) g6⟩⟩)
 .refine ⟨_,E',rfl,h6,h4,λd hd=>?_⟩
  simp only [dV,ak] at hd
  subst hd
  rcases eE.2 with ⟨q5,q6⟩|⟨g,cap2,cur,q5,_⟩
  .exact ⟨_,ao,n,cap,h5,rfl,bG _,rfl⟩
  .exact ⟨_,ao,n,cap,h5,rfl,bG _,rfl⟩
theorem SL (hl:gP T P lo) (h:R T N ay w0 sp s a w E) {b:Nat} (hf:lS s E b) {f:FuncId} {ds is:List D} {cs oH:List C} {L:List O} (hi:dn s.rs ds=some is)
  (hc:lo.call f is []=some (.a cs,[.own L])) (hm:rz (U0 b) cs=some oH) (hs:fk ds=true) {vs:List Value} (hv:aB (aZ E (AV ay s.rs E) w) ds vs) :
  jI T P N ay w0 sp s a w E b (.wr (some (.a oH)) [(b,.own L)]) f vs:=by
 obtain ⟨h1,h2⟩:=hl.call _ _ _ _ _ hc
 refine ⟨h1,?_⟩
 have avlt:∀ b,AV ay s.rs E b->b<w.heap.size:=by
  rintro b (q|⟨r,x,sz,h1,h2,h3⟩)
  .exact h.jU q
  .exact (h.cS r x b sz h1 h2 h3).2
 refine (h2 0 (AV ay s.rs E) (Kp.of w) [] [] [] _ w [] vs (R.none avlt h.gn) ((jf hs hi hv).mono λ_ _ q=>aZ.mono (Env.le_refl []) (ba.refl _ w) (λb _ q=>(ur b).1 q) q)).mono ?_
 rintro en w' ⟨v,E1,rfl,_,hR,hd⟩
 obtain ⟨ca,rfl,hcs⟩:=hd
 have hlen:0<E1.length:=by rw [hR.len]; exact Nat.lt_succ_self 0
 have he:=eK hlen
 generalize E1[0]=e0 at he
 have hroot:=hR.roots 0 _ _ rfl he
 obtain ⟨r1,r2,vt,r3,r4,Ks,r5,r6,r7⟩:=hroot
 have hb:=hR.below.below
 have hnew:∀ k,e0.2.1.2 k->w.heap.size<=k/\k<w'.heap.size:=λk hk=>by
  have:=hR.cS 0 _ k e0.2.2 rfl trivial ⟨e0,he,rfl,.inr hk⟩
  exact ⟨this.1.base,this.2⟩
 have avw:∀ {cY:Nat->Prop},(∀ k,cY k->AV ay s.rs E k∨fA.has (Option.none,e0.2.1,0) k)->∀ k,cY k->AV (AV ay s.rs E) [.own L] E1 k:=λsD k q=>by
  rcases sD k q with q|q|q
  .exact .inl q
  .cases q
  .exact .inr ⟨0,_,_,rfl,trivial,e0,he,rfl,.inr q⟩
 obtain ⟨E',h4,h5,h6,h7⟩:=h.make hf (dead:=Option.none) (x:=.own L) (e:=(Option.none,e0.2.1,0)) (w':=w') (row:=Option.none) (kO hb) (λk hk=>by cases hk)
  (λk hk=>by cases hk) (λk hk=>by cases hk) (λE' cY hE aj3 sD hk=>⟨rfl,r2,vt,r3,r4,Ks,r5,r6,λi o ho=>by
   obtain ⟨v,g1,g2⟩:=r7 i o ho
   exact ⟨v,g1,fb.base h.size_le (fb.mono (ba.refl _ w') (λk _ q=>avw sD k q) (λ_ _=>rfl) g2)⟩⟩) (λk hk=>.inr (hnew k hk))
 refine ⟨_,E',rfl,h6,h4,λd hd=>?_⟩
 simp only [dV,ak] at hd
 subst hd
 have hav3:∀ k,AV ay (place b (.own L) (kill Option.none s.rs)) E' k->AV (AV ay s.rs E) [.own L] E1 k:=avw h7.2
 refine ⟨ca,rfl,?_⟩
 exact te (λc c' v e q=>by
  unfold U0 at e
  split at e
  .simp only [ak] at e; subst e
   exact cX.mono (ba.refl _ w') (λk _ q=>hav3 k q) q
  .simp only [ak] at e; subst e
   obtain ⟨e2,vs2,g1,g2,g3⟩:=q
   rw [he] at g1
   simp only [ak] at g1
   subst g1
   exact ⟨_,vs2,h5,g2,g3⟩
  .simp at e) hm hcs
theorem kN {lo:Lo} {rs:List ag} {f:FuncId} {ds:List D} {b:Nat} {e:cm} (h:zT lo rs f ds b=some e):∃ is cs oH L,fk ds=true/\dn rs ds=some is/\lo.call f is []=some (.a cs,[.own L])/\rz (U0 b) cs=some oH/\e=.wr (some (.a oH)) [(b,.own L)]:=by
 unfold zT at h
 obtain ⟨hp,h⟩:=Bool.au h
 split at h
 case h_2=>simp at h
 rename_i is hi
 split at h
 case h_2=>simp at h
 rename_i cs L hc
 split at h
 case h_2=>simp at h
 rename_i oH hm
 simp only [ak] at h
 exact ⟨is,cs,oH,L,hp,hi,hc,hm,h.symm⟩
theorem Jh (hl:gP T P lo) (h:R T N ay w0 sp s a w E) {b:Nat} (hf:lS s E b) {f:FuncId} {ds:List D} {e:cm} (ef:zT lo s.rs f ds b=some e) {vs:List Value} (hv:aB (aZ E (AV ay s.rs E) w) ds vs) :
  jI T P N ay w0 sp s a w E b e f vs:=by
 obtain ⟨is,cs,oH,L,hp,hi,hc,hm,rfl⟩:=kN ef
 exact SL hl h hf hi hc hm hp hv
theorem Ca (hl:gP T P lo) (h:R T N ay w0 sp s a w E) {b:Nat} (hf:lS s E b) {f:FuncId} {ds:List D} {e:cm} (ef:gf lo s.rs f ds b=some e) {vs:List Value} (hv:aB (aZ E (AV ay s.rs E) w) ds vs) :
  (∃ l,e=.cD l)∨jI T P N ay w0 sp s a w E b e f vs:=by
 unfold gf at ef
 split at ef
 .rename_i d hd
  simp only [ak] at ef
  subst ef
  right
  unfold yC at hd
  split at hd
  case h_2=>simp at hd
  rename_i is hi
  split at hd
  .split at hd
   .obtain ⟨_,hd⟩:=Bool.au hd; simp at hd
   .obtain ⟨_,hd⟩:=Bool.au hd; simp at hd
   .simp at hd
  .rename_i d0 rs0 _ vu
   split at hd
   case h_2=>simp at hd
   rename_i d' hre
   obtain ⟨hp,hd⟩:=Bool.au hd
   simp only [ak,cm.val.injEq] at hd
   subst hd
   obtain ⟨h3,h4⟩:=yM hl h (f:=f) (ds:=ds) (d:=d') (by simp only [zO,hi,vu,hre]) (by simp [hp]) (vi hp) hv
   refine ⟨h3,h4.mono ?_⟩
   rintro en w' ⟨v,rfl,hb,hr⟩
   exact ⟨v,E,rfl,iO.AA h hb hr⟩
  .simp at hd
 .rename_i d q el sz n l ho
  rcases mI ho with ⟨is,q',n',aJ,pF,cF,l',hi,hc,hq,hp,hd,hws⟩|⟨is,q',n',aJ,pF,cF,get',hi,hc,hq,hd,hws⟩
  case inr=>simp at hws
  simp only [List.cons.injEq,bw,ag.row.injEq,and_true] at hws
  obtain ⟨rfl,rfl,rfl,rfl,rfl⟩:=hws
  subst hd
  cases Gb:fe l with
  | true=>
    rw [Gb] at ef
    simp only [ak] at ef
    subst ef
    exact .inr (JU hl h hf hi hc hq hp (.inl Gb) hv)
  | false=>
    rw [Gb] at ef
    rcases eU (show jk s.rs ds _=some e from ef) with hc'|⟨rfl,hc'⟩
    .exact .inl hc'
    .exact .inr (JU hl h hf hi hc hq hp (.inr (pS hc')) hv)
 .rename_i d q el sz n get ho
  rcases mI ho with ⟨is,q',n',aJ,pF,cF,l',hi,hc,hq,hp,hd,hws⟩|⟨is,q',n',aJ,pF,cF,get',hi,hc,hq,hd,hws⟩
  case inl=>simp at hws
  simp only [List.cons.injEq,bw,ag.arr.injEq,and_true] at hws
  obtain ⟨rfl,rfl,rfl,rfl,rfl⟩:=hws
  subst hd
  rcases eU (show jk s.rs ds _=some e from ef) with hc'|⟨rfl,hc'⟩
  .exact .inl hc'
  .exact .inr (S8 hl h hf hi hc hq (pS hc') hv)
 .simp at ef
theorem FN (hl:gP T P lo) (h:R T N ay w0 sp s a w E) {b:Nat} (hf:lS s E b) {f:FuncId} {ds:List D} {e:cm} (ef:oQ lo hi s.rs b f ds=some e) {vs:List Value} (hv:aB (aZ E (AV ay s.rs E) w) ds vs) :
  (∃ l,e=.cD l)∨jI T P N ay w0 sp s a w E b e f vs:=by
 unfold oQ at ef
 split at ef
 .exact sH hl h ef hv
 .exact .inr (xG hl h ef hv)
 .exact Ca hl h hf ef hv
 .exact .inr (L6 hl h ef hv)
 .exact .inr (Jh hl h hf ef hv)
 .cases hp:fk ds with
  | true=>rw [hp] at ef; exact sH hl h ef hv
  | false=>rw [hp] at ef; exact .inr (xG hl h ef hv)
theorem uU (h:R T N ay w0 sp s a w E) {c:C} {f:FuncId} {eA:List D} (e:pV c=some (f,eA)) {fv:Value} (hc:bg E (AV ay s.rs E) w c fv) :
  ∃ cs:Array Value,fv=.func (.func f) #[] cs/\aB (aZ E (AV ay s.rs E) w) eA cs.toList:=by
 refine Fv h (fd:=.c c) ?_ hc
 unfold pV at e
 split at e
 .exact e
 .exact e
 .simp at e
theorem Co (hl:gP T P lo) (h:R T N ay w0 sp s a w E) (hn:bM s.sl) {b:Nat} (hf:lS s E b) {o:Oper} {c:Call} (ho:o.op=.call c) {f:Operand} (yL:c.callee=.value f) {e:cm} (ef:ml lo hi b s f c.args.toList=some e)
  {next:Act->World->Prop} (lD:∀ v w' E',iO T N ay w0 sp s a w E b e v w' E'->next (a.put o.dst v) w'):(∃ l,e=.cD l)∨Op1 P true o a w next:=by
 have rO:∀ c',o.op ≠ .defer c':=λc' q=>by rw [ho] at q; cases q
 unfold ml at ef
 split at ef
 case h_2=>simp at ef
 rename_i c0 ds hc0 hds
 have hc0:=h.cl hn (cg hc0)
 have hds:=lX h (bJ.nil a) (mL hn hds)
 split at ef
 .rename_i r
  obtain ⟨b',sz,ji,hfv⟩:=hc0
  unfold D6 at ef
  split at ef
  case h_2=>simp at ef
  rename_i d aJ hy
  simp only [ak] at ef
  subst ef
  right
  obtain ⟨b2,US,fr,tm,as,bd,hat2,h1,h2⟩:=hl.NW _ _ _ _ _ hy N ay w0 sp s.sl s.df a w E _ h hds
  obtain ⟨q1,q2⟩:=ji
  obtain ⟨q3,q4⟩:=hat2
  rw [q2] at q4
  simp only [ak,bw] at q4
  obtain ⟨rfl,rfl,rfl⟩:=q4
  refine .round rfl b' fr tm as bd w rO ?_ λc' cs=>?_
  .have qa:(List.map a.eval c.args.toList).toArray=c.args.map a.eval:=by apply Array.ext'; simp
   rw [qa] at h1
   simp only [execOp,ho,resolve,yL,hfv,Deferred.ofValue,Sem.run_bind,Sem.run_pure,Result.andThen_ok,invoke]
   simpa using h1
  .obtain ⟨v,w',⟨E',hk,h3,h4⟩,h5⟩:=h2 c' cs
   exact ⟨v,w',lD v w' E' ⟨hk.XH b,h3,λd' qk=>by simp only [dV,ak] at qk; subst qk; exact h4⟩,h5⟩
 .split at ef
  case h_2=>simp at ef
  rename_i g eA hcl
  obtain ⟨cs,hfv,hcs⟩:=uU h hcl hc0
  rcases FN hl h hf ef (hds.append hcs) with hq|⟨he,vu⟩
  .exact .inl hq
  right
  have tu:(List.map a.eval c.args.toList++cs.toList).toArray=c.args.map a.eval++cs:=by
   apply Array.ext'
   simp
  refine .enter g (List.map a.eval c.args.toList++cs.toList).toArray w rO ?_ (vu.mono ?_)
  .rw [tu]; exact Hv ho yL hfv he
  .rintro en w' ⟨v,E',rfl,ha⟩
   exact ⟨v,rfl,lD v w' E' ha⟩
theorem qK (bQ:dH P T) (hl:gP T P lo) (h:R T N ay w0 sp s a w E) (hn:bM s.sl) {b:Nat} (hf:lS s E b) {o:Oper} {e:cm} (ef:fO T lo hi b s o.dst o.op=some e)
  {next:Act->World->Prop} (lD:∀ v w' E',iO T N ay w0 sp s a w E b e v w' E'->next (a.put o.dst v) w'):(∃ l,e=.cD l)∨Op1 P true o a w next:=by
 unfold fO at ef
 split at ef
 .rename_i d hd
  simp only [ak] at ef
  subst ef
  obtain ⟨v,h1,h2⟩:=GC bQ h hn hd
  refine .inr (.value v w (λc q=>?_) h1 (lD v w E ⟨mF.refl _ _,h,λd' qk=>by simp only [dV,ak] at qk; subst qk; exact h2⟩))
  rw [q] at hd; simp [fh] at hd
 .generalize hop:o.op=op at ef
  have rO:∀ {op'},o.op=op'->(∀ c,op' ≠ .defer c)->∀ c,o.op ≠ .defer c:=λq k c=>by rw [q]; exact k c
  cases op with
  | box t x=>
    obtain ⟨E',ha⟩:=Hq h hn hf t ef
    exact .inr (.value _ _ (rO hop λ_=>Op.noConfusion) (by simp only [execOp,hop]; rfl) (lD _ _ _ ha))
  | alloc t=>
    obtain ⟨v,w',E',hr,ha⟩:=Bi bQ h hf ef
    exact .inr (.value v w' (rO hop λ_=>Op.noConfusion) (hr o hop) (lD _ _ _ ha))
  | store t x v=>
    rcases C0 bQ h hn ef b with hc|⟨hd,w',hr,ha⟩
    .exact .inl hc
    exact .inr (.skip w' (rO hop λ_=>Op.noConfusion) (by simp only [execOp,hop]; simp [hr]) (lD _ _ _ ha))
  | buildSlice t n ps=>
    obtain ⟨v,w',E',hr,ha⟩:=LF bQ h hn hf ef
    exact .inr (.value v w' (rO hop λ_=>Op.noConfusion) (by simp only [execOp,hop]; exact b4 hr) (lD _ _ _ ha))
  | makeMap t r=>
    obtain ⟨rfl,E',ha⟩:=CC h hf ef
    exact .inr (.value _ _ (rO hop λ_=>Op.noConfusion) (by simp only [execOp,hop]; rfl) (lD _ _ _ ha))
  | makeSlice t l c=>
    obtain ⟨v,w',E',hr,ha⟩:=EP bQ h hn hf ef
    exact .inr (.value v w' (rO hop λ_=>Op.noConfusion) (by simp only [execOp,hop]; exact b4 hr) (lD _ _ _ ha))
  | mapUpdate t m k v=>
    obtain ⟨hd,w',hr,ha⟩:=EE bQ h hn ef b
    exact .inr (.skip w' (rO hop λ_=>Op.noConfusion) (by simp only [execOp,hop]; simp [hr]) (lD _ _ _ ha))
  | call c=>
    have ef:gG T lo hi b s c=some e:=ef
    unfold gG at ef
    split at ef
    .rename_i yL
     rcases Jl bQ h hn hf ef o.type with hc|⟨v,w',E',hr,ha⟩
     .exact .inl hc
     refine .inr (.value v w' (rO hop λ_=>Op.noConfusion) ?_ (lD _ _ _ ha))
     have qa:(List.map a.eval c.args.toList).toArray=c.args.map a.eval:=by apply Array.ext'; simp
     rw [qa] at hr
     have hts:c.argTypes.toList.toArray=c.argTypes:=rfl
     rw [hts] at hr
     simp only [execOp,hop,resolve,yL,Sem.run_bind,Sem.run_pure,Result.andThen_ok,invoke,builtin]
     simp [hr]
    .rename_i f yL
     exact Co hl h hn hf hop yL ef lD
    .simp at ef
  | _=>simp [gM] at ef
end
open Go.RowKit
def Fr (ρ:Option Nat):Fence:={ fn:=λ_=>True,depth:=none,alive:=false,round:=ρ }
section
variable {P:Program} {T:dL} {lo:Lo} {hi:Hint} {N:Nat} {ay:Nat->Prop} {w0:Kp} {sp:List (D×Value)} {s:VS} {a:Act} {w:World} {E:Env} {ρ:Option Nat}
theorem K3 (ρ:Option Nat) (m:Machine):m.fenced P (Fr ρ):=by
 intro g _
 refine ⟨λh=>?_,Or.inl trivial,λ_ _=>trivial,λ_ h=>?_⟩
 .cases h
 .cases h
theorem JK (ρ:Option Nat) (n:Nat):(Fr ρ).room n:=λd h=>by cases h
theorem xv {m m':Machine} (h:Steps P m m'):StepsIn (Machine.fenced P (Fr ρ)) P m m':=(StepsIn.of_steps h).mono λm _=>K3 ρ m
theorem Op1.wpIn {Y:Bool} {o:Oper} {next:Act->World->Prop} {Q:Exit->Act->World->Prop} (h:Op1 P Y o a w next):o.wpIn (Fr ρ) 0 P a w next Q:=by
 refine ⟨λ_ _=>trivial,?_⟩
 cases h with
 | value v w' hd hr hn=>rw [Oper.semAt_eq _ _ _ hd,hr]; exact hn
 | skip w' hd hr hn=>rw [Oper.semAt_eq _ _ _ hd,hr]; exact hn
 | enter f args w' hd hr hc=>
   rw [Oper.semAt_eq _ _ _ hd,hr]
   refine ⟨λq=>(by cases q),trivial,λcs _=>?_⟩
   obtain ⟨e,w2,fr,⟨v,rfl,hn⟩,hs,hf,hl⟩:=hc cs
   exact ⟨.returned v,w2,fr,hn,xv hs,hf,hl⟩
 | round hY l f tm as bd w' hd hr hc=>
   rw [Oper.semAt_eq _ _ _ hd,hr]
   refine ⟨λq=>(by cases q),trivial,λc cs _=>?_⟩
   obtain ⟨v,w2,hn,hs⟩:=hc c cs
   exact ⟨.returned v,w2,hn,xv hs⟩
end
open Go.RowKit
structure Sl (r:Nat) (cY:Nat->Prop) (ay:Nat->Prop) (s:VS) (E:Env):Prop where
 le:∀ b,cY b->AV ay s.rs E b
 noO:∀ b sz,cU E r b sz->¬ cY b
theorem Sl.no {r:Nat} {cY ay:Nat->Prop} {s:VS} {E:Env} (h:Sl r cY ay s E) (b sz:Nat) (h1:bq E r b sz):¬ cY b:=h.noO b sz h1.own
section
variable {P:Program} {T:dL} {lo:Lo} {hi:Hint} {N:Nat} {ay:Nat->Prop} {w0:Kp} {sp:List (D×Value)} {s:VS} {a:Act} {w:World} {E:Env} {ρ:Option Nat}
theorem I0 (h:R T N ay w0 sp s a w E) {r el sz n m:Nat} {l:List C} {is:List I} (hr:s.rs[r]?=some (.row el sz n l)) (hi:CY l=some is) {cY:Nat->Prop} (ha:Sl r cY ay s E) {v:Value}
  (hv:bg E (AV ay s.rs E) w (.sa r m) v):cX cY w (.sl sz m (flat sz is)) v:=by
 obtain ⟨e',ao,n',cap,h1,h2,h3,rfl⟩:=hv
 obtain ⟨q1,q2,xs,q3,q4⟩:=h.roots r _ _ hr h1
 have him:=ry hi
 subst him
 have hx:=wh q4
 have hxl:=hx.length
 rcases q3.2 with ⟨q5,q6⟩|⟨g,cap',cur,q5,q6,q7,q8,q9,q10,q11⟩
 .rw [h2] at q5
  simp only [dK] at q5
  obtain ⟨rfl,rfl,rfl⟩:=q5
  exact ⟨none,0,rfl,by omega,by omega,λh0=>by omega⟩
 .rw [h2] at q5
  simp only [dK] at q5
  obtain ⟨rfl,rfl,rfl⟩:=q5
  have ji:bq E r g e'.2.2:=by
   obtain ⟨e1,e2,e3⟩:=e'
   have h2:e2.1=_:=h2
   have q2:e1=e2.1.ownBlock:=q2
   rw [h2] at q2
   exact ⟨e2,by rw [h1,q2]; rfl⟩
  refine ⟨_,cap,rfl,by omega,by omega,λ_=>⟨_,rfl,rfl,ha.no g _ ji,(Array.getElem?_eq_some_iff.1 q7).1,λi jW j hj=>?_⟩⟩
  have dB:i*sz+j<n'*sz:=by
   have:=fU sz (show i+1<=n' by omega)
   rw [Nat.add_mul,Nat.one_mul] at this
   omega
  obtain ⟨x,h5,h6⟩:=po hx (q:=i*sz+j) (by rw [hxl,q3.1]; exact dB)
  refine ⟨x,?_,cX.mono (ba.refl _ w) (λb _ hb=>ha.le b hb) h6⟩
  rw [Addr.add_mid,cT q7]
  rw [<- q11,dx,if_pos dB] at h5
  simpa using h5
theorem aB.Ov {α β γ:Type} {f:α->β} {Ra:α->γ->Prop} {Rb:β->γ->Prop} (h:∀ x y,Ra x y->Rb (f x) y) {l:List α} {m:List γ} (k:aB Ra l m):aB Rb (l.map f) m:=by
 induction k with
 | nil=>exact .nil
 | cons q _ ih=>exact .cons (h _ _ q) ih
theorem Nt {sl:aK} (f:D->D):∀ {t:Tmp} {d:D} {c:e5},look (sl.map λx=>(x.1,f x.2.1,x.2.2)) t=some (d,c)->∃ d0,d=f d0/\look sl t=some (d0,c):=by
 induction sl with
 | nil=>intro t d c h; simp [look] at h
 | cons x sl ih=>
   intro t d c h
   obtain ⟨k,e,c0⟩:=x
   simp only [List.map_cons,look] at h ⊢
   split at h
   .rename_i hk
    simp only [ak,bw] at h
    obtain ⟨rfl,rfl⟩:=h
    exact ⟨e,rfl,by simp⟩
   .rename_i hk
    obtain ⟨d0,h1,h2⟩:=ih h
    exact ⟨d0,h1,h2⟩
theorem Mn {r sz:Nat} {get:Nat->Nat->I} {x:ag}:(K2 r sz get x).live->x.live:=by
 cases x<;>exact id
theorem kJ {r sz:Nat} {get:Nat->Nat->I} (hC:∀ cY,Sl r cY ay s E->∀ m v,bg E (AV ay s.rs E) w (.sa r m) v->cX cY w (.sl sz m get) v) {cY:Nat->Prop} (ha:Sl r cY ay s E) {x:C} {v:Value}
  (hv:bg E (AV ay s.rs E) w x v):bg E cY w (Ib r sz get x) v:=by
 unfold Ib
 split
 .rename_i q m
  cases hq:Nat.beq q r with
  | true=>
    have hq:=Nat.eq_of_beq_eq_true hq
    subst hq
    exact hC _ ha _ _ hv
  | false=>exact bg.mono (Env.le_refl E) (ba.refl _ w) (λb _ q=>ha.le b q) hv
 .exact bg.mono (Env.le_refl E) (ba.refl _ w) (λb _ q=>ha.le b q) hv
theorem LN {r sz:Nat} {get:Nat->Nat->I} (hC:∀ cY,Sl r cY ay s E->∀ m v,bg E (AV ay s.rs E) w (.sa r m) v->cX cY w (.sl sz m get) v) {cY:Nat->Prop} (ha:Sl r cY ay s E) {d:D} {v:Value}
  (hv:aZ E (AV ay s.rs E) w d v):aZ E cY w (Uq r sz get d) v:=by
 cases d with
 | c x=>exact kJ hC ha hv
 | a l=>obtain ⟨cs,h1,h2⟩:=hv; exact ⟨cs,h1,h2.Ov λ_ _ q=>kJ hC ha q⟩
 | t l=>
   obtain ⟨vs,h1,h2⟩:=hv
   refine ⟨vs,h1,h2.Ov ?_⟩
   rintro ⟨b,l⟩ y q
   cases b with
   | true=>obtain ⟨cs,q1,q2⟩:=q; exact ⟨cs,q1,q2.Ov λ_ _ q=>kJ hC ha q⟩
   | false=>obtain ⟨c,q1,q2⟩:=q; exact ⟨_,by simp [show l=[c] from q1],kJ hC ha q2⟩
theorem I9 (h:R T N ay w0 sp s a w E) {r el sz n m:Nat} {get:Nat->Nat->I} (hr:s.rs[r]?=some (.arr el sz n get)) {cY:Nat->Prop} (ha:Sl r cY ay s E) {v:Value}
  (hv:bg E (AV ay s.rs E) w (.sa r m) v):cX cY w (.sl sz m get) v:=by
 obtain ⟨e',ao,n',cap,h1,h2,h3,rfl⟩:=hv
 obtain ⟨q1,q2,xs,q3,q4⟩:=h.roots r _ _ hr h1
 rcases q3.2 with ⟨q5,q6⟩|⟨g,cap',cur,q5,q6,q7,q8,q9,q10,q11⟩
 .rw [h2] at q5
  simp only [dK] at q5
  obtain ⟨rfl,rfl,rfl⟩:=q5
  exact ⟨none,0,rfl,by omega,by omega,λh0=>by omega⟩
 .rw [h2] at q5
  simp only [dK] at q5
  obtain ⟨rfl,rfl,rfl⟩:=q5
  have ji:bq E r g e'.2.2:=by
   obtain ⟨e1,e2,e3⟩:=e'
   have h2:e2.1=_:=h2
   have q2:e1=e2.1.ownBlock:=q2
   rw [h2] at q2
   exact ⟨e2,by rw [h1,q2]; rfl⟩
  refine ⟨_,cap,rfl,by omega,by omega,λ_=>⟨_,rfl,rfl,ha.no g _ ji,(Array.getElem?_eq_some_iff.1 q7).1,λi jW j hj=>?_⟩⟩
  have dB:i*sz+j<n'*sz:=by
   have:=fU sz (show i+1<=n' by omega)
   rw [Nat.add_mul,Nat.one_mul] at this
   omega
  obtain ⟨x,h5,h6⟩:=q4 i (by omega) j hj
  refine ⟨x,?_,cX.mono (ba.refl _ w) (λb _ hb=>ha.le b hb) h6⟩
  rw [Addr.add_mid,cT q7]
  rw [<- q11,dx,if_pos dB] at h5
  simpa using h5
theorem Jm (h:R T N ay w0 sp s a w E) {r:Nat} {x0:ag} (hl:s.rs[r]?=some x0) (hx0:x0.live) {sz:Nat} {get:Nat->Nat->I}
  (hC:∀ cY,Sl r cY ay s E->∀ m v,bg E (AV ay s.rs E) w (.sa r m) v->cX cY w (.sl sz m get) v):R T N ay w0 sp (sK r sz get s) a w E/\(bM s.sl->bM (sK r sz get s).sl):=by
 unfold sK
 have key:∀ (q:Nat) (y:ag),(setAt (s.rs.map (K2 r sz get)) r .dead)[q]?=some y->y.live->q≠r/\∃ x,s.rs[q]?=some x/\y=K2 r sz get x/\x.live:=by
  intro q y h1 h2
  rw [aT,dI] at h1
  split at h1
  .rename_i hq
   split at h1
   .simp only [ak] at h1; subst h1; exact h2.elim
   .simp at h1
  .rename_i hq
   rw [List.getElem?_map] at h1
   cases hx:s.rs[q]? with
   | none=>rw [hx] at h1; simp at h1
   | some x=>
     rw [hx] at h1
     simp only [Option.map_some,ak] at h1
     subst h1
     exact ⟨λe=>hq e.symm,x,rfl,rfl,Mn h2⟩
 have hb:Sl r (AV ay (setAt (s.rs.map (K2 r sz get)) r .dead) E) ay s E:=by
  refine ⟨?_,?_⟩
  .rintro b (q|⟨q,y,z,h1,h2,h3⟩)
   .exact .inl q
   .obtain ⟨_,x,h4,_,h5⟩:=key q y h1 h2
    exact .inr ⟨q,x,z,h4,h5,h3⟩
  .rintro b z ji (q|⟨q,y,z',h1,h2,h3⟩)
   .have q1:=(h.cS r _ b z hl hx0 ji).1
    have q2:=h.outer b q
    exact q2.2 (q1.own q2.1)
   .obtain ⟨oZ,x,h4,_,h5⟩:=key q y h1 h2
    exact oZ (h.dD q r x _ b z' z h4 hl h5 hx0 h3 ji)
 refine ⟨⟨h.size,h.defers,λx hx=>aZ.mono (Env.le_refl E) (ba.refl _ w) (λb _ q=>hb.le b q) (h.spec x hx),h.below,by rw [aT]; simpa using h.len,h.outer,?_,?_,?_,?_,h.gn.mono (ba.refl _ w) (λb _ q=>hb.le b q)⟩,?_⟩
 .intro q y e h1 h2
  by_cases hlv:y.live
  .obtain ⟨oZ,x,h4,rfl,h5⟩:=key q y h1 hlv
   have hx:=h.roots q x e h4 h2
   cases x with
   | box l2=>
     obtain ⟨b,cs,Tc,p1,p2,p3,p4⟩:=hx
     exact ⟨b,cs,Tc,p1,by rw [p2]; simp,p3,p4.Ov λ_ _ q=>kJ hC hb q⟩
   | row el2 US n2 l2=>
     obtain ⟨p1,p2,xs,p3,p4⟩:=hx
     exact ⟨p1,p2,xs,p3,p4.Ov λ_ _ q=>kJ hC hb q⟩
   | dead=>trivial
   | arr el2 US n2 get=>exact aP.mono (x:=.arr el2 US n2 get) (Env.le_refl E) (ba.refl _ w) (λb _ q=>hb.le b q) (λ_ _ _=>rfl) hx
   | bt el2 US n2 get et=>exact aP.mono (x:=.bt el2 US n2 get et) (Env.le_refl E) (ba.refl _ w) (λb _ q=>hb.le b q) (λ_ _ _=>rfl) hx
   | own l2=>exact aP.mono (x:=.own l2) (Env.le_refl E) (ba.refl _ w) (λb _ q=>hb.le b q) (λ_ _ _=>rfl) hx
   | set l2=>exact hx
   | kA=>exact hx
   | loop f M sl ps as bd st fF=>exact aP.mono (x:=.loop f M sl ps as bd st fF) (Env.le_refl E) (ba.refl _ w) (λb _ q=>hb.le b q) (λ_ _ _=>rfl) hx
  .cases y with
   | dead=>trivial
   | _=>exact (hlv trivial).elim
 .intro q y b z h1 h2 h3
  obtain ⟨_,x,h4,_,h5⟩:=key q y h1 h2
  exact h.cS q x b z h4 h5 h3
 .intro q q' y y' b z z' h1 ku h2 gk h3 kL
  obtain ⟨_,x,h4,_,h5⟩:=key q y h1 h2
  obtain ⟨_,x',h4',_,h5'⟩:=key q' y' ku gk
  exact h.dD q q' x x' b z z' h4 h4' h5 h5' h3 kL
 .intro t d c hlk
  obtain ⟨d0,rfl,h1⟩:=Nt (Uq r sz get) hlk
  obtain ⟨p1,p2,p3⟩:=h.slots t d0 c h1
  exact ⟨p1,λq=>LN hC hb (p2 q),p3⟩
 .intro hn x hx
  obtain ⟨y,hy,rfl⟩:=List.mem_map.1 hx
  exact hn y hy
theorem R.freeze (h:R T N ay w0 sp s a w E) {r:Nat} {s':VS} (e:freeze r s=some s'):R T N ay w0 sp s' a w E/\(bM s.sl->bM s'.sl):=by
 unfold Go.V.freeze at e
 split at e
 .rename_i el sz n l hl
  rw [cd,bp] at hl
  unfold Kl at e
  split at e
  case h_2=>simp at e
  rename_i is hi
  simp only [ak] at e
  subst e
  exact Jm h hl trivial λcY ha m v hv=>I0 h hl hi ha hv
 .rename_i el sz n get hl
  rw [cd,bp] at hl
  simp only [ak] at e
  subst e
  exact Jm h hl trivial λcY ha m v hv=>I9 h hl ha hv
 .rename_i el sz n get hl
  rw [cd,bp] at hl
  simp only [ak] at e
  subst e
  exact Jm h hl trivial λcY ha m v hv=>by
   obtain ⟨e',ao,n',cap,h1,h2,h3,rfl⟩:=hv
   exact Nb (h.roots r _ _ hl h1) ha.le (λb hb=>ha.noO b e'.2.2 ⟨e',h1,rfl,hb⟩) h2 h3
 .simp only [ak] at e
  subst e
  exact ⟨h,id⟩
 .simp at e
theorem R.gK:∀ {l:List Nat} {s s':VS},R T N ay w0 sp s a w E->gK l s=some s'->R T N ay w0 sp s' a w E/\(bM s.sl->bM s'.sl)
 | [],s,s',h,e=>by
   have e:some s=some s':=e
   simp only [ak] at e; subst e; exact ⟨h,id⟩
 | r::l,s,s',h,e=>by
   have e:(match Go.V.freeze r s with
    | some s1=>Go.V.gK l s1
    | Option.none=>Option.none)=some s':=e
   split at e
   case h_2=>simp at e
   rename_i s1 h1
   obtain ⟨h2,h3⟩:=h.freeze h1
   obtain ⟨h4,h5⟩:=R.gK h2 e
   exact ⟨h4,λq=>h5 (h3 q)⟩
end
open Go.RowKit
section
variable {P:Program} {T:dL} {lo:Lo} {hi:Hint} {N:Nat} {ay:Nat->Prop} {w0:Kp} {sp:List (D×Value)} {s:VS} {a:Act} {w:World} {E:Env} {ρ:Option Nat}
theorem bM.free {sl:aK} (h:bM sl) (t:Tmp):free t sl=true:=by
 induction sl with
 | nil=>rfl
 | cons x sl ih=>
   have hx:=h x (eI ..)
   simp only [Go.V.free,hx,ie]
   exact ih λy hy=>h y (eV _ hy)
theorem qO (h:R T N ay w0 sp s a w E) (hn:bM s.sl) {dst:Option Tmp} {d:D} {s':VS} (e:rA N s dst d=some s') {v:Value} (hv:aZ E (AV ay s.rs E) w d v):R T N ay w0 sp s' (a.put dst v) w E/\bM s'.sl:=by
 unfold rA at e
 split at e
 .simp only [ak] at e; subst e; exact ⟨h,hn⟩
 .rename_i t
  obtain ⟨ht,e⟩:=Bool.au e
  simp only [ak] at e
  subst e
  refine ⟨h.put (g:=[]) ?_ (λ_=>hv) (λq=>(q (bJ.nil a)).elim),hn.cons _ _⟩
  simp only [E6,ht,hn.free t,ie]
theorem JW {b:Nat} {dst:Option Tmp} {e:cm} {s':VS} (hn:bM s.sl) (hs:qb N s dst e=some s') {v:Value} {w':World} {E':Env} (ha:iO T N ay w0 sp s a w E b e v w' E') (hd:dV e=none->dst=none) :
  R T N ay w0 sp s' (a.put dst v) w' E'/\bM s'.sl:=by
 obtain ⟨_,h1,h2⟩:=ha
 unfold qb at hs
 split at hs
 .exact qO h1 hn hs (h2 _ rfl)
 .rename_i d ws
  unfold KK at hs
  split at hs
  .exact qO h1 hn hs (h2 _ rfl)
  .simp only [ak] at hs
   subst hs
   rw [hd rfl]
   exact ⟨h1,hn⟩
 .exact qO h1 hn hs (h2 _ rfl)
 .simp at hs
theorem HD {rs:List ag} {f:FuncId} {ds:List D} {b:Nat} {e:cm} (ef:gf lo rs f ds b=some e):(∃ l,e=.cD l)∨dV e≠none:=by
 unfold gf at ef
 split at ef
 .simp only [ak] at ef; subst ef; exact .inr (by simp [dV])
 .rename_i d q el sz n l ho
  rcases mI ho with ⟨is,q',n',aJ,pF,cF,l',hi,hc,hq,hp,hd,hws⟩|⟨is,q',n',aJ,pF,cF,get',hi,hc,hq,hd,hws⟩
  case inr=>simp at hws
  subst hd
  cases Gb:fe l with
  | true=>rw [Gb] at ef; simp only [ak] at ef; subst ef; exact .inr (by simp [dV])
  | false=>
    rw [Gb] at ef
    rcases eU (show jk rs ds _=some e from ef) with hc'|⟨rfl,hc'⟩
    .exact .inl hc'
    .exact .inr (by simp [dV])
 .rename_i d q el sz n get ho
  rcases mI ho with ⟨is,q',n',aJ,pF,cF,l',hi,hc,hq,hp,hd,hws⟩|⟨is,q',n',aJ,pF,cF,get',hi,hc,hq,hd,hws⟩
  case inl=>simp at hws
  subst hd
  rcases eU (show jk rs ds _=some e from ef) with hc'|⟨rfl,hc'⟩
  .exact .inl hc'
  .exact .inr (by simp [dV])
 .simp at ef
theorem w7 {rs:List ag} {f:FuncId} {ds:List D} {e:cm} (ef:gR lo rs f ds=some e):(∃ l,e=.cD l)∨dV e≠none:=by
 unfold gR at ef
 split at ef
 case h_2=>simp at ef
 rename_i d hd
 cases hp:ir d with
 | true=>rw [hp] at ef; simp only [ak] at ef; subst ef; exact .inr (by simp [dV])
 | false=>
   rw [hp] at ef
   obtain ⟨h1,ef⟩:=Bool.au (show (Bool.rec none (jk rs ds (.val d)) (ki d):Option cm)=some e from ef)
   rcases eU ef with hc|⟨rfl,hc⟩
   .exact .inl hc
   .exact .inr (by simp [dV])
theorem Ga {rs:List ag} {f:FuncId} {ds:List D} {e:cm} (ef:tO lo rs f ds=some e):dV e≠none:=by
 unfold tO at ef
 split at ef
 .simp only [ak] at ef; subst ef; simp [dV]
 .simp at ef
theorem FU {b:Nat} {dst:Option Tmp} {op:Op} {e:cm} (ef:fO T lo hi b s dst op=some e):(∃ l,e=.cD l)∨dV e≠none∨dst=none:=by
 unfold fO at ef
 split at ef
 .simp only [ak] at ef; subst ef; exact .inr (.inl (by simp [dV]))
 .cases op with
  | box t x=>
    have ef:vI b s x=some e:=ef
    unfold vI at ef
    split at ef
    .split at ef
     .simp only [ak] at ef; subst ef; exact .inr (.inl (by simp [dV]))
     .simp at ef
    .simp at ef
  | alloc t=>
    have ef:lu T b t=some e:=ef
    unfold lu at ef
    split at ef
    .split at ef
     .simp only [ak] at ef; subst ef; exact .inr (.inl (by simp [dV]))
     .simp at ef
    .simp at ef
  | store t x v=>
    have ef:gU T s dst t x v=some e:=ef
    unfold gU at ef
    split at ef
    .simp at ef
    .exact .inr (.inr rfl)
  | mapUpdate t m k v=>
    have ef:mB T s dst t m k v=some e:=ef
    unfold mB at ef
    split at ef
    .simp at ef
    .exact .inr (.inr rfl)
  | makeMap t r=>
    have ef:ld T b t r=some e:=ef
    unfold ld at ef
    split at ef
    .simp only [ak] at ef; subst ef; exact .inr (.inl (by simp [dV]))
    .simp at ef
  | makeSlice t l c=>
    have ef:mW T b s t l c=some e:=ef
    unfold mW at ef
    split at ef
    case h_2=>simp at ef
    split at ef
    case h_2=>simp at ef
    split at ef
    case h_2=>simp at ef
    split at ef
    case h_2=>simp at ef
    split at ef
    case h_2=>simp at ef
    obtain ⟨_,ef⟩:=Bool.au ef
    obtain ⟨_,ef⟩:=Bool.au ef
    obtain ⟨_,ef⟩:=Bool.au ef
    simp only [ak] at ef; subst ef; exact .inr (.inl (by simp [dV]))
  | buildSlice t n ps=>
    have ef:MN T b s (rU hi dst) t n ps.toList=some e:=ef
    unfold MN at ef
    split at ef
    case h_2=>simp at ef
    split at ef
    case h_2=>simp at ef
    split at ef
    case h_2=>simp at ef
    split at ef
    case h_2=>simp at ef
    obtain ⟨_,ef⟩:=Bool.au ef
    simp only [ak] at ef; subst ef; exact .inr (.inl (by rcases jO (rU hi dst) b _ _ n _ with hc|⟨_,_,hc⟩|⟨_,hc⟩<;>rw [hc]<;>simp [dV]))
  | call c=>
    have ef:gG T lo hi b s c=some e:=ef
    unfold gG at ef
    split at ef
    .unfold oR at ef
     split at ef
     case h_2=>simp at ef
     replace ef:=(Bool.au ef).2
     split at ef
     case h_2=>simp at ef
     split at ef
     .rename_i e' he'
      subst ef
      have fin2:∀ {el sz k:Nat} {l':Nat->Nat->I} {zS:Nat} {c:C},qV el sz k l' zS b s.rs c=some e->dV e≠none:=by
       intro el sz k l' zS c q
       unfold qV at q
       split at q
       .replace q:=(Bool.au q).2
        simp only [ak] at q; subst q; simp [dV]
       .split at q
        .replace q:=(Bool.au q).2
         replace q:=(Bool.au q).2
         replace q:=(Bool.au q).2
         simp only [ak] at q; subst q; simp [dV]
        .simp at q
       .simp at q
      unfold pX at he'
      split at he'
      case h_2=>simp at he'
      split at he'
      case h_2=>simp at he'
      split at he'
      case h_2=>simp at he'
      simp only [ak] at he'
      unfold DA at he'
      split at he'
      .exact .inr (.inl (fin2 (Bool.au he').2))
      .unfold oP at he'
       split at he'
       .simp only [ak] at he'
        exact .inl ⟨_,he'.symm⟩
       .simp at he'
     unfold oW at ef
     have fin:∀ {el sz k:Nat} {l':List C} {zS:Nat} {c:C},Eb el sz k l' zS b s.rs c=some e->dV e≠none:=by
      intro el sz k l' zS c q
      unfold Eb at q
      split at q
      .split at q
       .simp only [ak] at q; subst q; simp [dV]
       .replace q:=(Bool.au q).2
        simp only [ak] at q; subst q; simp [dV]
      .split at q
       .replace q:=(Bool.au q).2
        replace q:=(Bool.au q).2
        simp only [ak] at q; subst q; simp [dV]
       .split at q
        .replace q:=(Bool.au q).2
         replace q:=(Bool.au q).2
         simp only [ak] at q; subst q; simp [dV]
        .simp at q
       .simp at q
      .simp at q
     split at ef
     case h_2=>simp at ef
     split at ef
     case h_2=>simp at ef
     split at ef
     case h_2=>simp at ef
     split at ef
     case h_2=>simp at ef
     split at ef
     .exact .inr (.inl (fin (Bool.au ef).2))
     .exact .inr (.inl (fin (Bool.au ef).2))
    .unfold ml at ef
     split at ef
     case h_2=>simp at ef
     split at ef
     .unfold D6 at ef
      split at ef
      .simp only [ak] at ef; subst ef; exact .inr (.inl (by simp [dV]))
      .simp at ef
     .split at ef
      case h_2=>simp at ef
      unfold oQ at ef
      split at ef
      .exact (w7 ef).imp id .inl
      .exact .inr (.inl (Ga ef))
      .exact (HD ef).imp id .inl
      .unfold SC at ef
       split at ef
       .replace ef:=(Bool.au ef).2
        simp only [ak] at ef; subst ef; exact .inr (.inl (by simp [dV]))
       .simp at ef
      .obtain ⟨is,cs,oH,L,_,_,_,_,rfl⟩:=kN ef
       exact .inr (.inl (by simp [dV]))
      .rename_i ds _ _ _ _ _ _ _ _ _
       revert ef
       generalize fk _=p
       intro ef
       cases p with
       | true=>exact (w7 ef).imp id .inl
       | false=>exact .inr (.inl (Ga ef))
    .simp at ef
  | _=>simp [gM] at ef
theorem xN {dst:Option Tmp} {l:List Nat} {s':VS}:qb N s dst (.cD l)≠some s':=by simp [qb]
theorem GD (bQ:dH P T) (hl:gP T P lo) (h:R T N ay w0 sp s a w E) (hn:bM s.sl) {o:Oper} {s':VS} (e:Ev T lo hi N s o.dst o.op=some s')
  {next:Act->World->Prop} (lD:∀ a' w' E',Kept E E'->R T N ay w0 sp s' a' w' E'->bM s'.sl->next a' w'):Op1 P true o a w next:=by
 have one:∀ {s:VS},R T N ay w0 sp s a w E->bM s.sl->∀ {ef:cm},fO T lo hi s.rs.length s o.dst o.op=some ef->qb N s o.dst ef=some s'->Op1 P true o a w next:=by
  intro s h hn ef h1 h2
  have hd:=FU h1
  rcases qK bQ hl h hn (.inr rfl) h1 (next:=next) (λv w' E' ha=>by
   obtain ⟨h3,h4⟩:=JW hn h2 ha (λq=>by
    rcases hd with ⟨l,rfl⟩|hd|hd
    .exact (xN h2).elim
    .exact (hd q).elim
    .exact hd)
   exact lD _ _ _ (Kept.KX ha.1 (Nat.le_of_eq h.len)) h3 h4) with ⟨l,rfl⟩|h3
  .exact (xN h2).elim
  .exact h3
 unfold Ev at e
 split at e
 .rename_i l _
  unfold OA at e
  split at e
  case h_2=>simp at e
  rename_i s1 hs1
  obtain ⟨h1,h2⟩:=h.gK hs1
  split at e
  case h_2=>simp at e
  rename_i ef hef
  exact one h1 (h2 hn) hef e
 .rename_i ef _ hef
  exact one h hn hef e
 .simp at e
theorem rf (h:R T N ay w0 sp s a w E) (hn:bM s.sl) {ops:Array Oper} {o:Oper} {b:Bool} (e:mY ops.toList s.sl o.guard=some b):Region.wanted o (yielded ops a.tmps)=b:=by
 unfold mY at e
 unfold Region.wanted
 split at e
 .rename_i hg
  simp only [ak] at e
  subst e
  rw [hg]
 .rename_i j want hg
  rw [hg]
  split at e
  case h_2=>simp at e
  rename_i p hp
  rw [cd,bp] at hp
  split at e
  case h_2=>simp at e
  rename_i t ht
  have hpo:ops[j]?=some p:=by simpa using hp
  unfold Jw at e
  split at e
  .rename_i hl
   have hl:=fM hn hl
   simp only [ak] at e
   subst e
   obtain ⟨hN,h1,h2⟩:=h.slots t _ _ hl
   obtain ⟨vs,hv,tu⟩:=h1 (bJ.nil a)
   have fo:t<a.tmps.size:=by rw [h.size]; exact hN
   have hv':a.tmps[t]?=some (a.tmps.getD t undef):=by simp [fo]
   have hy:yielded ops a.tmps j=none:=by
    unfold yielded
    rw [hpo]
    simp only [Option.bind_some,ht,hv',hv]
   simp [hy]
  .split at e
   case h_2=>simp at e
   rename_i x hx
   have hl:=fM hn (eW hx)
   simp only [ak] at e
   subst e
   obtain ⟨hN,h1,h2⟩:=h.slots t _ _ hl
   have hv:=(h1 (bJ.nil a)).1
   have fo:t<a.tmps.size:=by rw [h.size]; exact hN
   have hv':a.tmps[t]?=some (a.tmps.getD t undef):=by simp [fo]
   have hy:yielded ops a.tmps j=some x:=by
    unfold yielded
    rw [hpo]
    simp only [Option.bind_some,ht,hv',hv]
   simp only [hy]
   cases x<;>cases want<;>rfl
theorem A0 {E:Env} {av:Nat->Prop} {w:World}:aZ E av w (.t []) undef:=⟨#[],rfl,.nil⟩
theorem rF (bQ:dH P T) (hl:gP T P lo) {ops:Array Oper} {Q:Exit->Act->World->Prop} {sF:VS} {E0:Env} (hQ:∀ a' w' E',Kept E0 E'->R T N ay w0 sp sF a' w' E'->bM sF.sl->Q .normal a' w') :
  ∀ {l:List Oper} {s:VS} {a:Act} {w:World} {E:Env},Mz T lo hi N ops.toList l s=some sF->Kept E0 E->R T N ay w0 sp s a w E->bM s.sl->wpListIn (Fr ρ) 0 P ops Q l a w
 | [],s,a,w,E,e,hk,h,hn=>by
   have e:some s=some sF:=e
   simp only [ak] at e; subst e; exact hQ a w E hk h hn
 | o::l,s,a,w,E,e,hk,h,hn=>by
   have e:(match opF T lo hi N ops.toList s o with
    | some s'=>Mz T lo hi N ops.toList l s'
    | none=>none)=some sF:=e
   split at e
   case h_2=>simp at e
   rename_i s' hs
   unfold opF at hs
   unfold wpListIn
   split at hs
   .rename_i hw
    rw [if_pos (rf h hn hw)]
    exact (GD bQ hl h hn hs λa' w' E' kT h' za=>rF bQ hl hQ e (hk.trans kT) h' za).wpIn
   .rename_i hw
    rw [if_neg (by rw [rf h hn hw]; simp)]
    obtain ⟨h1,h2⟩:=qO h hn hs A0
    exact ⟨λ_ _=>trivial,rF bQ hl hQ e hk h1 h2⟩
   .simp at hs
end
section
variable {T:dL} {lo:Lo} {hi:Hint} {sl gb:aK} {rs aJ:List ag} {df Ed:List Nat}
theorem uC:∀ {l:List Operand},(∀ x∈l,cl sl x=cl gb x)->zD sl l=zD gb l
 | [],_=>rfl
 | x::l,h=>by
   have e1:=h x (eI ..)
   have e2:=uC (l:=l) λy hy=>h y (eV _ hy)
   show (match cl sl x with
    | some d=>match zD sl l with
      | some r=>some (d::r)
      | none=>none
    | none=>none)=_
   rw [e1,e2]; rfl
theorem xf {qT:List (Nat×Nat)}:∀ {ps:List (Nat×Operand)},(∀ p∈ps,cl sl p.2=cl gb p.2)->vo qT sl ps=vo qT gb ps
 | [],_=>rfl
 | p::ps,h=>by
   have e1:=h p (eI ..)
   have e2:=xf (qT:=qT) (ps:=ps) λy hy=>h y (eV _ hy)
   funext l
   show (match aV qT p.1 with
    | some o=>match cl sl p.2 with
      | some d=>match d.cells with
        | some cs=>(Bool.rec none (match put l o.1 cs with
          | some l'=>vo qT sl ps l'
          | none=>none) (Nat.beq cs.length o.2&&Nat.blt 0 o.2):Option (List C))
        | none=>none
      | none=>none
    | none=>none)=_
   rw [e1,e2]; rfl
theorem vw {sz:Nat}:∀ {ps:List (Nat×Operand)},(∀ p∈ps,cl sl p.2=cl gb p.2)->oU sz sl ps=oU sz gb ps
 | [],_=>rfl
 | p::ps,h=>by
   have e1:=h p (eI ..)
   have e2:=vw (sz:=sz) (ps:=ps) λy hy=>h y (eV _ hy)
   funext l
   show (match cl sl p.2 with
    | some d=>match d.cells with
      | some cs=>(Bool.rec none (match put l (p.1*sz) cs with
        | some l'=>oU sz sl ps l'
        | none=>none) (Nat.beq cs.length sz&&Nat.blt 0 sz):Option (List C))
      | none=>none
    | none=>none)=_
   rw [e1,e2]; rfl
theorem Mg {ts:List TypeId} {xs:List Operand} (h:∀ x∈xs,cl sl x=cl gb x):Nj T ⟨sl,rs,df⟩ ts xs=Nj T ⟨gb,rs,Ed⟩ ts xs:=by
 unfold Nj
 split
 .simp only [h _ (eI ..)]
 .rfl
theorem Mb {xs:List Operand} (h:∀ x∈xs,cl sl x=cl gb x):PS ⟨sl,rs,df⟩ xs=PS ⟨gb,rs,Ed⟩ xs:=by
 unfold PS
 split
 .simp only [h _ (eI ..),h _ (eV _ (eI ..))]
 .rfl
theorem Lu {xs:List Operand} (h:∀ x∈xs,cl sl x=cl gb x):O1 ⟨sl,rs,df⟩ xs=O1 ⟨gb,rs,Ed⟩ xs:=by
 unfold O1
 split
 .simp only [h _ (eI ..),h _ (eV _ (eI ..))]
 .rfl
theorem FZ {t:Nat} {x:Operand} {l m k:Option Operand} (h0:cl sl x=cl gb x) (hl:∀ y,l=some y->cl sl y=cl gb y) (h:∀ y,m=some y->cl sl y=cl gb y):lL T ⟨sl,rs,df⟩ t x l m k=lL T ⟨gb,rs,Ed⟩ t x l m k:=by
 unfold lL
 split
 .simp only [h0,h _ rfl]
 .simp only [h0,hl _ rfl]
 .rfl
theorem GX {op:Op} (h:∀ x∈op.operands.toList,cl sl x=cl gb x):fh T ⟨sl,rs,df⟩ op=fh T ⟨gb,rs,Ed⟩ op:=by
 cases op with
 | move x=>exact h x (by simp [Op.operands])
 | assign x=>exact h x (by simp [Op.operands])
 | pick c x y=>simp only [fh,Ah,h c (by simp [Op.operands]),h x (by simp [Op.operands]),h y (by simp [Op.operands])]
 | binOp o t x y t2=>simp only [fh,xS,ve,KA,h x (by simp [Op.operands]),h y (by simp [Op.operands])]
 | unOp o t x=>simp only [fh,unF,h x (by simp [Op.operands])]
 | nilCheck x=>simp only [fh,wG,h x (by simp [Op.operands])]
 | fieldAddr t x f=>simp only [fh,Db,h x (by simp [Op.operands])]
 | indexAddr t x i=>simp only [fh,nw,h x (by simp [Op.operands]),h i (by simp [Op.operands])]
 | load t x=>simp only [fh,lg,h x (by simp [Op.operands])]
 | extract x k=>simp only [fh,rZ,h x (by simp [Op.operands])]
 | build t ps=>
   simp only [fh,Dz]
   have e:∀ fs,vo fs sl ps.toList=vo fs gb ps.toList:=λfs=>xf λp hp=>h p.2 (by simp only [Op.operands,List.mem_map]; exact ⟨p,hp,rfl⟩)
   simp only [e]
 | makeFunc fn first eA=>
   have e:zD sl eA.toList=zD gb eA.toList:=uC λp hp=>h p (by simp only [Op.operands,Array.toList_append,List.mem_append]; exact .inr hp)
   simp only [fh,JP,e]
 | call c=>
   have e:∀ x∈c.args.toList,cl sl x=cl gb x:=λx hx=>h x (by simp only [Op.operands,Call.operands,Array.toList_append,List.mem_append]; exact .inr hx)
   simp only [fh,HP]
   split
   .rename_i b _
    unfold IX
    split
    .exact Mg e
    .exact Mb e
    .exact Lu e
    .rfl
   .rfl
 | lookup t x i ok=>simp only [fh,n9,fmF,h x (by simp [Op.operands]),h i (by simp [Op.operands])]
 | slice t x l m k=>exact FZ (h x (by simp [Op.operands])) (λy hy=>h y (by simp [Op.operands,hy])) λy hy=>h y (by simp [Op.operands,hy])
 | convert t t' x=>simp only [fh,SS,h x (by simp [Op.operands])]
 | _=>rfl
theorem Lj {b:Nat} {ts:List TypeId} {xs:List Operand} (h:∀ x∈xs,cl sl x=cl gb x):oR T b ⟨sl,rs,df⟩ ts xs=oR T b ⟨gb,rs,Ed⟩ ts xs:=by
 unfold oR
 split
 .simp only [h _ (eI ..),h _ (eV _ (eI ..))]
 .rfl
theorem H3 {b:Nat} {dst:Option Tmp} {op:Op} (h:∀ x∈op.operands.toList,cl sl x=cl gb x):gM T lo hi b ⟨sl,rs,df⟩ dst op=gM T lo hi b ⟨gb,rs,Ed⟩ dst op:=by
 cases op with
 | box t x=>simp only [gM,vI,h x (by simp [Op.operands])]
 | alloc t=>rfl
 | store t x v=>simp only [gM,gU,h x (by simp [Op.operands]),h v (by simp [Op.operands])]
 | buildSlice t n ps=>
   simp only [gM,MN]
   have e:∀ sz,oU sz sl ps.toList=oU sz gb ps.toList:=λsz=>vw λp hp=>h p.2 (by simp only [Op.operands,List.mem_map]; exact ⟨p,hp,rfl⟩)
   simp only [e]
 | call c=>
   have e:∀ x∈c.args.toList,cl sl x=cl gb x:=λx hx=>h x (by simp only [Op.operands,Call.operands,Array.toList_append,List.mem_append]; exact .inr hx)
   simp only [gM,gG]
   split
   .exact Lj e
   .rename_i f hf
    have e2:cl sl f=cl gb f:=h f (by simp only [Op.operands,Call.operands,hf]; simp)
    simp only [ml,e2,uC e]
   .rfl
 | makeMap t r=>rfl
 | makeSlice t l c=>simp only [gM,mW,h l (by simp [Op.operands]),h c (by simp [Op.operands])]
 | mapUpdate t m k v=>simp only [gM,mB,h m (by simp [Op.operands]),h k (by simp [Op.operands]),h v (by simp [Op.operands])]
 | _=>rfl
theorem ME {b:Nat} {dst:Option Tmp} {op:Op} (h:∀ x∈op.operands.toList,cl sl x=cl gb x):fO T lo hi b ⟨sl,rs,df⟩ dst op=fO T lo hi b ⟨gb,rs,Ed⟩ dst op:=by
 unfold fO
 rw [GX (Ed:=Ed) h,H3 (Ed:=Ed) h]
def pH (rs aJ:List ag):Prop:=∀ (q:Nat) (x:ag),aV rs q=some x->x.live->aV aJ q=some x
theorem pH.nth (h:pH rs aJ) {q:Nat} {x:ag} (e:Go.V.nth rs q=some x) (hx:x.live):Go.V.nth aJ q=some x:=by
 rw [<- cd]; exact h q x (by rw [cd]; exact e) hx
theorem T1 (hr:pH rs aJ) {c:C} {b:Bool} (e:Li rs c=some b):Li aJ c=some b:=by
 unfold Li at e ⊢
 split at e
 .exact e
 .split at e
  .rename_i hq; rw [hr _ _ hq trivial]; exact e
  .rename_i hq; rw [hr _ _ hq trivial]; exact e
  .rename_i hq; rw [hr _ _ hq trivial]; exact e
  .simp at e
 .simp at e
theorem NZ (hr:pH rs aJ) {op:BinOp} {t:Nat} {x:Operand} {d:D} (e:ve T ⟨sl,rs,df⟩ op t x=some d):ve T ⟨sl,aJ,df⟩ op t x=some d:=by
 unfold ve at e ⊢
 split at e
 case h_2=>simp at e
 rename_i h1
 split at e
 case h_2=>simp at e
 rename_i h2
 split at e
 case h_2=>simp at e
 rename_i h3
 have h3:=T1 hr h3
 simp only [h2,h3]
 exact e
theorem Lq (hr:pH rs aJ) {sz:Nat} {i:Int} {c:C} {d:D} (e:ri rs sz i c=some d):ri aJ sz i c=some d:=by
 unfold ri at e ⊢
 split at e
 .exact e
 .split at e
  .rename_i hq; rw [hr _ _ hq trivial]; exact e
  .rename_i hq; rw [hr _ _ hq trivial]; exact e
  .rename_i hq; rw [hr _ _ hq trivial]; exact e
  .simp at e
 .simp at e
theorem Nr (hr:pH rs aJ) {y:Ty} {c:C} {d:D} (e:sc T rs y c=some d):sc T aJ y c=some d:=by
 unfold sc at e ⊢
 split at e
 .rename_i r i j
  unfold zg at e ⊢
  split at e
  .rename_i hq; rw [hr _ _ hq trivial]; exact e
  .rename_i hq; rw [hr _ _ hq trivial]; exact e
  .rename_i hq; rw [hr _ _ hq trivial]; exact e
  .rename_i hq; rw [hr _ _ hq trivial]; exact e
  .simp at e
 .exact e
 .exact e
 .simp at e
theorem VG (hr:pH rs aJ) {c:C} {l:List Int} (e:Rg rs c=some l):Rg aJ c=some l:=by
 unfold Rg at e ⊢
 split at e
 .split at e
  .rename_i hq; rw [hr _ _ hq trivial]; exact e
  .simp at e
 .exact e
 .simp at e
theorem LX (hr:pH rs aJ) {c:C} {n:Int} {d:D} (e:nS rs c n=some d):nS aJ c n=some d:=by
 unfold nS at e ⊢
 split at e
 .exact e
 .split at e
  .rename_i hq; rw [hr _ _ hq trivial]; exact e
  .rename_i hq; rw [hr _ _ hq trivial]; exact e
  .rename_i hq; rw [hr _ _ hq trivial]; exact e
  .simp at e
 .exact e
 .simp at e
theorem O5 (hr:pH rs aJ) {op:Op} {d:D} (e:fh T ⟨sl,rs,df⟩ op=some d):fh T ⟨sl,aJ,df⟩ op=some d:=by
 cases op with
 | binOp o t x y t2=>
   have e:xS T ⟨sl,rs,df⟩ o t x y=some d:=e
   show xS T ⟨sl,aJ,df⟩ o t x y=some d
   unfold xS at e ⊢
   split at e
   .exact NZ hr e
   .exact e
 | indexAddr t x i=>
   have e:nw T ⟨sl,rs,df⟩ t x i=some d:=e
   show nw T ⟨sl,aJ,df⟩ t x i=some d
   unfold nw at e ⊢
   split at e
   .exact e
   .split at e
    case h_2=>simp at e
    split at e
    case h_2=>simp at e
    split at e
    case h_2=>simp at e
    rename_i h1 _ _ h2 _ _ h3
    simp only at h2 h3 ⊢
    simp only [h2,h3]
    exact Lq hr e
 | load t x=>
   have e:lg T ⟨sl,rs,df⟩ t x=some d:=e
   show lg T ⟨sl,aJ,df⟩ t x=some d
   unfold lg at e ⊢
   split at e
   case h_2=>simp at e
   split at e
   case h_2=>simp at e
   rename_i h1 _ _ h2
   simp only at h2 ⊢
   simp only [h2]
   exact Nr hr e
 | lookup t x i ok=>
   have e:n9 T ⟨sl,rs,df⟩ t x i ok=some d:=e
   show n9 T ⟨sl,aJ,df⟩ t x i ok=some d
   unfold n9 at e ⊢
   split at e
   .exact e
   .cases h0:Ld T t with
    | false=>rw [h0] at e; exact e
    | true=>
    rw [h0] at e
    simp only at e ⊢
    split at e
    case h_2=>simp at e
    rename_i h2 h3
    split at e
    case h_2=>simp at e
    rename_i h4
    have h4:=VG hr h4
    try simp only at h2 h3
    simp only [h4]
    exact e
 | slice t x l m k=>
   have e:lL T ⟨sl,rs,df⟩ t x l m k=some d:=e
   show lL T ⟨sl,aJ,df⟩ t x l m k=some d
   unfold lL at e ⊢
   split at e
   case h_3=>simp at e
   case h_2=>exact e
   split at e
   case h_2=>simp at e
   rename_i h1
   split at e
   case h_2=>simp at e
   rename_i h2 h3
   simp only at h2 h3 ⊢
   simp only [h2,h3]
   exact LX hr e
 | _=>exact e
end
end Go.V
