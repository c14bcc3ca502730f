/- A root in a place kept free; what the relation says of rows. -/
import Derived.Test.YtghfgcfabbbbbaaDoorP1
set_option linter.unusedSimpArgs false
set_option linter.unusedVariables false
namespace Go.V
open Go.RowKit
section
variable {P:Program} {T:dY} {N:Nat} {ay:Nat→Prop} {w0:Kp} {sp:List (D×Value)} {s:VS} {a:Act} {w:World} {E:Env}
theorem MX {E:Env} {b r k z:Nat} {e:fQ} (h:di (E.set b e) r k z):(r≠b∧di E r k z)∨(r=b∧e.has k):=by
 obtain ⟨hh,h,h2,h3⟩:=h
 rw [dP] at h
 split at h
 ·rename_i hq
  subst hq
  split at h
  ·simp only [aq] at h; subst h; exact .inr ⟨rfl,h3⟩
  ·simp at h
 ·rename_i hq; exact .inl ⟨fun e=>hq e.symm,hh,h,h2,h3⟩
theorem R.UK (h:R T N ay w0 sp s a w E) (n:Nat):R T N ay w0 sp { s with rs:=s.rs++List.replicate n .dead } a w (E++List.replicate n hole):=by
 have hE:=Env.eK E (List.replicate n hole)
 have key:∀ (r:Nat) (y:ah),(s.rs++List.replicate n .dead)[r]?=some y→y.live→s.rs[r]?=some y:=by
  intro r y h1 h2
  rcases Nat.lt_or_ge r s.rs.length with hr|hr
  ·rwa [dH hr] at h1
  ·rw [gC hr,List.getElem?_replicate] at h1
   split at h1
   ·simp only [aq] at h1; subst h1; exact h2.elim
   ·simp at h1
 have keyE:∀ (r b sz:Nat),di (E++List.replicate n hole) r b sz→di E r b sz:=by
  rintro r b sz ⟨hh,h1,h2⟩
  rcases Nat.lt_or_ge r E.length with hr|hr
  ·rw [dH hr] at h1; exact ⟨hh,h1,h2⟩
  ·rw [gC hr,List.getElem?_replicate] at h1
   split at h1
   ·simp only [aq] at h1
    subst h1
    exact (JG h2.2).elim
   ·simp at h1
 have eP:∀ b,b<w.heap.size→AV ay (s.rs++List.replicate n .dead) (E++List.replicate n hole) b→AV ay s.rs E b:=
  lM fun r y b sz h1 h2 h3 _=>.inr ⟨r,y,sz,key r y h1 h2,h2,keyE _ _ _ h3⟩
 refine h.wE hE (ba.refl _ w) h.below eP (by simp [h.len]) ?_ ?_ ?_
 ·intro r x e h1 h2
  rcases Nat.lt_or_ge r s.rs.length with hr|hr
  ·rw [dH hr] at h1
   rw [dH (by rw [h.len]; exact hr)] at h2
   exact aM.mono hE (ba.refl _ w) eP (fun _ _ _=>rfl) (h.roots r x e h1 h2)
  ·rw [gC hr,List.getElem?_replicate] at h1
   split at h1
   ·simp only [aq] at h1; subst h1; trivial
   ·simp at h1
 ·intro r x b sz h1 h2 h3
  exact h.dh r x b sz (key r x h1 h2) h2 (keyE _ _ _ h3)
 ·intro r r' x x' b sz cQ h1 kH h2 gU h3 lE
  exact h.dQ r r' x x' b sz cQ (key r x h1 h2) (key r' x' kH gU) h2 gU (keyE _ _ _ h3) (keyE _ _ _ lE)
theorem R.at (h:R T N ay w0 sp s a w E) {b:Nat} {dead:Option Nat} {x:ah} {e:fQ} {w':World} {row:Option Nat}
  (hb:s.rs[b]?=some .dead) (hE:E[b]?=some hole) (hg:w.grownBy w' row)
  (nk:∀ k,row=some k→∃ r y q,dead=some r∧s.rs[r]?=some y∧y.live∧bq E r k q)
  (jd:∀ k,e.1=some k→some k=row∨w.heap.size≤k) (dD:∀ k,e.1=some k→k<w'.heap.size)
  (hx:(∀ k,k<w.heap.size→AV ay ((kill dead s.rs).set b x) (E.set b e) k→AV ay s.rs E k)→(∀ k,AV ay ((kill dead s.rs).set b x) (E.set b e) k→AV ay s.rs E k∨e.has k)→ba (AV ay s.rs E) w w'→aM (E.set b e) (AV ay ((kill dead s.rs).set b x) (E.set b e)) w0.base w' e x)
  (sv:∀ k,e.2.1.2 k→(∃ r y q,dead=some r∧s.rs[r]?=some y∧y.live∧di E r k q)∨(w.heap.size≤k∧k<w'.heap.size):=by intro k hk; exact hk.elim) :
  R T N ay w0 sp { s with rs:=(kill dead s.rs).set b x } a w' (E.set b e)∧(∀ k,k<w.heap.size→AV ay ((kill dead s.rs).set b x) (E.set b e) k→AV ay s.rs E k)∧∀ k,AV ay ((kill dead s.rs).set b x) (E.set b e) k→AV ay s.rs E k∨e.has k:=by
 have hle:=h.size_le
 have hEle:=Env.yi e hE
 let fT:=kill dead s.rs
 have hlen1:fT.length=s.rs.length:=by
  simp only [fT]; cases dead<;>simp [kill]
 have hrow':∀ k,row=some k→w0.In k:=by
  intro k hk
  obtain ⟨r,y,q,_,h2,h3,h4⟩:=nk k hk
  exact (h.blk r y k q h2 h3 h4).1
 have old:∀ (q:Nat) (y:ah),fT[q]?=some y→y.live→s.rs[q]?=some y∧dead≠some q:=by
  intro q y h1 h2
  simp only [fT] at h1
  cases dead with
  | some r=>
    simp only [kill] at h1
    rw [dP] at h1
    split at h1
    ·rename_i hq
     subst hq
     split at h1
     ·cases h1; exact h2.elim
     ·simp at h1
    ·rename_i hq
     exact ⟨h1,fun e=>hq (by simpa using e)⟩
  | none=>exact ⟨h1,by simp⟩
 have hk:ba (AV ay s.rs E) w w':=⟨hg.size,fun k hk hn=>hg.block k hk fun e=>by
  obtain ⟨r,x,q,_,h2,h3,h4⟩:=nk k e.symm
  exact hn (.inr ⟨r,x,q,h2,h3,h4.own⟩)⟩
 have key:∀ (q:Nat) (y:ah) (k z:Nat),(fT.set b x)[q]?=some y→y.live→di (E.set b e) q k z→
   (s.rs[q]?=some y∧dead≠some q∧q≠b∧di E q k z)∨(q=b∧e.has k):=by
  intro q y k z h1 h2 h3
  rcases MX h3 with ⟨h4,h5⟩|h4
  ·rw [dP,if_neg (fun e=>h4 e.symm)] at h1
   obtain ⟨h6,h7⟩:=old q y h1 h2
   exact .inl ⟨h6,h7,h4,h5⟩
  ·exact .inr h4
 have eP:∀ k,k<w.heap.size→AV ay (fT.set b x) (E.set b e) k→AV ay s.rs E k:=by
  refine lM fun q y k z h1 h2 h3 h4=>?_
  rcases key q y k z h1 h2 h3 with ⟨h5,_,_,h6⟩|⟨_,h6⟩
  ·exact .inr ⟨q,y,z,h5,h2,h6⟩
  ·rcases h6 with h6|h6
   ·rcases jd k h6 with h7|h7
    ·obtain ⟨r,x,q,_,h8,h9,nN⟩:=nk k h7.symm
     exact .inr ⟨r,x,q,h8,h9,nN.own⟩
    ·omega
   ·rcases sv k h6 with ⟨r,x,q,_,h8,h9,nN⟩|h7
    ·exact .inr ⟨r,x,q,h8,h9,nN⟩
    ·omega
 have rO:∀ k,AV ay (fT.set b x) (E.set b e) k→AV ay s.rs E k∨e.has k:=by
  rintro k (q|⟨q,y,z,h1,h2,h3⟩)
  ·exact .inl (.inl q)
  ·rcases key q y k z h1 h2 h3 with ⟨h5,_,_,h6⟩|⟨_,h6⟩
   ·exact .inl (.inr ⟨q,y,z,h5,h2,h6⟩)
   ·exact .inr h6
 have hx:=hx eP rO hk
 have apart:∀ (q:Nat) (y:ah) (k z:Nat),s.rs[q]?=some y→y.live→dead≠some q→di E q k z→¬ e.has k∧row≠some k:=by
  intro q y k z h1 h2 h3 h4
  have hb:=h.dh q y k z h1 h2 h4
  have hr:row≠some k:=by
   intro e
   obtain ⟨r,x,q',h5,h6,h7,h8⟩:=nk k e
   have:=h.dQ q r y x k z q' h1 h6 h2 h7 h4 h8.own
   subst this
   exact h3 h5
  refine ⟨fun e=>?_,hr⟩
  rcases e with e|e
  ·rcases jd k e with h5|h5
   ·exact hr h5.symm
   ·omega
  ·rcases sv k e with ⟨r,x,q',h5,h6,h7,h8⟩|h7
   ·have:=h.dQ q r y x k z q' h1 h6 h2 h7 h4 h8
    subst this
    exact h3 h5
   ·omega
 refine ⟨h.wE (aG:=fT.set b x) hEle hk (h.below.grown hg.os hg.tape hg.output hg.size fun k kZ hn=>hg.block k kZ fun e=>hn (hrow' k e.symm)) eP (by simp [hlen1,h.len]) ?_ ?_ ?_,eP,rO⟩
 ·intro q y e' h1 h2
  by_cases hq:q=b
  ·subst hq
   have hlb:q<fT.length:=by rw [hlen1]; exact (List.getElem?_eq_some_iff.1 hb).1
   have hlE:q<E.length:=(List.getElem?_eq_some_iff.1 hE).1
   rw [dP,if_pos rfl,if_pos hlb] at h1
   rw [dP,if_pos rfl,if_pos hlE] at h2
   simp only [aq] at h1 h2
   subst h1 h2
   exact hx
  ·rw [dP,if_neg (fun e=>hq e.symm)] at h1 h2
   by_cases hl:y.live
   ·obtain ⟨h3,h4⟩:=old q y h1 hl
    refine aM.mono (av:=AV ay s.rs E) hEle hk eP (fun hl k kZ=>?_) (h.roots q y e' h3 h2)
    have jr:di E q k e'.2.2:=⟨e',h2,rfl,kZ⟩
    exact hg.block k (h.dh q y k _ h3 hl jr).2 fun e=>(apart q y k _ h3 hl h4 jr).2 e.symm
   ·cases y with
    | dead=>trivial
    | _=>exact (hl trivial).elim
 ·intro q y k z h1 h2 h3
  rcases key q y k z h1 h2 h3 with ⟨h5,_,_,h6⟩|⟨_,h6⟩
  ·have q7:=h.dh q y k z h5 h2 h6; have:=hg.size; exact ⟨q7.1,by omega⟩
  ·rcases h6 with h6|h6
   ·have:=dD k h6
    rcases jd k h6 with h7|h7
    ·exact ⟨hrow' k h7.symm,this⟩
    ·exact ⟨h.below.fresh h7,this⟩
   ·rcases sv k h6 with ⟨r,x,q',_,h8,h9,nN⟩|h7
    ·have q7:=h.dh r x k q' h8 h9 nN; have:=hg.size; exact ⟨q7.1,by omega⟩
    ·exact ⟨h.below.fresh h7.1,h7.2⟩
 ·intro q q' y y' k z z' h1 kH h2 gU h3 lE
  rcases key q y k z h1 h2 h3 with ⟨h5,h6,_,h7⟩|⟨h6,h7⟩<;>rcases key q' y' k z' kH gU lE with ⟨h5',h6',_,h7'⟩|⟨h6',h7'⟩
  ·exact h.dQ q q' y y' k z z' h5 h5' h2 gU h7 h7'
  ·exact ((apart q y k z h5 h2 h6 h7).1 h7').elim
  ·exact ((apart q' y' k z' h5' gU h6' h7').1 h7).elim
  ·omega
end
open Go.RowKit
theorem Bool.au {α:Type} {x:Option α} {b:Bool} {y:α} (h:(Bool.rec none x b:Option α)=some y):b=true∧x=some y:=by
 cases b with
 | false=>simp at h
 | true=>exact ⟨rfl,h⟩
def bN (sl:aN):Prop:=∀ x∈sl,x.2.2=[]
theorem bN.cons {sl:aN} (h:bN sl) (t:Tmp) (d:D):bN ((t,d,[])::sl):=fun x hx=>by
 cases hx with
 | head=>rfl
 | tail _ hx=>exact h x hx
theorem cl {α:Type}:∀ (l:List α) (i:Nat),aV l i=nth l i
 | [],_=>rfl
 | _::_,0=>rfl
 | _::l,i+1=>cl l i
theorem gK:∀ {sl:aN} {t:Tmp} {d:D},bN sl→fc sl t=some d→look sl t=some (d,[])
 | [],t,d,_,h=>by simp [fc] at h
 | x::sl,t,d,hn,h=>by
   have hs:bN sl:=fun y hy=>hn y (fe _ hy)
   obtain ⟨k,e,c⟩:=x
   have hc:c=[]:=hn _ (eS ..)
   subst hc
   simp only [look]
   have h:(Bool.rec (fc sl t) (some e) (Nat.beq k t):Option D)=some d:=h
   cases hk:Nat.beq k t with
   | true=>rw [hk] at h; simp only [aq] at h; subst h; rfl
   | false=>rw [hk] at h; exact gK hs h
section
variable {P:Program} {T:dY} {N:Nat} {ay:Nat→Prop} {w0:Kp} {sp:List (D×Value)} {s:VS} {a:Act} {w:World} {E:Env}
theorem dR (hn:bN s.sl) {x:Operand} {d:D} (e:cA s.sl x=some d):s.ev [] x=some d:=by
 cases x with
 | tmp t=>simp only [cA] at e; simp [VS.ev,gK hn e,sub]
 | const v=>exact e
 | func f=>exact e
 | global g=>exact e
theorem bK.nil (a:Act):bK a []:=fun p hp=>by cases hp
theorem R.cA (h:R T N ay w0 sp s a w E) (hn:bN s.sl) {x:Operand} {d:D} (e:cA s.sl x=some d):a7 E (AV ay s.rs E) w d (a.eval x):=
 h.ev (bK.nil a) (dR hn e)
theorem mJ (hn:bN s.sl):∀ {l:List Operand} {ds:List D},yL s.sl l=some ds→Fv s [] l=some ds
 | [],ds,e=>e
 | x::l,ds,e=>by
   have e:(match Go.V.cA s.sl x with
    | some d=>match yL s.sl l with
      | some r=>some (d::r)
      | none=>none
    | none=>none)=some ds:=e
   split at e
   ·rename_i d hd
    split at e
    ·rename_i r hr
     simp only [Fv,dR hn hd,mJ hn hr]
     exact e
    ·simp at e
   ·simp at e
theorem mV {d:Option D} {v:Value} (e:EZ d=some v):d=some (.c (.im (.v v))):=by
 unfold EZ at e
 split at e
 ·rename_i x
  unfold UN at e
  split at e
  ·rename_i i
   unfold UQ at e
   split at e
   ·simp only [aq] at e; subst e; rfl
   ·simp at e
  ·simp at e
 ·simp at e
theorem ew {d:Option D} {n:Int} (e:iH d=some n):d=some (int n):=by
 unfold iH at e
 split at e
 ·rename_i v hv
  unfold Hx at e
  split at e
  ·simp only [aq] at e; subst e; exact mV hv
  ·simp at e
 ·simp at e
theorem fi {d:Option D} {b:Bool} (e:ju d=some b):d=some (bool b):=by
 unfold ju at e
 split at e
 ·rename_i v hv
  unfold zp at e
  split at e
  ·simp only [aq] at e; subst e; exact mV hv
  ·simp at e
 ·simp at e
theorem cz {d:Option D} {c:C} (e:dE d=some c):d=some (.c c):=by
 unfold dE at e
 split at e
 ·simp only [aq] at e; subst e; rfl
 ·simp at e
theorem zo {d:Option D} {l:List C} (e:Se d=some l):d=some (.a l):=by
 unfold Se at e
 split at e
 ·simp only [aq] at e; subst e; rfl
 ·simp at e
theorem Kv {d:Option D} {l:List (Bool×List C)} (e:Xd d=some l):d=some (.t l):=by
 unfold Xd at e
 split at e
 ·simp only [aq] at e; subst e; rfl
 ·simp at e
def Looks (P:Program) (ay:Nat→Prop) (s:VS) (a:Act) (w:World) (E:Env) (o:Oper) (d:D):Prop:=
 ∃ v,(execOp a.eval o).run P w=.ok (.value v) w∧a7 E (AV ay s.rs E) w d v
theorem Looks.cY (bQ:dV P T) (h:R T N ay w0 sp s a w E) {o:Oper} {p:Option Prop} {d:D} (e:bm T s [] o.op=some (p,d)) (hp:need p):Looks P ay s a w E o d:=by
 obtain ⟨v,h1,h2⟩:=CE bQ h (bK.nil a) e hp
 exact ⟨v,h1 w (Below.refl _ _),h2⟩
theorem EU (h:R T N ay w0 sp s a w E) (hn:bN s.sl) {o:Oper} {c x y:Operand} (ho:o.op=.pick c x y) {d:D} (e:zH s c x y=some d):Looks P ay s a w E o d:=by
 unfold zH at e
 split at e
 case h_2=>simp at e
 rename_i b hb
 have hb:=fi hb
 split at e
 case h_2=>simp at e
 rename_i z hz
 simp only [aq] at e
 subst e
 have hb:=(h.cA hn hb).1
 cases b with
 | true=>
   have hz:ju (cA s.sl x)=some z:=hz
   have hx:=(h.cA hn (fi hz)).1
   exact ⟨.bool z,by simp [execOp,ho,hb,asBool,hx],rfl,rfl⟩
 | false=>
   have hz:ju (cA s.sl y)=some z:=hz
   have hx:=(h.cA hn (fi hz)).1
   exact ⟨.bool z,by simp [execOp,ho,hb,asBool,hx],rfl,rfl⟩
theorem FL (h:R T N ay w0 sp s a w E) {c:C} {v:Value} {b:Bool} (hc:bh E (AV ay s.rs E) w c v) (e:KB s.rs c=some b) :
  (b=true∧∃ n k,v=.slice none n k)∨(b=false∧∃ ad n k,v=.slice (some ad) n k):=by
 unfold KB at e
 split at e
 ·rename_i x
  unfold qW at e
  split at e
  ·obtain ⟨rfl,_⟩:=hc
   simp only [aq] at e
   exact .inl ⟨e.symm,_,_,rfl⟩
  ·obtain ⟨rfl,_⟩:=hc
   simp only [aq] at e
   exact .inr ⟨e.symm,_,_,_,rfl⟩
  ·rename_i sz n get
   simp only [aq] at e
   obtain ⟨ao,cap,rfl,_,_,h3⟩:=hc
   obtain ⟨ad,rfl,_⟩:=h3 (by omega)
   exact .inr ⟨e.symm,_,_,_,rfl⟩
  ·simp at e
 ·rename_i r m
  split at e
  case h_4=>simp at e
  ·rename_i el sz n l hl
   simp only [aq] at e
   rw [cl,bp] at hl
   obtain ⟨e',ao,n',cap,h1,h2,h3,rfl⟩:=hc
   obtain ⟨q1,q2,xs,⟨_,q3⟩,q4⟩:=h.roots r _ _ hl h1
   rcases q3 with ⟨q3,_⟩|⟨g',cap',cur,q3,_⟩
   ·rw [h2] at q3
    simp at q3
    omega
   ·rw [h2] at q3
    simp only [dT] at q3
    obtain ⟨rfl,_,_⟩:=q3
    exact .inr ⟨e.symm,_,_,_,rfl⟩
  ·rename_i el sz n l hl
   simp only [aq] at e
   rw [cl,bp] at hl
   obtain ⟨e',ao,n',cap,h1,h2,h3,rfl⟩:=hc
   obtain ⟨q1,q2,xs,⟨_,q3⟩,q4⟩:=h.roots r _ _ hl h1
   rcases q3 with ⟨q3,_⟩|⟨g',cap',cur,q3,_⟩
   ·rw [h2] at q3
    simp at q3
    omega
   ·rw [h2] at q3
    simp only [dT] at q3
    obtain ⟨rfl,_,_⟩:=q3
    exact .inr ⟨e.symm,_,_,_,rfl⟩
  ·rename_i el sz n get eG hl
   simp only [aq] at e
   rw [cl,bp] at hl
   obtain ⟨e',ao,n',cap,h1,h2,h3,rfl⟩:=hc
   obtain ⟨q1,q2,xs,⟨_,q3⟩,q4⟩:=h.roots r _ _ hl h1
   rcases q3 with ⟨q3,_⟩|⟨g',cap',cur,q3,_⟩
   ·rw [h2] at q3
    simp at q3
    omega
   ·rw [h2] at q3
    simp only [dT] at q3
    obtain ⟨rfl,_,_⟩:=q3
    exact .inr ⟨e.symm,_,_,_,rfl⟩
 ·simp at e
theorem SQ {t el:TypeId} (hu:P.underlying t=some (.slice el)) (b:Bool) {ao:Option Addr} {n k:Nat} (hb:ao.isNone=b) (x y:Operand) :
  (do eqGuard .eql t x y (.slice ao n k) (.slice none 0 0); binOp .eql t (.slice ao n k) (.slice none 0 0)).run P w=.ok (.bool b) w∧
  (do eqGuard .neq t x y (.slice ao n k) (.slice none 0 0); binOp .neq t (.slice ao n k) (.slice none 0 0)).run P w=.ok (.bool (!b)) w:=by
 have he:∀ d,(Op.equalIn (d+1) t (.slice ao n k) (.slice none 0 0)).run P w=.ok b w:=fun d=>by
  unfold Op.equalIn
  cases ao<;>simp [run_underlying hu,← hb]
 have h0:(Op.equal t (.slice ao n k) (.slice none 0 0)).run P w=.ok b w:=he 9999
 constructor
 ·show ((do eqGuard .eql t x y (.slice ao n k) (.slice none 0 0); (do pure (.bool (← Op.equal t (.slice ao n k) (.slice none 0 0)))):Sem Value)).run P w=_
  rw [Sem.run_bind]
  simp [eqGuard,h0]
 ·show ((do eqGuard .neq t x y (.slice ao n k) (.slice none 0 0); (do pure (.bool !(← Op.equal t (.slice ao n k) (.slice none 0 0)))):Sem Value)).run P w=_
  rw [Sem.run_bind]
  simp [eqGuard,h0]
theorem Ej (bQ:dV P T) (h:R T N ay w0 sp s a w E) (hn:bN s.sl) {o:Oper} {op:BinOp} {t t2:TypeId} {x y:Operand} (ho:o.op=.binOp op t x y t2) (hy:isNil y=true) {d:D} (e:uz T s op t x=some d):Looks P ay s a w E o d:=by
 have hy':y=.const (.slice none 0 0):=by
  unfold isNil at hy
  split at hy
  ·rfl
  ·simp at hy
 subst hy'
 unfold uz at e
 split at e
 case h_2=>simp at e
 rename_i xo wZ z0 el mX
 have hu:=(bQ.ty _ _ mX).slice rfl
 split at e
 case h_2=>simp at e
 rename_i c hc
 have hc:=h.cA hn (cz hc)
 split at e
 case h_2=>simp at e
 rename_i b hb
 have hv:∃ ao n k,a.eval x=.slice ao n k∧ao.isNone=b:=by
  rcases FL h hc hb with ⟨rfl,n,k,hv⟩|⟨rfl,ad,n,k,hv⟩
  ·exact ⟨none,n,k,hv,rfl⟩
  ·exact ⟨some ad,n,k,hv,rfl⟩
 obtain ⟨ao,n,k,hv,hb⟩:=hv
 have hr:=SQ (P:=P) (w:=w) hu b (n:=n) (k:=k) hb x (.const (.slice none 0 0))
 have hce:a.eval (.const (.slice none 0 0))=.slice none 0 0:=rfl
 split at e
 ·simp only [aq] at e
  subst e
  exact ⟨.bool b,by simp only [execOp,ho,hv,hce]; exact bX hr.1,rfl,rfl⟩
 ·simp only [aq] at e
  subst e
  exact ⟨.bool (!b),by simp only [execOp,ho,hv,hce]; exact bX hr.2,rfl,rfl⟩
 ·simp at e
theorem cW.ptr {P:Program} {t:TypeId} {y:Ty} (h:cW P t y) {e:Nat} (hk:y.kd=.ptr e):∃ e',P.underlying t=some (.pointer e'):=by
 have:=h.kd
 rw [hk] at this
 unfold wq at this
 split at this
 case h_1=>split at this<;>simp_all
 all_goals simp_all
theorem O9 {t e:TypeId} (hu:P.underlying t=some (.pointer e)) (b:Bool) {ao:Option Addr} (hb:ao.isNone=b) (x y:Operand) :
  (do eqGuard .eql t x y (.pointer ao) (.pointer none); binOp .eql t (.pointer ao) (.pointer none)).run P w=.ok (.bool b) w∧
  (do eqGuard .neq t x y (.pointer ao) (.pointer none); binOp .neq t (.pointer ao) (.pointer none)).run P w=.ok (.bool (!b)) w:=by
 have he:∀ d,(Op.equalIn (d+1) t (.pointer ao) (.pointer none)).run P w=.ok b w:=fun d=>by
  unfold Op.equalIn
  cases ao<;>simp [run_underlying hu,← hb]
 have h0:(Op.equal t (.pointer ao) (.pointer none)).run P w=.ok b w:=he 9999
 constructor
 ·show ((do eqGuard .eql t x y (.pointer ao) (.pointer none); (do pure (.bool (← Op.equal t (.pointer ao) (.pointer none)))):Sem Value)).run P w=_
  rw [Sem.run_bind]
  simp [eqGuard,h0]
 ·show ((do eqGuard .neq t x y (.pointer ao) (.pointer none); (do pure (.bool !(← Op.equal t (.pointer ao) (.pointer none)))):Sem Value)).run P w=_
  rw [Sem.run_bind]
  simp [eqGuard,h0]
theorem cW.func {P:Program} {t:TypeId} {y:Ty} (h:cW P t y) (hk:y.kd=.func):∃ a b c,P.underlying t=some (.func a b c):=by
 have:=h.kd
 rw [hk] at this
 unfold wq at this
 split at this
 case h_1=>split at this<;>simp_all
 all_goals simp_all
theorem OK {t:TypeId} (hu:∃ a b c,P.underlying t=some (.func a b c)) (b:Bool) {v:Value} (hv:(b=true∧v=.nilFunc)∨(b=false∧∃ f m vs,v=.func f m vs)) (x y:Operand) :
  (do eqGuard .eql t x y v .nilFunc; binOp .eql t v .nilFunc).run P w=.ok (.bool b) w∧
  (do eqGuard .neq t x y v .nilFunc; binOp .neq t v .nilFunc).run P w=.ok (.bool (!b)) w:=by
 obtain ⟨_,_,_,hu⟩:=hu
 have he:∀ d,(Op.equalIn (d+1) t v .nilFunc).run P w=.ok b w:=fun d=>by
  unfold Op.equalIn
  rcases hv with ⟨rfl,rfl⟩|⟨rfl,f,m,vs,rfl⟩<;>simp [run_underlying hu]
 have h0:(Op.equal t v .nilFunc).run P w=.ok b w:=he 9999
 rcases hv with ⟨_,rfl⟩|⟨_,f,m,vs,rfl⟩
 ·constructor
  ·show ((do eqGuard .eql t x y .nilFunc .nilFunc; (do pure (.bool (← Op.equal t .nilFunc .nilFunc))):Sem Value)).run P w=_
   rw [Sem.run_bind]
   simp [eqGuard,h0]
  ·show ((do eqGuard .neq t x y .nilFunc .nilFunc; (do pure (.bool !(← Op.equal t .nilFunc .nilFunc))):Sem Value)).run P w=_
   rw [Sem.run_bind]
   simp [eqGuard,h0]
 ·constructor
  ·show ((do eqGuard .eql t x y (.func f m vs) .nilFunc; (do pure (.bool (← Op.equal t (.func f m vs) .nilFunc))):Sem Value)).run P w=_
   rw [Sem.run_bind]
   simp [eqGuard,h0]
  ·show ((do eqGuard .neq t x y (.func f m vs) .nilFunc; (do pure (.bool !(← Op.equal t (.func f m vs) .nilFunc))):Sem Value)).run P w=_
   rw [Sem.run_bind]
   simp [eqGuard,h0]
theorem DI (bQ:dV P T) (h:R T N ay w0 sp s a w E) (hn:bN s.sl) {o:Oper} {op:BinOp} {t t2:TypeId} {x y:Operand} (ho:o.op=.binOp op t x y t2) {d:D} (e:JQ T s op t x y=some d):Looks P ay s a w E o d:=by
 unfold JQ at e
 split at e
 case h_2=>simp at e
 rename_i ty mX
 have mX:=bQ.ty _ _ mX
 split at e
 case h_2=>simp at e
 rename_i c hc
 have hc:=h.cA hn (cz hc)
 split at e
 case h_2=>simp at e
 rename_i b hb
 unfold YU at hb
 split at hb
 ·split at hb
  case h_2=>simp at hb
  rename_i el hk
  obtain ⟨e',hu⟩:=mX.ptr hk
  have hv:∃ ao,a.eval x=.pointer ao∧ao.isNone=b:=by
   unfold ae5 at hb
   split at hb
   ·simp only [aq] at hb
    obtain ⟨_,_,_,q⟩:=hc
    exact ⟨_,q,by rw [← hb]; rfl⟩
   ·simp only [aq] at hb
    obtain ⟨_,q,_⟩:=hc
    exact ⟨_,q,by rw [← hb]; rfl⟩
   ·simp only [aq] at hb
    obtain ⟨q,_⟩:=hc
    exact ⟨_,q,by rw [← hb]; rfl⟩
   ·simp at hb
  obtain ⟨ao,hv,hb⟩:=hv
  have hr:=O9 (P:=P) (w:=w) hu b hb x (.const (.pointer none))
  have hce:a.eval (.const (.pointer none))=.pointer none:=rfl
  split at e
  ·simp only [aq] at e
   subst e
   exact ⟨.bool b,by simp only [execOp,ho,hv,hce]; exact bX hr.1,rfl,rfl⟩
  ·simp only [aq] at e
   subst e
   exact ⟨.bool (!b),by simp only [execOp,ho,hv,hce]; exact bX hr.2,rfl,rfl⟩
  ·simp at e
 ·split at hb
  case h_2=>simp at hb
  rename_i hk
  have hu:=mX.func hk
  have hv:(b=true∧a.eval x=.nilFunc)∨(b=false∧∃ f m vs,a.eval x=.func f m vs):=by
   unfold UZ at hb
   split at hb
   ·simp only [aq] at hb
    obtain ⟨vs,q,_⟩:=hc
    exact .inr ⟨hb.symm,_,_,_,q⟩
   ·simp only [aq] at hb
    obtain ⟨vs,q,_⟩:=hc
    exact .inr ⟨hb.symm,_,_,_,q⟩
   ·simp only [aq] at hb
    obtain ⟨q,_⟩:=hc
    exact .inl ⟨hb.symm,q⟩
   ·simp at hb
  have hr:=OK (P:=P) (w:=w) hu b hv x (.const .nilFunc)
  have hce:a.eval (.const .nilFunc)=.nilFunc:=rfl
  split at e
  ·simp only [aq] at e
   subst e
   exact ⟨.bool b,by simp only [execOp,ho,hce]; exact bX hr.1,rfl,rfl⟩
  ·simp only [aq] at e
   subst e
   exact ⟨.bool (!b),by simp only [execOp,ho,hce]; exact bX hr.2,rfl,rfl⟩
  ·simp at e
 ·simp at hb
theorem D2 {b:Int} (h:geB b=true):0≤b:=by
 cases b with
 | ofNat k=>exact Int.natCast_nonneg k
 | negSucc k=>simp [geB] at h
theorem KP {op:BinOp} {a b:Int} {z:Value} (e:uM op a b=some z):CN op (.int .i64 a) (.int .i64 b)=some z∨(CN op (.int .i64 a) (.int .i64 b)=none∧∃ p,yD op (.int .i64 a) (.int .i64 b)=some (p,z)∧p):=by
 cases op
 case quo=>
  right
  refine ⟨rfl,b≠0,?_,?_⟩<;>(simp only [uM] at e; cases hb:b==0<;>rw [hb] at e<;>simp_all [yD])
 case rem=>
  right
  refine ⟨rfl,b≠0,?_,?_⟩<;>(simp only [uM] at e; cases hb:b==0<;>rw [hb] at e<;>simp_all [yD])
 case shl=>
  right
  simp only [uM] at e
  obtain ⟨h1,e⟩:=Bool.au e
  exact ⟨rfl,0≤b,by simp only [yD,aq] at e ⊢; rw [e],D2 h1⟩
 case shr=>
  right
  simp only [uM] at e
  obtain ⟨h1,e⟩:=Bool.au e
  exact ⟨rfl,0≤b,by simp only [yD,aq] at e ⊢; rw [e],D2 h1⟩
 case and=>left; exact e
 case andNot=>left; exact e
 all_goals first|(simp [uM] at e; done)|(left; simpa [uM,CN] using e)
theorem zZ {v:Value} {n:Int} (e:Hx v=some n):v=.int .i64 n:=by
 unfold Hx at e
 split at e
 ·simp only [aq] at e; subst e; rfl
 ·simp at e
theorem v7 {v:Value} {b:Bool} (e:zp v=some b):v=.bool b:=by
 unfold zp at e
 split at e
 ·simp only [aq] at e; subst e; rfl
 ·simp at e
theorem Ia (bQ:dV P T) (h:R T N ay w0 sp s a w E) (hn:bN s.sl) {o:Oper} {op:BinOp} {t t2:TypeId} {x y:Operand} (ho:o.op=.binOp op t x y t2) {d:D} (e:vP T s op t x y=some d):Looks P ay s a w E o d:=by
 unfold vP at e
 split at e
 ·rename_i hy; exact Ej bQ h hn ho hy e
 split at e
 ·exact DI bQ h hn ho e
 rename_i hy
 split at e
 ·rename_i u v hu hv
  have hu:=dR hn (mV hu)
  have hv:=dR hn (mV hv)
  split at e
  case h_2=>simp at e
  rename_i z hz
  simp only [aq] at e
  subst e
  unfold Hp at hz
  split at hz
  ·rename_i n m xY hm'
   have xY:=zZ xY
   have hm':=zZ hm'
   subst xY hm'
   rcases KP hz with hz|⟨hz,p,hz2,hp⟩
   ·exact Looks.cY (p:=none) bQ h (by simp only [ho,bm,hu,hv,hz]) trivial
   ·exact Looks.cY (p:=some p) bQ h (by simp only [ho,bm,hu,hv,hz,hz2]) hp
  ·split at hz
   ·rename_i b c hb hc
    have hb:=v7 hb
    have hc:=v7 hc
    subst hb hc
    unfold ae3 at hz
    split at hz
    case h_2=>simp at hz
    rename_i xo wZ z0 mX
    split at hz
    ·simp only [aq] at hz; subst hz
     exact Looks.cY (p:=none) bQ h (by simp only [ho,bm,hu,hv,mX]) trivial
    ·simp only [aq] at hz; subst hz
     exact Looks.cY (p:=none) bQ h (by simp only [ho,bm,hu,hv,mX]) trivial
    ·simp at hz
   ·rename_i hnb
    refine Looks.cY (p:=none) bQ h ?_ trivial
    simp only [ho,bm,hu,hv]
    split
    ·rename_i b c hb hc
     simp only [aq,D.c.injEq,C.im.injEq,I.v.injEq] at hb hc
     subst hb hc
     exact (hnb _ _ rfl rfl).elim
    ·rename_i u' v' _ hb hc
     simp only [aq,D.c.injEq,C.im.injEq,I.v.injEq] at hb hc
     subst hb hc
     simp only [hz]
    ·rename_i hb hc; simp at hb
    ·rename_i hb hc _; exact (hc _ _ rfl rfl).elim
 ·split at e
  case h_2=>simp at e
  rename_i l m hl hm
  have hl:=dR hn (zo hl)
  have hm:=dR hn (zo hm)
  unfold eqF at e
  split at e
  case h_2=>simp at e
  rename_i ks hks
  split at e
  case h_2=>simp at e
  rename_i b hb
  split at e
  ·simp only [aq] at e; subst e
   exact Looks.cY (p:=none) bQ h (by simp only [ho,bm,hl,hm,hks,hb]) trivial
  ·simp only [aq] at e; subst e
   exact Looks.cY (p:=none) bQ h (by simp only [ho,bm,hl,hm,hks,hb]) trivial
  ·simp at e
theorem Lc (bQ:dV P T) (h:R T N ay w0 sp s a w E) (hn:bN s.sl) {o:Oper} {op:UnOp} {t:TypeId} {x:Operand} (ho:o.op=.unOp op t x) {d:D} (e:unF s op x=some d):Looks P ay s a w E o d:=by
 unfold unF at e
 split at e
 ·split at e
  case h_2=>simp at e
  rename_i b hb
  simp only [aq] at e; subst e
  exact Looks.cY (p:=none) bQ h (by simp only [ho,bm,dR hn (fi hb)]) trivial
 ·split at e
  case h_2=>simp at e
  rename_i b hb
  simp only [aq] at e; subst e
  exact Looks.cY (p:=none) bQ h (by simp only [ho,bm,dR hn (ew hb)]) trivial
 ·simp at e
theorem yT (bQ:dV P T) (h:R T N ay w0 sp s a w E) (hn:bN s.sl) {o:Oper} {x:Operand} (ho:o.op=.nilCheck x) {d:D} (e:vB s x=some d):Looks P ay s a w E o d:=by
 unfold vB at e
 split at e
 case h_2=>simp at e
 rename_i c hc
 have hc:=dR hn (cz hc)
 split at e<;>first|(simp at e; done)|(simp only [aq] at e; subst e; exact Looks.cY (p:=none) bQ h (by simp only [ho,bm,hc]) trivial)
theorem Cv (bQ:dV P T) (h:R T N ay w0 sp s a w E) (hn:bN s.sl) {o:Oper} {t:TypeId} {x:Operand} {f:Nat} (ho:o.op=.fieldAddr t x f) {d:D} (e:BF T s t x f=some d):Looks P ay s a w E o d:=by
 unfold BF at e
 split at e
 case h_2=>simp at e
 rename_i xo wZ z0 fs hy
 split at e
 case h_2=>simp at e
 rename_i p hp
 rw [cl] at hp
 obtain ⟨o1,sz⟩:=p
 split at e
 case h_2=>simp at e
 rename_i c hc
 have hc:=dR hn (cz hc)
 obtain ⟨fU,e⟩:=Bool.au e
 unfold NH at e
 split at e
 ·simp only [aq] at e; subst e
  exact Looks.cY (p:=none) bQ h (by simp only [ho,bm,hy,hp,fU,hc]) trivial
 ·obtain ⟨hle,e⟩:=Bool.au e
  simp only [aq] at e; subst e
  exact Looks.cY (p:=none) bQ h (by simp only [ho,bm,hy,hp,fU,hc,hle]) trivial
 ·simp at e
theorem ox {i:Int} {n:Nat} (h:cd i n=true):0≤i∧i<(n:Int):=by
 unfold cd at h
 split at h
 ·have:=aK h; exact ⟨Int.natCast_nonneg _,Int.ofNat_lt.2 this⟩
 ·simp at h
theorem vY {i:Int} {n:Nat} (h:HH i n=true):0≤i∧i≤(n:Int):=by
 unfold HH at h
 split at h
 ·have:=eI h; exact ⟨Int.natCast_nonneg _,Int.ofNat_le.2 this⟩
 ·simp at h
theorem qF {t:Nat} {y:Ty} (e:sE T t=some y):∃ xo wZ z0 el,T.ty t=some ⟨xo,wZ,z0,.slice el⟩∧T.ty el=some y:=by
 unfold sE at e
 split at e
 ·rename_i xo wZ z0 el hy; exact ⟨xo,wZ,z0,el,hy,e⟩
 ·simp at e
theorem cW.array {P:Program} {t:TypeId} {y:Ty} (h:cW P t y) {n e:Nat} (hk:y.kd=.array n e):P.underlying t=some (.array n e):=by
 have:=h.kd
 rw [hk] at this
 unfold wq at this
 split at this<;>(try split at this)<;>simp_all
theorem za {t:Nat} {n:Nat} {y:Ty} (e:KK T t=some (n,y)):∃ xo wZ z0 el,T.ty t=some ⟨xo,wZ,z0,.array n el⟩∧T.ty el=some y:=by
 unfold KK at e
 split at e
 ·rename_i xo wZ z0 n' el hy
  split at e
  ·rename_i y' hy'
   simp only [aq,bs] at e
   obtain ⟨rfl,rfl⟩:=e
   exact ⟨xo,wZ,z0,el,hy,hy'⟩
  ·simp at e
 ·simp at e
theorem Co (bQ:dV P T) (h:R T N ay w0 sp s a w E) (hn:bN s.sl) {o:Oper} {t:TypeId} {x ix:Operand} (ho:o.op=.indexAddr t x ix) {n:Nat} {y:Ty} (hy:KK T t=some (n,y)) {i:Int} (hi:iH (cA s.sl ix)=some i) {c:C} (hc:dE (cA s.sl x)=some c) {d:D} (e:A3 n y.size i c=some d):Looks P ay s a w E o d:=by
 obtain ⟨xo,wZ,z0,el,hy1,hy2⟩:=za hy
 have hu:=(bQ.ty _ _ hy1).array rfl
 have hye:=bQ.ty _ _ hy2
 replace hi:=(h.cA hn (ew hi)).1
 replace hc:=h.cA hn (cz hc)
 unfold A3 at e
 split at e
 ·rename_i r k j
  obtain ⟨h1,e⟩:=Bool.au e
  simp only [aq] at e
  subst e
  obtain ⟨h2,h3⟩:=ox h1
  obtain ⟨b,sz,jr,hv⟩:=hc
  refine ⟨.pointer (some ((⟨b,k*sz+j,none⟩:Addr).add (i.toNat*y.size))),?_,b,sz,jr,?_⟩
  ·simp only [execOp,ho,hv,hi]
   refine bX ?_
   simp [Instr.indexAt,run_underlying hu,asIntOf,Instr.sureAddr,h2,h3,run_sizeOf hye.sz]
  ·rw [Addr.add_mid]
   simp only [Value.pointer.injEq,aq,Addr.mk.injEq,and_true,true_and]
   omega
 ·simp at e
theorem Bt (bQ:dV P T) (h:R T N ay w0 sp s a w E) (hn:bN s.sl) {o:Oper} {t:TypeId} {x ix:Operand} (ho:o.op=.indexAddr t x ix) {n:Nat} {y:Ty} (hy:KK T t=some (n,y)) {i:Int} (hi:iH (cA s.sl ix)=some i) {c:C} (hc:dE (cA s.sl x)=some c) {d:D} (e:wK T n y.size i c=some d):Looks P ay s a w E o d:=by
 unfold wK at e
 split at e
 case h_2=>exact Co bQ h hn ho hy hi hc e
 rename_i q
 obtain ⟨xo,wZ,z0,el,hy1,hy2⟩:=za hy
 have hu:=(bQ.ty _ _ hy1).array rfl
 have hye:=bQ.ty _ _ hy2
 replace hi:=(h.cA hn (ew hi)).1
 replace hc:=h.cA hn (cz hc)
 unfold HB at e
 split at e
 case h_2=>simp at e
 rename_i g hg
 obtain ⟨h0,e⟩:=Bool.au e
 obtain ⟨h1,e⟩:=Bool.au e
 simp only [aq] at e
 subst e
 have h0:=bL h0
 obtain ⟨h2,h3⟩:=ox h1
 obtain ⟨ad,g1,g2,g3,g4,g5⟩:=h.gM q g hg
 simp only [Value.pointer.injEq,aq] at g1
 subst g1
 have hv:a.eval x=.pointer (some ⟨q,0,none⟩):=hc
 have dD:i.toNat*y.size+y.size≤n*y.size:=by
  have:i.toNat+1≤n:=by omega
  have:=gr y.size this
  rw [Nat.add_mul,Nat.one_mul] at this
  exact this
 refine ⟨.pointer (some ((⟨q,0,none⟩:Addr).add (i.toNat*y.size))),?_,_,rfl,?_,?_,?_,fun j hj=>?_⟩
 ·simp only [execOp,ho,hv,hi]
  refine bX ?_
  simp [Instr.indexAt,run_underlying hu,asIntOf,Instr.sureAddr,h2,h3,run_sizeOf hye.sz]
 ·rw [Addr.add_mid]
 ·rw [Addr.add_mid]; exact g3
 ·rw [Addr.add_mid]; exact g4
 ·obtain ⟨z,q1,q2⟩:=g5 (i.toNat*y.size+j) (by rw [← h0]; omega)
  refine ⟨z,?_,q2⟩
  rw [Addr.add_mid] at q1 ⊢
  rw [Addr.add_mid]
  simpa [Nat.add_assoc] using q1
theorem BJ (bQ:dV P T) (h:R T N ay w0 sp s a w E) (hn:bN s.sl) {o:Oper} {t:TypeId} {x ix:Operand} (ho:o.op=.indexAddr t x ix) {d:D} (e:nG T s t x ix=some d):Looks P ay s a w E o d:=by
 unfold nG at e
 split at e
 ·rename_i a' ha
  obtain ⟨n,y⟩:=a'
  split at e
  case h_2=>simp at e
  rename_i i hi
  split at e
  case h_2=>simp at e
  rename_i c hc
  exact Bt bQ h hn ho ha hi hc e
 split at e
 case h_2=>simp at e
 rename_i y hy
 obtain ⟨xo,wZ,z0,el,hy1,hy2⟩:=qF hy
 split at e
 case h_2=>simp at e
 rename_i i hi
 have hi:=dR hn (ew hi)
 split at e
 case h_2=>simp at e
 rename_i c hc
 have hc:=dR hn (cz hc)
 unfold qz at e
 split at e
 ·obtain ⟨h1,e⟩:=Bool.au e
  obtain ⟨h2,e⟩:=Bool.au e
  simp only [aq] at e; subst e
  refine Looks.cY (p:=some _) bQ h (by simp only [ho,bm,hy1,hy2,hi,hc,h1]) (ox h2)
 ·split at e
  case h_4=>simp at e
  all_goals
   rename_i hl
   rw [cl] at hl
   obtain ⟨h1,e⟩:=Bool.au e
   obtain ⟨h2,e⟩:=Bool.au e
   simp only [aq] at e; subst e
   refine Looks.cY (p:=some _) bQ h (by simp only [ho,bm,hy1,hy2,hi,hc,hl,h1]) (ox h2)
 ·simp at e
theorem rh (hn:bN s.sl) {t:TypeId} {x:Operand} {d:D} (e:kN T s t x=some d):∃ p,bm T s [] (.load t x)=some (p,d)∧need p:=by
 unfold kN at e
 split at e
 case h_2=>simp at e
 rename_i y hy
 split at e
 case h_2=>simp at e
 rename_i c hc
 have hc:=dR hn (cz hc)
 have box:∀ {l:List C} {j:Nat},sA y l j=some d→(match y.kd.agg with
   | true=>match takeN y.size (wj j l) with
     | some cs=>some (none,D.a cs)
     | none=>none
   | false=>match nth l j with
     | some c=>some (none,.c c)
     | none=>none)=some ((none:Option Prop),d):=by
  intro l j e
  unfold sA at e
  split at e
  ·rename_i hagg
   split at e
   case h_2=>simp at e
   rename_i cs hcs
   simp only [aq] at e; subst e
   simp only [hagg,hcs]
  ·rename_i hagg
   split at e
   case h_2=>simp at e
   rename_i cs hcs
   rw [cl] at hcs
   simp only [aq] at e; subst e
   simp only [hagg,hcs]
 unfold rU at e
 split at e
 ·rename_i r i j
  unfold xS at e
  split at e
  ·rename_i l hl
   rw [cl] at hl
   split at e
   ·simp only [bm,hy,hc,hl]
    exact ⟨_,box e,trivial⟩
   ·simp at e
  ·rename_i sz n l hl
   rw [cl] at hl
   simp only [bm,hy,hc,hl]
   exact ⟨_,box e,trivial⟩
  ·rename_i el sz n get hl
   rw [cl] at hl
   unfold I2 at e
   split at e
   ·rename_i hagg
    obtain ⟨h1,e⟩:=Bool.au e
    obtain ⟨h2,e⟩:=Bool.au e
    simp only [aq] at e; subst e
    exact ⟨some (_<n),by simp only [bm,hy,hc,hl,hagg,h1],aK h2⟩
   ·rename_i hagg
    obtain ⟨h1,e⟩:=Bool.au e
    obtain ⟨h2,e⟩:=Bool.au e
    simp only [aq] at e; subst e
    exact ⟨some (_<n),by simp only [bm,hy,hc,hl,hagg,h1],aK h2⟩
  ·rename_i el sz n get eG hl
   rw [cl] at hl
   unfold Fk at e
   split at e
   ·rename_i hagg
    obtain ⟨h1,e⟩:=Bool.au e
    obtain ⟨h2,e⟩:=Bool.au e
    split at e
    case h_2=>simp at e
    rename_i hg
    simp only [aq] at e; subst e
    exact ⟨some (_<n),by simp only [bm,hy,hc,hl,hagg,h1,hg],aK h2⟩
   ·rename_i hagg
    obtain ⟨h1,e⟩:=Bool.au e
    obtain ⟨h2,e⟩:=Bool.au e
    split at e
    case h_2=>simp at e
    rename_i hg
    simp only [aq] at e; subst e
    exact ⟨some (_<n),by simp only [bm,hy,hc,hl,hagg,h1,hg],aK h2⟩
  ·simp at e
 ·rename_i q
  unfold UX at e
  split at e
  case h_2=>simp at e
  rename_i z hz
  split at e
  ·simp at e
  ·rename_i hagg
   simp only [aq] at e; subst e
   exact ⟨none,by simp only [bm,hy,hc,hagg,hz],trivial⟩
 ·rename_i n get
  unfold Mr at e
  split at e
  ·rename_i hagg
   obtain ⟨h1,e⟩:=Bool.au e
   simp only [aq] at e; subst e
   exact ⟨none,by simp only [bm,hy,hc,hagg,h1],trivial⟩
  ·rename_i hagg
   obtain ⟨h1,e⟩:=Bool.au e
   simp only [aq] at e; subst e
   exact ⟨none,by simp only [bm,hy,hc,hagg,h1],trivial⟩
 ·simp at e
theorem xT (bQ:dV P T) (h:R T N ay w0 sp s a w E) (hn:bN s.sl) {o:Oper} {x:Operand} {k:Nat} (ho:o.op=.extract x k) {d:D} (e:sm s x k=some d):Looks P ay s a w E o d:=by
 unfold sm at e
 split at e
 case h_2=>simp at e
 rename_i l hl
 have hl:=dR hn (Kv hl)
 rw [cl] at e
 split at e
 ·rename_i cs hc
  simp only [aq] at e; subst e
  exact Looks.cY (p:=none) bQ h (by simp only [ho,bm,hl,hc]) trivial
 ·rename_i cs hc
  simp only [aq] at e; subst e
  exact Looks.cY (p:=none) bQ h (by simp only [ho,bm,hl,hc]) trivial
 ·simp at e
theorem uI (hn:bN s.sl) {fs:List (Nat×Nat)}:∀ {ps:List (Nat×Operand)} {l r:List C},uE fs s.sl ps l=some r→vR fs s [] ps l=some r
 | [],l,r,e=>e
 | p::ps,l,r,e=>by
   obtain ⟨k,x⟩:=p
   have e:(match aV fs k with
    | some o=>match Go.V.cA s.sl x with
      | some d=>match d.cells with
        | some cs=>(Bool.rec none (match put l o.1 cs with
          | some l'=>uE fs s.sl ps l'
          | none=>none) (Nat.beq cs.length o.2&&Nat.blt 0 o.2):Option (List C))
        | none=>none
      | none=>none
    | none=>none)=some r:=e
   split at e
   case h_2=>simp at e
   rename_i o ho
   rw [cl] at ho
   obtain ⟨o1,o2⟩:=o
   split at e
   case h_2=>simp at e
   rename_i d hd
   split at e
   case h_2=>simp at e
   rename_i cs hcs
   obtain ⟨h1,e⟩:=Bool.au e
   split at e
   case h_2=>simp at e
   rename_i l' uV
   simp only at h1 uV
   simp only [vR,ho,dR hn hd,hcs,h1,uV]
   exact uI hn e
theorem CO (bQ:dV P T) (h:R T N ay w0 sp s a w E) (hn:bN s.sl) {o:Oper} {t:TypeId} {ps:Array (Nat×Operand)} (ho:o.op=.build t ps) {d:D} (e:Cp T s t ps.toList=some d):Looks P ay s a w E o d:=by
 unfold Cp at e
 split at e
 case h_2=>simp at e
 rename_i y hy
 split at e
 case h_2=>simp at e
 rename_i fs hk
 split at e
 case h_2=>simp at e
 rename_i z hz
 split at e
 case h_2=>simp at e
 rename_i l hl
 simp only [aq] at e; subst e
 exact Looks.cY (p:=none) bQ h (by simp only [ho,bm,hy,hk,hz,uI hn hl]) trivial
theorem DY (bQ:dV P T) (h:R T N ay w0 sp s a w E) (hn:bN s.sl) {o:Oper} {fn:Fn} {first eJ:Array Operand} (ho:o.op=.makeFunc fn first eJ) {d:D} (e:Jc s fn first.toList eJ.toList=some d):Looks P ay s a w E o d:=by
 unfold Jc at e
 split at e
 case h_2=>simp at e
 split at e
 case h_2=>simp at e
 rename_i hf
 split at e
 ·rename_i hc
  simp only [aq] at e; subst e
  exact Looks.cY (p:=none) bQ h (by simp only [ho,bm,hf,mJ hn hc]) trivial
 ·rename_i hc
  simp only [aq] at e; subst e
  exact Looks.cY (p:=none) bQ h (by simp only [ho,bm,hf,mJ hn hc]) trivial
 ·rename_i hc
  simp only [aq] at e; subst e
  exact Looks.cY (p:=none) bQ h (by simp only [ho,bm,hf,mJ hn hc]) trivial
 ·rename_i hc
  simp only [aq] at e; subst e
  exact Looks.cY (p:=none) bQ h (by simp only [ho,bm,hf,mJ hn hc]) trivial
 ·simp at e
theorem FK (bQ:dV P T) (h:R T N ay w0 sp s a w E) (hn:bN s.sl) {o:Oper} {c:Call} (ho:o.op=.call c) {d:D} (e:FQ T s c=some d):Looks P ay s a w E o d:=by
 unfold FQ at e
 split at e
 case h_2=>simp at e
 rename_i b hb
 have go:gJ T b c.argTypes.toList (Fv s [] c.args.toList)=some (none,d)→Looks P ay s a w E o d:=fun q=>
  Looks.cY (p:=none) bQ h (by simp only [ho,bm,hb]; exact q) trivial
 unfold GU at e
 split at e
 ·apply go
  unfold MC at e
  split at e
  case h_2=>simp at e
  rename_i t x hts hxs
  rw [hts,hxs]
  split at e
  ·rename_i hy
   split at e
   case h_2=>simp at e
   rename_i cc hc
   have hc:=dR hn (cz hc)
   unfold Ya at e
   split at e<;>first|(simp at e; done)|(simp only [aq] at e; subst e; simp only [gJ,Fv,hc,hy])
  ·rename_i hy
   split at e
   case h_2=>simp at e
   rename_i b hc
   have hc:=dR hn (mV hc)
   simp only [aq] at e; subst e
   simp only [gJ,Fv,hc,hy]
  ·simp at e
 ·apply go
  unfold Qj at e
  split at e
  case h_2=>simp at e
  rename_i x y hxs
  split at e
  case h_2=>simp at e
  rename_i n m h1 h2
  simp only [aq] at e; subst e
  rw [hxs]
  simp only [gJ,Fv,dR hn (ew h1),dR hn (ew h2)]
 ·apply go
  unfold M7 at e
  split at e
  case h_2=>simp at e
  rename_i x y hxs
  split at e
  case h_2=>simp at e
  rename_i n m h1 h2
  simp only [aq] at e; subst e
  rw [hxs]
  simp only [gJ,Fv,dR hn (ew h1),dR hn (ew h2)]
 ·simp at e
theorem DA (n:Int):∀ l:List (Int×FuncId),OW n l=zy n l
 | []=>rfl
 | x::l=>by
   show (Bool.rec (OW n l) (some x.2) (n==x.1):Option FuncId)=zy n (x::l)
   unfold zy
   cases n==x.1 with
   | true=>rfl
   | false=>exact DA n l
theorem zT (bQ:dV P T) (h:R T N ay w0 sp s a w E) (hn:bN s.sl) {o:Oper} {t:TypeId} {x i:Operand} {ok:Bool} (ho:o.op=.lookup t x i ok) {d:D} (e:fmF T s t x i ok=some d):Looks P ay s a w E o d:=by
 unfold fmF at e
 obtain ⟨hk,e⟩:=Bool.au e
 unfold fmK at hk
 split at hk
 case h_2=>simp at hk
 rename_i k el mX
 split at hk
 case h_2=>simp at hk
 rename_i zf hye
 have mX:=(bQ.ty _ _ mX).map rfl
 have zf:=(bQ.ty _ _ zf).int rfl
 have hye:=bQ.ty _ _ hye
 obtain ⟨inf,hin,_,_,hz⟩:=hye.full
 split at e
 case h_2=>simp at e
 rename_i l n hx hi
 simp only [aq] at e
 subst e
 obtain ⟨b,es,clock,hx,_,h2,h3⟩:=h.cA hn (cz hx)
 have hi:=(h.cA hn (ew hi)).1
 rw [DA]
 have hu:(Go.underlying t).run P w=.ok (.map k el) w:=by simp [Go.underlying,Go.program,Sem.run,mX]
 have huk:(Go.underlying k).run P w=.ok (.int .i64) w:=by simp [Go.underlying,Go.program,Sem.run,zf]
 have hg':(getObj b).run P w=.ok (.map es clock) w:=by simp [getObj,Sem.run,h2]
 have hz0:(zeroValue el).run P w=.ok .nilFunc w:=by simp [zeroValue,typeInfo,hin,hz]
 rcases h3 n with ⟨h4,h5⟩|⟨q,f,h4,h5⟩
 ·have hf:(Instr.findKey k (.int .i64 n) es.toList).run P w=.ok none w:=by simp [Instr.findKey,huk,h4]
  rw [h5]
  cases ok with
  | true=>
    refine ⟨.tuple #[.nilFunc,.bool false],?_,_,rfl,.cons ⟨_,rfl,rfl,rfl⟩ (.cons ⟨_,rfl,rfl,rfl⟩ .nil)⟩
    simp only [execOp,ho,hx,hi]
    refine bX ?_
    unfold Instr.lookup
    simp [Sem.run_bind,hu,hg',Result.andThen_ok,gm zf,hf,hz0]
  | false=>
    refine ⟨.nilFunc,?_,rfl,rfl⟩
    simp only [execOp,ho,hx,hi]
    refine bX ?_
    unfold Instr.lookup
    simp [Sem.run_bind,hu,hg',Result.andThen_ok,gm zf,hf,hz0]
 ·have hf:(Instr.findKey k (.int .i64 n) es.toList).run P w=.ok (some (q,.func (.func f) #[] #[])) w:=by simp [Instr.findKey,huk,h4]
  rw [h5]
  have hrel:dm (AV ay s.rs E) w (.fn f 0 fun _=>.v (.bool false)) (.func (.func f) #[] #[]):=⟨#[],rfl,rfl,fun j hj=>by omega⟩
  cases ok with
  | true=>
    refine ⟨.tuple #[.func (.func f) #[] #[],.bool true],?_,_,rfl,.cons ⟨_,rfl,hrel⟩ (.cons ⟨_,rfl,rfl,rfl⟩ .nil)⟩
    simp only [execOp,ho,hx,hi]
    refine bX ?_
    unfold Instr.lookup
    simp [Sem.run_bind,hu,hg',Result.andThen_ok,gm zf,hf]
  | false=>
    refine ⟨.func (.func f) #[] #[],?_,hrel⟩
    simp only [execOp,ho,hx,hi]
    refine bX ?_
    unfold Instr.lookup
    simp [Sem.run_bind,hu,hg',Result.andThen_ok,gm zf,hf]
theorem yQ (bQ:dV P T) (h:R T N ay w0 sp s a w E) (hn:bN s.sl) {o:Oper} {t:TypeId} {x i:Operand} {ok:Bool} (ho:o.op=.lookup t x i ok) {d:D} (e:nn T s t x i ok=some d):Looks P ay s a w E o d:=by
 unfold nn at e
 split at e
 ·exact zT bQ h hn ho e
 cases hk:Lq T t with
 | false=>rw [hk] at e; exact zT bQ h hn ho e
 | true=>
 rw [hk] at e
 simp only at e
 unfold Lq at hk
 split at hk
 case h_2=>simp at hk
 rename_i hy
 split at hk
 case h_2=>simp at hk
 rename_i hy1 hy2
 split at e
 case h_2=>simp at e
 rename_i c n hc hi
 have hc:=dR hn (cz hc)
 have hi:=dR hn (ew hi)
 split at e
 case h_2=>simp at e
 rename_i l hl
 simp only [aq] at e; subst e
 unfold OS at hl
 split at hl
 ·split at hl
  case h_2=>simp at hl
  rename_i hr
  rw [cl] at hr
  simp only [aq] at hl; subst hl
  exact Looks.cY (p:=none) bQ h (by simp only [ho,bm,hy,hy1,hy2,hc,hi,hr]) trivial
 ·simp only [aq] at hl; subst hl
  exact Looks.cY (p:=none) bQ h (by simp only [ho,bm,hy,hy1,hy2,hc,hi]) trivial
 ·simp at hl
theorem CH (bQ:dV P T) (h:R T N ay w0 sp s a w E) (hn:bN s.sl) {o:Oper} {t:TypeId} {x l:Operand} (ho:o.op=.slice t x (some l) none none) {y:Ty} (hy:sE T t=some y) {c:C} (hc:dE (cA s.sl x)=some c) {q:Int} (hl:iH (cA s.sl l)=some q) {d:D} (e:wL y.size c q=some d):Looks P ay s a w E o d:=by
 obtain ⟨xo,wZ,z0,el,hy1,hy2⟩:=qF hy
 have mX:=(bQ.ty _ _ hy1).slice rfl
 replace hc:=h.cA hn (cz hc)
 replace hl:=(h.cA hn (ew hl)).1
 unfold wL at e
 split at e
 case h_2=>simp at e
 rename_i sz n get
 obtain ⟨h1,e⟩:=Bool.au e
 simp only [dz] at h1
 obtain ⟨h2,h3⟩:=vY h1.1
 have h4:=bL h1.2
 subst h4
 simp only [aq] at e
 subst e
 obtain ⟨ao,cap,hv,g1,g2,g3⟩:=hc
 have he:P.elem t=el:=by simp [Program.elem,mX]
 have ht:P.underlying t=some (.slice (P.elem t)):=by rw [he]; exact mX
 have hqn:q.toNat≤n:=by omega
 have e1:n-q.toNat≤cap-q.toNat:=Nat.sub_le_sub_right g1 _
 have e2:n-q.toNat≤maxLen:=cM (Nat.sub_le _ _) g2
 have e3:0<n-q.toNat→0<n∧cap≠q.toNat:=fun h0=>⟨by omega,by omega⟩
 have e4:∀ i,i<n-q.toNat→q.toNat+i<n:=fun i hi=>by omega
 refine ⟨sliced ao q.toNat n cap y.size,?_,_,_,rfl,e1,e2,fun h0=>?_⟩
 ·simp only [execOp,ho,hv,hl,Option.map_some,Option.map_none]
  refine bX ?_
  rw [run_sliceAt_slice w t _ _ _ _ ht,run_slice_l w t ao n cap ht .i64 q h2 h3,he,run_sizeOf (bQ.ty _ _ hy2).sz,Result.andThen_ok]
 ·obtain ⟨ad,rfl,k1,k2,k3,k4⟩:=g3 (e3 h0).1
  refine ⟨ad.add (q.toNat*y.size),?_,wc _ k1 _,by rw [block_add]; exact k2,by rw [block_add]; exact k3,fun i hi j hj=>?_⟩
  ·rw [if_neg (e3 h0).2]; rfl
  ·obtain ⟨v,m1,m2⟩:=k4 (q.toNat+i) (e4 i hi) j hj
   refine ⟨v,?_,m2⟩
   rw [add_add _ k1,← m1]
   congr 2
   rw [Nat.add_mul,Nat.add_assoc]
theorem BB (bQ:dV P T) (h:R T N ay w0 sp s a w E) (hn:bN s.sl) {o:Oper} {t:TypeId} {x:Operand} {lo hi mx:Option Operand} (ho:o.op=.slice t x lo hi mx) {d:D} (e:lr T s t x lo hi mx=some d):Looks P ay s a w E o d:=by
 unfold lr at e
 split at e
 case h_3=>simp at e
 case h_2=>
  split at e
  case h_2=>simp at e
  rename_i y hy
  split at e
  case h_2=>simp at e
  rename_i c n hc hh
  exact CH bQ h hn ho hy hc hh e
 rename_i hi
 split at e
 case h_2=>simp at e
 rename_i y hy
 obtain ⟨xo,wZ,z0,el,hy1,hy2⟩:=qF hy
 split at e
 case h_2=>simp at e
 rename_i c n hc hh
 have hc:=dR hn (cz hc)
 have hh:=dR hn (ew hh)
 unfold nb at e
 split at e
 ·obtain ⟨h1,e⟩:=Bool.au e
  simp only [aq] at e; subst e
  exact Looks.cY (p:=some _) bQ h (by simp only [ho,bm,hy1,hy2,hc,hh]) (vY h1)
 ·split at e
  case h_4=>simp at e
  all_goals
   rename_i hl
   rw [cl] at hl
   obtain ⟨h1,e⟩:=Bool.au e
   simp only [aq] at e; subst e
   exact Looks.cY (p:=some _) bQ h (by simp only [ho,bm,hy1,hy2,hc,hh,hl]) (vY h1)
 ·obtain ⟨h1,e⟩:=Bool.au e
  simp only [aq] at e; subst e
  exact Looks.cY (p:=some _) bQ h (by simp only [ho,bm,hy1,hy2,hc,hh]) (show n=0 by simpa using h1)
 ·simp at e
theorem Ep (bQ:dV P T) (h:R T N ay w0 sp s a w E) (hn:bN s.sl) {o:Oper} {d:D} (e:fL T s o.op=some d):Looks P ay s a w E o d:=by
 generalize hop:o.op=op at e
 cases op with
 | move x=>exact Looks.cY (p:=none) bQ h (by simp only [hop,bm,dR hn (show Go.V.cA s.sl x=some d from e)]) trivial
 | assign x=>exact Looks.cY (p:=none) bQ h (by simp only [hop,bm,dR hn (show Go.V.cA s.sl x=some d from e)]) trivial
 | pick c x y=>exact EU h hn hop e
 | binOp op t x y t2=>exact Ia bQ h hn hop e
 | unOp op t x=>exact Lc bQ h hn hop e
 | nilCheck x=>exact yT bQ h hn hop e
 | fieldAddr t x f=>exact Cv bQ h hn hop e
 | indexAddr t x i=>exact BJ bQ h hn hop e
 | load t x=>
   obtain ⟨p,h1,h2⟩:=rh hn e
   exact Looks.cY (p:=p) bQ h (by rw [hop]; exact h1) h2
 | extract x k=>exact xT bQ h hn hop e
 | build t ps=>exact CO bQ h hn hop e
 | makeFunc fn first eJ=>exact DY bQ h hn hop e
 | call c=>exact FK bQ h hn hop e
 | lookup t x i ok=>exact yQ bQ h hn hop e
 | slice t x lo hi mx=>exact BB bQ h hn hop e
 | _=>exact absurd e (by simp [fL])
end
open Go.RowKit
theorem Lg (x:ah) (rs:List ah):place rs.length x rs=rs++[x]:=by simp [place,cf]
theorem iw {b:Nat} (x:ah) {rs:List ah} (h:b<rs.length):place b x rs=rs.set b x:=by
 have:Nat.beq b rs.length=false:=by
  cases hb:Nat.beq b rs.length with
  | false=>rfl
  | true=>have:=Nat.eq_of_beq_eq_true hb; omega
 simp [place,this,aQ]
section
variable {P:Program} {T:dY} {N:Nat} {ay:Nat→Prop} {w0:Kp} {sp:List (D×Value)} {s:VS} {a:Act} {w:World} {E:Env}
def lB (s:VS) (E:Env) (b:Nat):Prop:=(s.rs[b]?=some .dead∧E[b]?=some hole)∨b=s.rs.length
structure mO (b:Nat) (E E':Env):Prop where
 le:Env.le E E'
 free:∀ q,q≠b→E[q]?=some hole→E'[q]?=some hole
theorem mO.refl (b:Nat) (E:Env):mO b E E:=⟨Env.le_refl E,fun _ _ h=>h⟩
theorem R.make (h:R T N ay w0 sp s a w E) {b:Nat} (hf:lB s E b) {dead:Option Nat} {x:ah} {e:fQ} {w':World} {row:Option Nat}
  (hg:w.grownBy w' row)
  (nk:∀ k,row=some k→∃ r y q,dead=some r∧s.rs[r]?=some y∧y.live∧bq E r k q)
  (jd:∀ k,e.1=some k→some k=row∨w.heap.size≤k) (dD:∀ k,e.1=some k→k<w'.heap.size)
  (hx:∀ E' dp,Env.le E E'→(∀ k,k<w.heap.size→dp k→AV ay s.rs E k)→(∀ k,dp k→AV ay s.rs E k∨e.has k)→ba (AV ay s.rs E) w w'→aM E' dp w0.base w' e x)
  (sv:∀ k,e.2.1.2 k→(∃ r y q,dead=some r∧s.rs[r]?=some y∧y.live∧di E r k q)∨(w.heap.size≤k∧k<w'.heap.size):=by intro k hk; exact hk.elim) :
  ∃ E',R T N ay w0 sp { s with rs:=place b x (kill dead s.rs) } a w' E'∧E'[b]?=some e∧mO b E E'∧(∀ k,k<w.heap.size→AV ay (place b x (kill dead s.rs)) E' k→AV ay s.rs E k)∧∀ k,AV ay (place b x (kill dead s.rs)) E' k→AV ay s.rs E k∨e.has k:=by
 have hkl:(kill dead s.rs).length=s.rs.length:=by cases dead<;>simp [kill]
 rcases hf with ⟨hb,hE⟩|rfl
 ·have hbl:b<(kill dead s.rs).length:=by rw [hkl]; exact (List.getElem?_eq_some_iff.1 hb).1
  have hbE:b<E.length:=(List.getElem?_eq_some_iff.1 hE).1
  obtain ⟨h1,h2,gU⟩:=h.at (b:=b) (dead:=dead) (x:=x) (e:=e) (w':=w') (row:=row) hb hE hg nk jd dD (fun eP rO hk=>hx _ _ (Env.yi e hE) eP rO hk) sv
  rw [iw x hbl]
  refine ⟨_,h1,by rw [dP]; simp [hbE],⟨Env.yi e hE,fun q hq h3=>?_⟩,h2,gU⟩
  rw [dP,if_neg (fun e=>hq e.symm)]; exact h3
 ·have h0:=h.UK 1
  have hle:Env.le E (E++List.replicate 1 hole):=Env.eK _ _
  have E8:(s.rs++List.replicate 1 ah.dead)[s.rs.length]?=some .dead:=by simp
  have hEs:(E++List.replicate 1 hole)[s.rs.length]?=some hole:=by rw [← h.len]; simp
  have hav0:∀ k,AV ay (s.rs++List.replicate 1 .dead) (E++List.replicate 1 hole) k→AV ay s.rs E k:=by
   rintro k (q|⟨r,y,sz,h1,h2,hh,h3⟩)
   ·exact .inl q
   ·rcases Nat.lt_or_ge r s.rs.length with hr|hr
    ·rw [dH hr] at h1
     rw [dH (by rw [h.len]; exact hr)] at h3
     exact .inr ⟨r,y,sz,h1,h2,hh,h3⟩
    ·rw [gC hr,List.getElem?_replicate] at h1
     split at h1
     ·simp only [aq] at h1; subst h1; exact h2.elim
     ·simp at h1
  have hav1:∀ k,AV ay s.rs E k→AV ay (s.rs++List.replicate 1 .dead) (E++List.replicate 1 hole) k:=by
   rintro k (q|⟨r,y,sz,h1,h2,h3⟩)
   ·exact .inl q
   ·exact .inr ⟨r,y,sz,by rw [dH (List.getElem?_eq_some_iff.1 h1).1]; exact h1,h2,C8 _ h3⟩
  obtain ⟨h1,h2,gU⟩:=h0.at (b:=s.rs.length) (dead:=dead) (x:=x) (e:=e) (w':=w') (row:=row) E8 hEs hg (fun k hk=>by
   obtain ⟨r,y,q,h3,h4,h5,h6⟩:=nk k hk
   exact ⟨r,y,q,h3,by rw [dH (List.getElem?_eq_some_iff.1 h4).1]; exact h4,h5,hle.at_ h6⟩) jd dD
   (fun eP rO hk=>hx _ _ (hle.trans (Env.yi e hEs)) (fun k kZ q=>hav0 k (eP k kZ q)) (fun k q=>(rO k q).imp (hav0 k) id) ⟨hk.size,fun k kZ hn=>hk.same k kZ fun q=>hn (hav0 k q)⟩) (fun k hk=>by
   rcases sv k hk with ⟨r,y,q,h3,h4,h5,h6⟩|h7
   ·exact .inl ⟨r,y,q,h3,by rw [dH (List.getElem?_eq_some_iff.1 h4).1]; exact h4,h5,C8 _ h6⟩
   ·exact .inr h7)
  have hk2:(kill dead (s.rs++List.replicate 1 .dead)).set s.rs.length x=place s.rs.length x (kill dead s.rs):=by
   rw [← hkl,Lg]
   cases dead with
   | none=>simp [kill]
   | some r=>
     simp only [kill]
     rw [List.set_append]
     split
     ·rename_i hr
      have:(s.rs.set r ah.dead++List.replicate 1 ah.dead).set (s.rs.set r ah.dead).length x=s.rs.set r ah.dead++[x]:=by
       rw [List.set_append]; simp
      exact this
     ·rename_i hr
      have h3:s.rs.set r ah.dead=s.rs:=List.set_eq_of_length_le (by omega)
      have h4:(List.replicate 1 ah.dead).set (r-s.rs.length) ah.dead=List.replicate 1 ah.dead:=by
       cases r-s.rs.length<;>rfl
      rw [h3,h4,List.set_append]
      simp
  simp only at h1 h2 gU
  rw [hk2] at h1 h2 gU
  refine ⟨_,h1,?_,⟨hle.trans (Env.yi e hEs),fun q hq h3=>?_⟩,fun k hk q=>hav0 k (h2 k hk q),fun k q=>(gU k q).imp (hav0 k) id⟩
  ·rw [dP,if_pos rfl]
   simp [h.len]
  ·rw [dP,if_neg (fun e=>hq e.symm),dH (List.getElem?_eq_some_iff.1 h3).1]
   exact h3
def eh (e:cF):Option D:=match e with
 | .val d=>some d
 | .wr d _=>d
 | .all d _=>some d
 | .cX _=>none
def jh (T:dY) (N:Nat) (ay:Nat→Prop) (w0:Kp) (sp:List (D×Value)) (s:VS) (a:Act) (w:World) (E:Env) (b:Nat) (e:cF) (v:Value) (w':World) (E':Env):Prop:=
 mO b E E'∧R T N ay w0 sp { s with rs:=E4 e s.rs } a w' E'∧∀ d,eh e=some d→a7 E' (AV ay (E4 e s.rs) E') w' d v
theorem MU {α:Type} (l m:List α) (o k n:Nat) (hm:m.length=k) (h:o+k≤n) (hn:n≤l.length):(l.take o++m++l.drop (o+k)).take n=(l.take n).take o++m++(l.take n).drop (o+k):=by
 apply List.ext_getElem?
 intro i
 have h1:(l.take o).length=o:=by simp; omega
 have h2:((l.take n).take o).length=o:=by simp; omega
 rw [dy]
 rcases Nat.lt_or_ge i o with hi|hi
 ·rw [if_pos (by omega),List.append_assoc,List.append_assoc,dH (by omega),dH (by omega)]
  rw [dy,dy,dy,if_pos hi,if_pos hi,if_pos (by omega)]
 ·rcases Nat.lt_or_ge i (o+k) with hk|hk
  ·have A:∀ l1 l3:List α,l1.length=o→(l1++m++l3)[i]?=m[i-o]?:=fun l1 l3 hl=>by
    rw [List.append_assoc,gC (by omega),hl,dH (by omega)]
   rw [if_pos (by omega),A _ _ h1,A _ _ h2]
  ·rw [gC (by simp; omega),gC (by simp; omega),List.getElem?_drop,List.getElem?_drop,dy]
   simp only [List.length_append,h1,h2,hm]
   rw [show o+k+(i-(o+k))=i by omega]
theorem p9 (get:Nat→I):∀ (n o q:Nat),q<n→(ea get o n)[q]?=some (.im (get (o+q)))
 | 0,_,_,h=>by omega
 | n+1,o,0,_=>by simp [ea]
 | n+1,o,q+1,h=>by
   simp only [ea,List.getElem?_cons_succ]
   rw [p9 get n (o+1) q (by omega)]
   congr 3; omega
theorem iq (get:Nat→I):∀ (n o:Nat),(ea get o n).length=n
 | 0,_=>rfl
 | n+1,o=>by simp [ea,iq get n]
theorem tj (get:Nat→Nat→I) (sz i n:Nat):uQ get sz i (n+1)=ea (get i) 0 sz++uQ get sz (i+1) n:=rfl
theorem mF (get:Nat→Nat→I) (sz:Nat):∀ (n i:Nat),(uQ get sz i n).length=n*sz
 | 0,_=>by simp; rfl
 | n+1,i=>by rw [tj,List.length_append,iq,mF get sz n,Nat.add_mul,Nat.one_mul]; omega
theorem mS (get:Nat→Nat→I) (sz:Nat):∀ (n i k j:Nat),k<n→j<sz→(uQ get sz i n)[k*sz+j]?=some (.im (get (i+k) j))
 | 0,_,_,_,h,_=>by omega
 | n+1,i,0,j,_,hj=>by
   rw [tj,dH (by rw [iq]; omega),p9 _ _ _ _ (by omega)]
   simp
 | n+1,i,k+1,j,h,hj=>by
   have:(k+1)*sz+j=sz+(k*sz+j):=by rw [Nat.add_mul,Nat.one_mul]; omega
   rw [tj,gC (by rw [iq]; omega),iq,show (k+1)*sz+j-sz=k*sz+j by omega,mS get sz n (i+1) k j (by omega) hj]
   congr 3; omega
theorem aB.Hf {α β:Type} {Rr:α→β→Prop}:∀ {l:List α} {m:List β},l.length=m.length→(∀ (i:Nat) (x:α),l[i]?=some x→∃ y,m[i]?=some y∧Rr x y)→aB Rr l m
 | [],[],_,_=>.nil
 | x::l,y::m,h,k=>by
   obtain ⟨y',h1,h2⟩:=k 0 x rfl
   simp only [List.getElem?_cons_zero,aq] at h1
   subst h1
   exact .cons h2 (aB.Hf (by simpa using h) fun i x hx=>by simpa using k (i+1) x (by simpa using hx))
 | [],_::_,h,_=>by simp at h
 | _::_,[],h,_=>by simp at h
theorem R.swap (h:R T N ay w0 sp s a w E) {r:Nat} {x y:ah} (hr:s.rs[r]?=some x) (hl:y.live→x.live)
  (hx:∀ e av,aM E av w0.base w e x→(∀ b,av b→AV ay s.rs E b)→aM E av w0.base w e y):R T N ay w0 sp { s with rs:=s.rs.set r y } a w E:=by
 have dD:r<s.rs.length:=(List.getElem?_eq_some_iff.1 hr).1
 have key:∀ (q:Nat) (z:ah),(s.rs.set r y)[q]?=some z→z.live→∃ z',s.rs[q]?=some z'∧z'.live∧(z=z'∨(q=r∧z=y∧z'=x)):=by
  intro q z h1 h2
  rw [dP] at h1
  simp only [dD,if_true] at h1
  split at h1
  ·rename_i hq
   subst hq
   simp only [aq] at h1
   subst h1
   exact ⟨x,hr,hl h2,.inr ⟨rfl,rfl,rfl⟩⟩
  ·exact ⟨z,h1,h2,.inl rfl⟩
 have eP:∀ b,AV ay (s.rs.set r y) E b→AV ay s.rs E b:=by
  rintro b (q|⟨q,z,sz,h1,h2,h3⟩)
  ·exact .inl q
  ·obtain ⟨z',h4,h5,_⟩:=key q z h1 h2
   exact .inr ⟨q,z',sz,h4,h5,h3⟩
 refine h.wE (aG:=s.rs.set r y) (Env.le_refl E) (ba.refl _ w) h.below (fun b _ q=>eP b q) (by simpa using h.len) ?_ ?_ ?_
 ·intro q z e h1 h2
  by_cases hz:z.live
  ·obtain ⟨z',h4,h5,h6⟩:=key q z h1 hz
   have h7:=aM.mono (Env.le_refl E) (ba.refl _ w) (fun b _ q=>eP b q) (fun _ _ _=>rfl) (h.roots q z' e h4 h2)
   rcases h6 with rfl|⟨rfl,rfl,rfl⟩
   ·exact h7
   ·exact hx e _ h7 eP
  ·cases z with
   | dead=>trivial
   | _=>exact (hz trivial).elim
 ·intro q z b sz h1 h2 h3
  obtain ⟨z',h4,h5,_⟩:=key q z h1 h2
  exact h.dh q z' b sz h4 h5 h3
 ·intro q q' z z' b sz cQ h1 kH h2 gU h3 lE
  obtain ⟨u,h4,h5,_⟩:=key q z h1 h2
  obtain ⟨u',h4',h5',_⟩:=key q' z' kH gU
  exact h.dQ q q' u u' b sz cQ h4 h4' h5 h5' h3 lE
theorem Sl {E:Env} {av:Nat→Prop} {base:Nat} {w:World} {e:fQ} {el sz n:Nat} {get:Nat→Nat→I} (h:aM E av base w e (.arr el sz n get)):aM E av base w e (.row el sz n (uQ get sz 0 n)):=by
 obtain ⟨h1,h2,xs,h3,h4⟩:=h
 refine ⟨h1,h2,xs,h3,aB.Hf (by rw [mF,h3.1]) fun q x hx=>?_⟩
 have hq:q<n*sz:=by have:=(List.getElem?_eq_some_iff.1 hx).1; rwa [mF] at this
 have hz:0<sz:=by
  rcases Nat.eq_zero_or_pos sz with e|e
  ·subst e; simp at hq
  ·exact e
 have e1:q/sz*sz+q%sz=q:=by rw [Nat.mul_comm]; exact Nat.div_add_mod q sz
 have hk:q/sz<n:=Nat.div_lt_of_lt_mul (by rw [Nat.mul_comm]; exact hq)
 have hm:q%sz<sz:=Nat.mod_lt _ hz
 obtain ⟨y,h7,h8⟩:=h4 (q/sz) hk (q%sz) hm
 have h9:=mS get sz n 0 (q/sz) (q%sz) hk hm
 rw [e1] at h7 h9
 rw [hx] at h9
 simp only [Nat.zero_add,aq] at h9
 subst h9
 exact ⟨y,h7,h8⟩
theorem Tl {E:Env} {av:Nat→Prop} {base:Nat} {w:World} {e:fQ} {el sz n:Nat} {l:List C} {get:Nat→Nat→I} (h:aM E av base w e (.row el sz n l)) (hl:∀ i,i<n→∀ j,j<sz→l[i*sz+j]?=some (.im (get i j))):aM E av base w e (.arr el sz n get):=by
 obtain ⟨h1,h2,xs,h3,h4⟩:=h
 refine ⟨h1,h2,xs,h3,fun i hi j hj=>?_⟩
 obtain ⟨y,h5,h6⟩:=h4.nth (i:=i*sz+j) (x:=.im (get i j)) (by rw [bp]; exact hl i hi j hj)
 exact ⟨y,h5,h6⟩
theorem RV (get:Nat→Nat→I) (i j:Nat) (ys:List I):jS get i j ys=wE get i j ys:=by
 funext i' j'
 unfold jS wE
 by_cases h:i'=i∧j≤j'∧j'<j+ys.length
 ·rw [if_pos h]
  obtain ⟨rfl,h2,h3⟩:=h
  have e1:Nat.beq i' i'=true:=cf i'
  have e2:Nat.ble j j'=true:=Nat.ble_eq▸h2
  have e3:Nat.blt j' (j+ys.length)=true:=by simpa [cD] using h3
  rw [e1,e2,e3]; rfl
 ·rw [if_neg h]
  cases hb:(Nat.beq i' i&&(Nat.ble j j'&&Nat.blt j' (j+ys.length))) with
  | false=>rfl
  | true=>
    simp only [dz] at hb
    exact (h ⟨bL hb.1,eI hb.2.1,aK hb.2.2⟩).elim
theorem Q5 (n:Nat) (get get':Nat→Nat→I):gP n get get'=app n get get':=by
 funext i j
 unfold gP app
 by_cases h:i<n
 ·rw [if_pos h,(by simpa [cD] using h:Nat.blt i n=true)]
 ·rw [if_neg h]
  cases hb:Nat.blt i n with
  | false=>rfl
  | true=>exact (h (aK hb)).elim
theorem lG:∀ ys:List I,(lift ys).length=ys.length
 | []=>rfl
 | y::ys=>by simp [lift,lG ys]
theorem pR:∀ {ys:List I} {j:Nat},j<ys.length→(lift ys)[j]?=some (.im (bH ys j))
 | [],j,h=>by simp at h
 | y::ys,0,h=>rfl
 | y::ys,j+1,h=>by
   have:=pR (ys:=ys) (j:=j) (by simpa using h)
   simpa [lift,bH,nth] using this
structure StN (get:Nat→Nat→O) (eG:Option (Nat×List Fc)) (get':Nat→Nat→O) (ky:Option (Nat×List Fc)) (i j:Nat) (cs:List C):Prop where
 out:∀ i' j',¬ (i'=i∧j≤j'∧j'<j+cs.length)→gg get' ky i' j'=gg get eG i' j'
 in_:∀ k,k<cs.length→∃ c x,cs[k]?=some x∧gg get' ky i (j+k)=some c∧(c=.c x∨∃ y,x=.im y∧c=.o (.im y))
 eG:∀ {n sz:Nat},(∀ x,eG=some x→x.1<n∧x.2.length=sz)→∀ x,ky=some x→x.1<n∧x.2.length=sz
theorem zN:∀ {ys:List C} {l r:List Fc} {o:Nat},KH ys l o=some r→r.length=l.length∧(∀ q,¬ (o≤q∧q<o+ys.length)→r[q]?=l[q]?)∧∀ (k:Nat) (y:C),ys[k]?=some y→r[o+k]?=some (.c y)
 | [],l,r,o,h=>by
   have h:some l=some r:=h
   simp only [aq] at h; subst h
   exact ⟨rfl,fun _ _=>rfl,fun k y hk=>by simp at hk⟩
 | y::ys,l,r,o,h=>by
   have h:(match aV l o with
    | some _=>KH ys (setAt l o (.c y)) (o+1)
    | none=>none)=some r:=h
   split at h
   case h_2=>simp at h
   rename_i z hz
   rw [cl,bp] at hz
   have ho:o<l.length:=(List.getElem?_eq_some_iff.1 hz).1
   obtain ⟨h1,h2,h3⟩:=zN h
   rw [aQ] at h1 h2
   refine ⟨by simpa using h1,fun q hq=>?_,fun k y' hk=>?_⟩
   ·rw [h2 q (by simp at hq; omega),dP,if_neg (by simp at hq; omega)]
   ·cases k with
    | zero=>
      simp only [List.getElem?_cons_zero,aq] at hk
      subst hk
      rw [Nat.add_zero,h2 o (by omega),dP,if_pos rfl,if_pos ho]
    | succ k=>
      have:=h3 k y' (by simpa using hk)
      rw [show o+(k+1)=o+1+k by omega]; exact this
theorem Tv (get:Nat→Nat→O) (i j k:Nat) (ys:List I) (h:k<ys.length):Ld get i j ys i (j+k)=.im (bH ys k):=by
 have h1:(Nat.beq i i&&(Nat.ble j (j+k)&&Nat.blt (j+k) (j+ys.length)))=true:=by
  simp only [dz]
  exact ⟨cf i,by rw [Nat.ble_eq]; omega,by unfold Nat.blt; rw [Nat.ble_eq]; omega⟩
 unfold Ld
 rw [h1]
 show O.im (bH ys (j+k-j))=_
 rw [Nat.add_sub_cancel_left]
theorem Oq (get:Nat→Nat→O) (i j i' j':Nat) (ys:List I) (h:¬ (i'=i∧j≤j'∧j'<j+ys.length)):Ld get i j ys i' j'=get i' j':=by
 have h1:(Nat.beq i' i&&(Nat.ble j j'&&Nat.blt j' (j+ys.length)))=false:=by
  rw [Bool.eq_false_iff]
  intro q
  simp only [dz] at q
  exact h ⟨Nat.eq_of_beq_eq_true q.1,Nat.le_of_ble_eq_true q.2.1,aK q.2.2⟩
 unfold Ld
 rw [h1]
theorem uy {el sz n size r i j:Nat} {get:Nat→Nat→O} {eG:Option (Nat×List Fc)} {cs:List C} {e:cF} (fF:cs.length=size) (hf:∀ x,eG=some x→Nat.beq i x.1=false) (h:oW el sz n get eG size r i j cs=some e) :
  ∃ get' ky,e=.wr none [(r,.cR el sz n get' ky)]∧j+size≤sz∧i<n∧StN get eG get' ky i j cs:=by
 unfold oW at h
 split at h
 case h_2=>simp at h
 rename_i ys hys
 obtain ⟨h1,h⟩:=Bool.au h
 obtain ⟨h2,h⟩:=Bool.au h
 simp only [aq] at h; subst h
 have him:=qp hys
 have hl:ys.length=cs.length:=by rw [him,lG]
 have nf:∀ (g:Nat→Nat→O) (j:Nat),gg g eG i j=some (.o (g i j)):=fun g j=>by
  unfold gg
  cases eG with
  | none=>rfl
  | some x=>simp only [hf x rfl]
 refine ⟨_,eG,rfl,eI h1,aK h2,⟨fun i' j' hn=>?_,fun k hk=>?_,fun hq=>hq⟩⟩
 ·rw [← hl] at hn
  unfold gg
  rw [Oq get i j i' j' ys hn]
 ·have hk2:k<ys.length:=by omega
  refine ⟨_,_,eY hk,nf _ _,.inr ⟨bH ys k,?_,by rw [Tv _ _ _ _ _ hk2]⟩⟩
  have:(lift ys)[k]?=some (.im (bH ys k)):=by
   have:=pR (ys:=ys) (j:=k) hk2
   exact this
  rw [← him,eY hk] at this
  simpa using this
theorem Dr {el sz n size r i j:Nat} {get:Nat→Nat→O} {eG:Option (Nat×List Fc)} {cs:List C} {e:cF} (fF:cs.length=size) (h:qH el sz n get eG size r i j cs=some e) :
  ∃ get' ky,e=.wr none [(r,.cR el sz n get' ky)]∧j+size≤sz∧(i<n∨∃ x,eG=some x∧i=x.1)∧StN get eG get' ky i j cs:=by
 unfold qH at h
 split at h
 ·obtain ⟨get',ky,h1,h2,h3,h4⟩:=uy fF (fun x hx=>by cases hx) h
  exact ⟨get',ky,h1,h2,.inl h3,h4⟩
 ·rename_i x
  cases hb:Nat.beq i x.1 with
  | false=>
    rw [hb] at h
    obtain ⟨get',ky,h1,h2,h3,h4⟩:=uy fF (fun y hy=>by simp only [aq] at hy; subst hy; exact hb) h
    exact ⟨get',ky,h1,h2,.inl h3,h4⟩
  | true=>
    rw [hb] at h
    have h:(match KH cs x.2 j with
     | some l=>(Bool.rec none (some (.wr none [(r,.cR el sz n get (some (x.1,l)))])) (Nat.ble (j+size) sz):Option cF)
     | none=>none)=some e:=h
    split at h
    case h_2=>simp at h
    rename_i l hl
    obtain ⟨h1,h⟩:=Bool.au h
    simp only [aq] at h; subst h
    obtain ⟨p1,p2,p3⟩:=zN hl
    have hi:=Nat.eq_of_beq_eq_true hb
    refine ⟨get,_,rfl,eI h1,.inr ⟨x,rfl,hi⟩,⟨fun i' j' hn=>?_,fun k hk=>?_,fun hq y hy=>?_⟩⟩
    ·unfold gg
     cases hb2:Nat.beq i' x.1 with
     | false=>simp only [hb2]
     | true=>
       have jD:=Nat.eq_of_beq_eq_true hb2
       simp only [hb2,bp]
       exact p2 j' (fun q=>hn ⟨by rw [jD,hi],q.1,q.2⟩)
    ·refine ⟨.c cs[k],cs[k],eY hk,?_,.inl rfl⟩
     unfold gg
     simp only [hb,bp]
     exact p3 k _ (eY hk)
    ·simp only [aq] at hy; subst hy
     obtain ⟨q1,q2⟩:=hq x rfl
     exact ⟨q1,p1.trans q2⟩
theorem Cy (bQ:dV P T) (h:R T N ay w0 sp s a w E) (hn:bN s.sl) {dst:Option Tmp} {t:TypeId} {x v:Operand} {e:cF} (ef:ij T s dst t x v=some e) (b:Nat) :
  (∃ l,e=.cX l)∨dst=none∧∃ w',(Instr.storeAt t (a.eval x) (a.eval v)).run P w=.ok () w'∧jh T N ay w0 sp s a w E b e undef w' E:=by
 unfold ij at ef
 split at ef
 ·simp at ef
 split at ef
 case h_2=>simp at ef
 rename_i y d hy hd
 have hv:=h.cA hn hd
 split at ef
 case h_2=>simp at ef
 rename_i cs hcs
 obtain ⟨fF,ef⟩:=Bool.au ef
 split at ef
 case h_2=>simp at ef
 rename_i r i j hx
 have hx:=h.cA hn (cz hx)
 have hcv:=mC hv hcs
 unfold mn at ef
 split at ef
 ·rename_i l hl
  refine .inr ⟨rfl,?_⟩
  rw [cl] at hl
  split at ef
  case h_2=>simp at ef
  split at ef
  case h_2=>simp at ef
  rename_i l' uV
  simp only [aq] at ef
  subst ef
  have hr:r<s.rs.length:=by rw [bp] at hl; exact (List.getElem?_eq_some_iff.1 hl).1
  obtain ⟨s',w',h1,h2,h3⟩:=uk (t:=t) bQ h hx hv (K:=fun s'=>s'={ s with rs:=setAt s.rs r (.box l') }) (by
   simp only [BX,hy,hcs,fF,hl,uV])
  subst h3
  refine ⟨w',h1,mO.refl _ _,?_,fun d hd=>by simp [eh] at hd⟩
  show R T N ay w0 sp { s with rs:=place r (.box l') s.rs } a w' E
  rw [iw _ hr,← aQ]
  exact h2
 ·rename_i el asz n l hl
  refine .inr ⟨rfl,?_⟩
  rw [cl,bp] at hl
  split at ef
  case h_2=>simp at ef
  rename_i l' uV
  simp only [aq] at ef
  subst ef
  have hy:=bQ.ty _ _ hy
  simp only [dz] at fF
  obtain ⟨fF,fU⟩:=fF
  have fF:=bL fF
  have fU:=aK fU
  have sT:(a.eval v).cells.size=y.size:=by have:=hcv.length; rw [fF] at this; simpa using this.symm
  have hr:r<s.rs.length:=(List.getElem?_eq_some_iff.1 hl).1
  obtain ⟨b',sz,⟨qk,hE⟩,hpx⟩:=hx
  obtain ⟨q1,q2,xs,q3,q4⟩:=h.roots r _ _ hl hE
  have q1:sz=asz:=q1
  have q2:some b'=qk.1.ownBlock:=q2
  subst q1
  obtain ⟨q5,q6⟩:=q3
  have q6:(qk.1=.slice none 0 0∧n=0)∨∃ g cap cur,qk.1=.slice (some ⟨g,0,none⟩) n cap∧w0.base≤g∧w.heap[g]?=some (.cells cur el (0,0))∧n≤cap∧cap≤maxLen∧cur.size=cap*sz∧cur.toList.take (n*sz)=xs:=q6
  rcases q6 with ⟨q6,_⟩|⟨g',cap,cur,q6,q7,q8,q9,q10,q11,q12⟩
  ·rw [q6] at q2; simp [Value.ownBlock] at q2
  rw [q6] at q2
  simp only [Value.ownBlock,aq] at q2
  subst q2
  have hfit0:i*sz+j+y.size≤n*sz:=by
   have hlen:=q4.length
   rcases sq uV with h1|h1
   ·rw [fF] at h1; omega
   ·subst h1; simp at fF; omega
  have hcap:n*sz≤cap*sz:=gr _ q9
  have hrun:=iA (w:=w) hy (o:=i*sz+j) q8 sT (by omega) (hcv.rY)
  rw [hpx]
  refine ⟨_,hrun,mO.refl _ _,?_,fun d hd=>by simp [eh] at hd⟩
  show R T N ay w0 sp { s with rs:=place r _ s.rs } a _ E
  rw [iw _ hr]
  have hl2:(a.eval v).cells.toList.length=y.size:=by simpa using sT
  have hk:ba (AV ay s.rs E) w (w.setRow b' (cur.toList.take (i*sz+j)++(a.eval v).cells.toList++cur.toList.drop (i*sz+j+y.size)).toArray):=
    ⟨by simp,fun k hk hn=>setRow_other w _ k _ fun e=>by subst e; exact hn (.inr ⟨r,_,sz,hl,trivial,bq.own ⟨qk,hE⟩⟩)⟩
  have hp:=ad2 uV q4 hcv
  rw [hl2,← q12,← MU cur.toList _ (i*sz+j) y.size (n*sz) hl2 hfit0 (by simp; omega)] at hp
  refine h.turn hl trivial hE (by simp) (fun k hk=>setRow_other w _ k _ hk) ⟨rfl,rfl,rfl⟩ ⟨rfl,by rw [q6]; rfl,_,⟨?_,.inr ⟨b',cap,_,q6,q7,setRow_heap w b' cur _ el (0,0) q8,q9,q10,?_,rfl⟩⟩,?_⟩
  ·simp [hl2]
   omega
  ·simp [hl2]
   omega
  ·exact hp.mono fun _ _ q=>bh.mono (Env.le_refl E) hk (fun _ _ q=>q) q
 ·rename_i el asz n get hl
  rw [cl] at hl
  split at ef
  ·rename_i ys hys
   refine .inr ⟨rfl,?_⟩
   obtain ⟨h1,ef⟩:=Bool.au ef
   obtain ⟨h2,ef⟩:=Bool.au ef
   simp only [aq] at ef
   subst ef
   have hr:r<s.rs.length:=by rw [bp] at hl; exact (List.getElem?_eq_some_iff.1 hl).1
   obtain ⟨s',w',h3,h4,h5⟩:=uk (t:=t) bQ h hx hv (K:=fun s'=>s'={ s with rs:=setAt s.rs r (.arr el asz n (wE get i j ys)) }) (by
    simp only [BX,hy,hcs,fF,hl,hys,h1]
    exact ⟨aK h2,trivial⟩)
   subst h5
   refine ⟨w',h3,mO.refl _ _,?_,fun d hd=>by simp [eh] at hd⟩
   show R T N ay w0 sp { s with rs:=place r (.arr el asz n (jS get i j ys)) s.rs } a w' E
   rw [iw _ hr,← aQ,RV]
   exact h4
  ·unfold ot at ef
   split at ef
   ·simp only [aq] at ef
    exact .inl ⟨_,ef.symm⟩
   ·simp at ef
 ·rename_i el asz n get eG hl
  refine .inr ⟨rfl,?_⟩
  rw [cl,bp] at hl
  have hy:=bQ.ty _ _ hy
  simp only [dz] at fF
  obtain ⟨fF,fU⟩:=fF
  have fF:=bL fF
  obtain ⟨get',ky,rfl,hjs,hin,om⟩:=Dr fF ef
  have hr:r<s.rs.length:=(List.getElem?_eq_some_iff.1 hl).1
  obtain ⟨b',sz,⟨qk,hE⟩,hpx⟩:=hx
  obtain ⟨q1,q2,xs,q3,Ks,hK,hf,q4⟩:=h.roots r _ _ hl hE
  have q1:sz=asz:=q1
  have q2:some b'=qk.1.ownBlock:=q2
  have hK:JC qk.2 qk.1.ownBlock Ks:=hK
  subst q1
  have sT:(a.eval v).cells.size=y.size:=by have:=hcv.length; rw [fF] at this; simpa using this.symm
  obtain ⟨q5,q6⟩:=q3
  have q6:(qk.1=.slice none 0 0∧n=0)∨∃ g cap cur,qk.1=.slice (some ⟨g,0,none⟩) n cap∧w0.base≤g∧w.heap[g]?=some (.cells cur el (0,0))∧n≤cap∧cap≤maxLen∧cur.size=cap*sz∧cur.toList.take (n*sz)=xs:=q6
  rcases q6 with ⟨q6,_⟩|⟨g',cap,cur,q6,q7,q8,q9,q10,q11,q12⟩
  ·rw [q6] at q2; simp [Value.ownBlock] at q2
  have KX:qk.1.ownBlock=some b':=q2.symm
  rw [q6] at q2
  simp only [Value.ownBlock,aq] at q2
  subst q2
  have hi:i<n:=hin.elim id fun ⟨x,g1,g2⟩=>g2▸(hf x g1).1
  have hjs:j+y.size≤sz:=hjs
  have hfit0:i*sz+j+y.size≤n*sz:=by
   have:=gr sz (show i+1≤n by omega)
   rw [Nat.add_mul,Nat.one_mul] at this
   omega
  have hcap:n*sz≤cap*sz:=gr _ q9
  have hrun:=iA (w:=w) hy (o:=i*sz+j) q8 sT (by omega) (hcv.rY)
  rw [hpx]
  refine ⟨_,hrun,mO.refl _ _,?_,fun d hd=>by simp [eh] at hd⟩
  show R T N ay w0 sp { s with rs:=place r _ s.rs } a _ E
  rw [iw _ hr]
  have hl2:(a.eval v).cells.toList.length=y.size:=by simpa using sT
  have hk:ba (AV ay s.rs E) w (w.setRow b' (cur.toList.take (i*sz+j)++(a.eval v).cells.toList++cur.toList.drop (i*sz+j+y.size)).toArray):=
    ⟨by simp,fun k hk hn=>setRow_other w _ k _ fun e=>by subst e; exact hn (.inr ⟨r,_,sz,hl,trivial,bq.own ⟨qk,hE⟩⟩)⟩
  refine h.turn hl trivial hE (by simp) (fun k hk=>setRow_other w _ k _ hk) ⟨rfl,rfl,rfl⟩ ⟨rfl,by rw [q6]; rfl,_,⟨?_,.inr ⟨b',cap,_,q6,q7,setRow_heap w b' cur _ el (0,0) q8,q9,q10,?_,rfl⟩⟩,Ks,hK,om.eG hf,?_⟩
  ·simp [hl2]
   omega
  ·simp [hl2]
   omega
  ·intro i' jD j' hj'
   have hq:i'*sz+j'<n*sz:=by
    have:=gr sz (show i'+1≤n by omega)
    rw [Nat.add_mul,Nat.one_mul] at this
    omega
   have hxs:∀ q,q<n*sz→((cur.toList.take (i*sz+j)++(a.eval v).cells.toList++cur.toList.drop (i*sz+j+y.size)).toArray.toList.take (n*sz))[q]?=if i*sz+j≤q∧q<i*sz+j+y.size then (a.eval v).cells.toList[q-(i*sz+j)]? else xs[q]?:=by
    intro q hq
    rw [dy,if_pos hq,← q12,dy,if_pos hq]
    have h1:(cur.toList.take (i*sz+j)).length=i*sz+j:=by rw [List.length_take,Array.length_toList,q11]; omega
    split
    ·rename_i hc
     rw [dH (by rw [List.length_append,h1,hl2]; exact hc.2),gC (by rw [h1]; exact hc.1),h1]
    ·rename_i hc
     rcases Nat.lt_or_ge q (i*sz+j) with dD|hge
     ·rw [dH (by rw [List.length_append,h1]; omega),dH (by rw [h1]; exact dD),dy,if_pos dD]
     ·have hge2:i*sz+j+y.size≤q:=by omega
      rw [gC (by rw [List.length_append,h1,hl2]; exact hge2),List.getElem?_drop,List.length_append,h1,hl2]
      congr 1; omega
   have hs:∀ b,Ks i' j' b→(w.setRow b' (cur.toList.take (i*sz+j)++(a.eval v).cells.toList++cur.toList.drop (i*sz+j+y.size)).toArray).heap[b]?=w.heap[b]?:=fun b hb=>setRow_other w _ b _ fun e=>by
    subst e
    exact hK.ne _ _ _ hb KX
   by_cases hc:i'=i∧j≤j'∧j'<j+y.size
   ·obtain ⟨rfl,h2,h3⟩:=hc
    obtain ⟨c,x,g1,g2,g3⟩:=om.in_ (j'-j) (by rw [fF]; omega)
    obtain ⟨u,g4,g5⟩:=hcv.nth (i:=j'-j) (x:=x) (by rw [bp]; exact g1)
    refine ⟨u,c,?_,by rw [show j+(j'-j)=j' by omega] at g2; exact g2,?_⟩
    ·rw [hxs _ hq,if_pos (by omega),show i'*sz+j'-(i'*sz+j)=j'-j by omega]; exact g4
    ·have g6:=bh.mono (Env.le_refl E) hk (fun _ _ q=>q) g5
     rcases g3 with rfl|⟨z,rfl,rfl⟩
     ·exact g6
     ·exact g6
   ·obtain ⟨u,c,g1,g2,g3⟩:=q4 i' jD j' hj'
    refine ⟨u,c,?_,by rw [om.out i' j' (by rw [fF]; exact hc)]; exact g2,iU.mono (Env.le_refl E) hk (fun _ _ q=>q) hs g3⟩
    rw [hxs _ hq,if_neg]
    ·exact g1
    ·rintro ⟨h1,h2⟩
     refine hc ?_
     have hii:i'=i:=by
      rcases Nat.lt_trichotomy i' i with h3|h3|h3
      ·have:=gr sz (show i'+1≤i by omega)
       rw [Nat.add_mul,Nat.one_mul] at this
       omega
      ·exact h3
      ·have:=gr sz (show i+1≤i' by omega)
       rw [Nat.add_mul,Nat.one_mul] at this
       omega
     subst hii
     omega
 ·simp at ef
theorem R.J3 (h:R T N ay w0 sp s a w E) {b:Nat} (hf:lB s E b) {l:List C} {cs:Array Value} (hl:aB (bh E (AV ay s.rs E) w) l cs.toList) (t:TypeId) :
  ∃ E',jh T N ay w0 sp s a w E b (.wr (some (.c (.rt b 0 0))) [(b,.box l)]) (.pointer (some ⟨w.heap.size,0,none⟩)) (w.alloc (.cells cs t)) E':=by
 obtain ⟨E',h1,h2,h3,h4⟩:=h.make hf (dead:=none) (x:=.box l) (e:=(some w.heap.size,lW,l.length)) (w':=w.alloc (.cells cs t)) (row:=none) (World.grownBy_alloc w _ none) (fun k hk=>by cases hk)
  (fun k hk=>by simp at hk; omega) (fun k hk=>by simp at hk ⊢; omega) (fun E' dp hE eP _ hk=>⟨w.heap.size,cs,t,rfl,rfl,heap_alloc_new w _,hl.mono fun _ _ q=>bh.mono hE hk eP q⟩)
 refine ⟨E',h3,h1,fun d hd=>?_⟩
 simp only [eh,aq] at hd
 subst hd
 exact ⟨w.heap.size,l.length,⟨lW,h2⟩,by simp⟩
theorem FX (h:R T N ay w0 sp s a w E) (hn:bN s.sl) {b:Nat} (hf:lB s E b) {x:Operand} (t:TypeId) {e:cF} (ef:uR b s x=some e) :
  ∃ E',jh T N ay w0 sp s a w E b e (.pointer (some ⟨w.heap.size,0,none⟩)) (w.alloc (.cells (a.eval x).cells t)) E':=by
 unfold uR at ef
 split at ef
 case h_2=>simp at ef
 rename_i d hd
 split at ef
 case h_2=>simp at ef
 rename_i l hl
 simp only [aq] at ef
 subst ef
 exact h.J3 hf (mC (h.cA hn hd) hl) t
theorem AJ (bQ:dV P T) (h:R T N ay w0 sp s a w E) {b:Nat} (hf:lB s E b) {t:TypeId} {e:cF} (ef:kW T b t=some e) :
  ∃ v w' E',(∀ o:Oper,o.op=.alloc t→(execOp a.eval o).run P w=.ok (.value v) w')∧jh T N ay w0 sp s a w E b e v w' E':=by
 unfold kW at ef
 split at ef
 case h_2=>simp at ef
 rename_i y hy
 have hy:=bQ.ty _ _ hy
 split at ef
 case h_2=>simp at ef
 rename_i l hl
 simp only [aq] at ef
 subst ef
 obtain ⟨i,hi,_,_,hz⟩:=hy.full
 obtain ⟨E',h1⟩:=h.J3 hf (cs:=y.zero.cells) (kO hl) t
 refine ⟨_,_,E',fun o ho=>?_,h1⟩
 have hz0:(zeroValue t).run P w=.ok y.zero w:=by simp [zeroValue,typeInfo,hi,hz]
 simp only [execOp,ho,Instr.alloc,Sem.run_bind,hz0,Result.andThen_ok]
 rfl
theorem Af (h:R T N ay w0 sp s a w E) {b:Nat} (hf:lB s E b) {t:TypeId} {r:Option Operand} {e:cF} (ef:kV T b t r=some e) :
  r=none∧∃ E',jh T N ay w0 sp s a w E b e (.map (some w.heap.size)) (w.alloc (.map #[] 0)) E':=by
 unfold kV at ef
 split at ef
 case h_2=>simp at ef
 simp only [aq] at ef
 subst ef
 refine ⟨rfl,?_⟩
 obtain ⟨E',h1,h2,h3,h4⟩:=h.make hf (dead:=none) (x:=.set []) (e:=(some w.heap.size,lW,0)) (w':=w.alloc (.map #[] 0)) (row:=none) (World.grownBy_alloc w _ none) (fun k hk=>by cases hk)
  (fun k hk=>by simp at hk; omega) (fun k hk=>by simp at hk ⊢; omega) (fun E' dp hE eP _ hk=>⟨w.heap.size,#[],0,rfl,heap_alloc_new w _,.nil⟩)
 refine ⟨E',h3,h1,fun d hd=>?_⟩
 simp only [eh,aq] at hd
 subst hd
 exact ⟨w.heap.size,0,⟨lW,h2⟩,rfl⟩
theorem EA (bQ:dV P T) (h:R T N ay w0 sp s a w E) (hn:bN s.sl) {dst:Option Tmp} {t:TypeId} {m k v:Operand} {e:cF} (ef:mQ T s dst t m k v=some e) (b:Nat) :
  dst=none∧∃ w',(Instr.mapUpdate t (a.eval m) (a.eval k) (a.eval v)).run P w=.ok () w'∧jh T N ay w0 sp s a w E b e undef w' E:=by
 unfold mQ at ef
 split at ef
 ·simp at ef
 refine ⟨rfl,?_⟩
 obtain ⟨hk,ef⟩:=Bool.au ef
 unfold Lq at hk
 split at hk
 case h_2=>simp at hk
 rename_i mX
 have mX:=(bQ.ty _ _ mX).map rfl
 split at hk
 case h_2=>simp at hk
 rename_i zf _
 have zf:=(bQ.ty _ _ zf).int rfl
 split at ef
 case h_2=>simp at ef
 rename_i r n hm hk hv
 obtain ⟨b',sz,⟨hh,hE⟩,hm⟩:=h.cA hn (cz hm)
 have hk:=(h.cA hn (ew hk)).1
 have hv:=(h.cA hn (fi hv)).1
 split at ef
 case h_2=>simp at ef
 rename_i l hl
 rw [cl,bp] at hl
 simp only [aq] at ef
 subst ef
 obtain ⟨w',h1,h2⟩:=KD h hl hE mX zf
 rw [hm,hk,hv]
 refine ⟨w',h1,mO.refl _ _,?_,fun d hd=>by simp [eh] at hd⟩
 show R T N ay w0 sp { s with rs:=place r _ s.rs } a _ E
 rw [iw _ (List.getElem?_eq_some_iff.1 hl).1]
 exact h2
theorem R.Bh (h:R T N ay w0 sp s a w E) {b:Nat} (hf:lB s E b) {el sz n:Nat} {l:List C} {w':World} {hd:Value} {xs:List Value} {row:Option Nat} {dead:Option Nat}
  (hg:w.grownBy w' row) (eM:w'.ownsRow w0.base el sz hd n xs)
  (nk:∀ k,row=some k→∃ r x q,dead=some r∧s.rs[r]?=some x∧x.live∧bq E r k q)
  (jd:∀ k,hd.ownBlock=some k→some k=row∨w.heap.size≤k)
  (hl:aB (bh E (AV ay s.rs E) w) l xs) :
  ∃ E',R T N ay w0 sp { s with rs:=place b (.row el sz n l) (kill dead s.rs) } a w' E'∧mO b E E'∧a7 E' (AV ay (place b (.row el sz n l) (kill dead s.rs)) E') w' (.c (.sa b n)) hd:=by
 obtain ⟨E',h1,h2,h3,h4⟩:=h.make hf (dead:=dead) (x:=.row el sz n l) (e:=(hd.ownBlock,nW hd,sz)) (w':=w') (row:=row) hg nk jd (fun k hk=>by
   rcases eM.2 with ⟨h1,_⟩|⟨g,cap,cur,h1,h2,h3,_⟩
   ·have hk:hd.ownBlock=some k:=hk
    rw [h1] at hk; simp [Value.ownBlock] at hk
   ·have hk:hd.ownBlock=some k:=hk
    rw [h1] at hk
    simp only [Value.ownBlock,aq] at hk
    subst hk
    exact (Array.getElem?_eq_some_iff.1 h3).1)
  (fun E' dp hE eP _ hk=>⟨rfl,rfl,xs,eM,hl.mono fun _ _ q=>bh.mono hE hk eP q⟩)
 refine ⟨E',h1,h3,?_⟩
 rcases eM.2 with ⟨q5,q6⟩|⟨g,cap,cur,q5,_⟩
 ·exact ⟨_,none,0,0,h2,q5,by omega,by rw [q5,q6]⟩
 ·exact ⟨_,_,n,cap,h2,q5,bk _,q5⟩
theorem R.vc (h:R T N ay w0 sp s a w E) {b:Nat} (hf:lB s E b) {el sz n:Nat} {get:Nat→Nat→I} {w':World} {hd:Value} {xs:List Value} {row:Option Nat} {dead:Option Nat}
  (hg:w.grownBy w' row) (eM:w'.ownsRow w0.base el sz hd n xs)
  (nk:∀ k,row=some k→∃ r x q,dead=some r∧s.rs[r]?=some x∧x.live∧bq E r k q)
  (jd:∀ k,hd.ownBlock=some k→some k=row∨w.heap.size≤k)
  (hl:∀ i,i<n→∀ j,j<sz→∃ x,xs[i*sz+j]?=some x∧dm (AV ay s.rs E) w (get i j) x) :
  ∃ E',R T N ay w0 sp { s with rs:=place b (.arr el sz n get) (kill dead s.rs) } a w' E'∧mO b E E'∧a7 E' (AV ay (place b (.arr el sz n get) (kill dead s.rs)) E') w' (.c (.sa b n)) hd:=by
 obtain ⟨E',h1,h2,h3,h4⟩:=h.make hf (dead:=dead) (x:=.arr el sz n get) (e:=(hd.ownBlock,nW hd,sz)) (w':=w') (row:=row) hg nk jd (fun k hk=>by
   rcases eM.2 with ⟨h1,_⟩|⟨g,cap,cur,h1,h2,h3,_⟩
   ·have hk:hd.ownBlock=some k:=hk
    rw [h1] at hk; simp [Value.ownBlock] at hk
   ·have hk:hd.ownBlock=some k:=hk
    rw [h1] at hk
    simp only [Value.ownBlock,aq] at hk
    subst hk
    exact (Array.getElem?_eq_some_iff.1 h3).1)
  (fun E' dp hE eP _ hk=>⟨rfl,rfl,xs,eM,fun i hi j hj=>by
   obtain ⟨x,q1,q2⟩:=hl i hi j hj
   exact ⟨x,q1,dm.mono hk eP q2⟩⟩)
 refine ⟨E',h1,h3,?_⟩
 rcases eM.2 with ⟨q5,q6⟩|⟨g,cap,cur,q5,_⟩
 ·exact ⟨_,none,0,0,h2,q5,by omega,by rw [q5,q6]⟩
 ·exact ⟨_,_,n,cap,h2,q5,bk _,q5⟩
theorem R.Rq (h:R T N ay w0 sp s a w E) {b:Nat} (hf:lB s E b) {el sz n:Nat} {get:Nat→Nat→O} {eG:Option (Nat×List Fc)} {w':World} {hd:Value} {xs:List Value} {row:Option Nat} {dead:Option Nat} {K:Nat→Prop} {Ks:Nat→Nat→Nat→Prop}
  (hg:w.grownBy w' row) (eM:w'.ownsRow w0.base el sz hd n xs)
  (nk:∀ k,row=some k→∃ r x q,dead=some r∧s.rs[r]?=some x∧x.live∧bq E r k q)
  (jd:∀ k,hd.ownBlock=some k→some k=row∨w.heap.size≤k)
  (hK:∀ k,K k→∃ r x q,dead=some r∧s.rs[r]?=some x∧x.live∧di E r k q)
  (hP:JC K hd.ownBlock Ks) (hfo:∀ x,eG=some x→x.1<n∧x.2.length=sz) (xI:∀ i j b,Ks i j b→w'.heap[b]?=w.heap[b]?)
  (hl:∀ i,i<n→∀ j,j<sz→∃ x c,xs[i*sz+j]?=some x∧gg get eG i j=some c∧iU E (AV ay s.rs E) w0.base w c (Ks i j) x) :
  ∃ E',R T N ay w0 sp { s with rs:=place b (.cR el sz n get eG) (kill dead s.rs) } a w' E'∧mO b E E'∧a7 E' (AV ay (place b (.cR el sz n get eG) (kill dead s.rs)) E') w' (.c (.sa b n)) hd:=by
 obtain ⟨E',h1,h2,h3,h4⟩:=h.make hf (dead:=dead) (x:=.cR el sz n get eG) (e:=(hd.ownBlock,(hd,K),sz)) (w':=w') (row:=row) hg nk jd (fun k hk=>by
   rcases eM.2 with ⟨h1,_⟩|⟨g,cap,cur,h1,h2,h3,_⟩
   ·have hk:hd.ownBlock=some k:=hk
    rw [h1] at hk; simp [Value.ownBlock] at hk
   ·have hk:hd.ownBlock=some k:=hk
    rw [h1] at hk
    simp only [Value.ownBlock,aq] at hk
    subst hk
    exact (Array.getElem?_eq_some_iff.1 h3).1)
  (fun E' dp hE eP _ hk=>⟨rfl,rfl,xs,eM,Ks,hP,hfo,fun i hi j hj=>by
   obtain ⟨x,c,q1,q2,q3⟩:=hl i hi j hj
   exact ⟨x,c,q1,q2,iU.mono hE hk eP (xI i j) q3⟩⟩) (fun k q=>.inl (hK k q))
 refine ⟨E',h1,h3,?_⟩
 rcases eM.2 with ⟨q5,q6⟩|⟨g,cap,cur,q5,_⟩
 ·exact ⟨_,none,0,0,h2,q5,by omega,by rw [q5,q6]⟩
 ·exact ⟨_,_,n,cap,h2,q5,bk _,q5⟩
theorem rQ (hn:bN s.sl) {sz:Nat}:∀ {ps:List (Nat×Operand)} {l r:List C},oV sz s.sl ps l=some r→wW sz s [] ps l=some r
 | [],l,r,e=>e
 | p::ps,l,r,e=>by
   obtain ⟨k,x⟩:=p
   have e:(match Go.V.cA s.sl x with
    | some d=>match d.cells with
      | some cs=>(Bool.rec none (match put l (k*sz) cs with
        | some l'=>oV sz s.sl ps l'
        | none=>none) (Nat.beq cs.length sz&&Nat.blt 0 sz):Option (List C))
      | none=>none
    | none=>none)=some r:=e
   split at e
   case h_2=>simp at e
   rename_i d hd
   split at e
   case h_2=>simp at e
   rename_i cs hcs
   obtain ⟨h1,e⟩:=Bool.au e
   split at e
   case h_2=>simp at e
   rename_i l' uV
   simp only [wW,dR hn hd,hcs,h1,uV]
   exact rQ hn e
theorem KG (bQ:dV P T) (h:R T N ay w0 sp s a w E) (hn:bN s.sl) {b:Nat} (hf:lB s E b) {t n:Nat} {ps:Array (Nat×Operand)} {e:cF} {cX:Bool} (ef:LM T b s cX t n ps.toList=some e) :
  ∃ v w' E',(Instr.buildSlice t n (ps.map fun (i,x)=>(i,a.eval x))).run P w=.ok v w'∧jh T N ay w0 sp s a w E b e v w' E':=by
 unfold LM at ef
 split at ef
 case h_2=>simp at ef
 rename_i xo wZ z0 el rP
 have rP:=bQ.ty _ _ rP
 split at ef
 case h_2=>simp at ef
 rename_i y hy
 have hy:=bQ.ty _ _ hy
 split at ef
 case h_2=>simp at ef
 rename_i z hz
 split at ef
 case h_2=>simp at ef
 rename_i l hl
 obtain ⟨hb,ef⟩:=Bool.au ef
 simp only [aq] at ef
 subst ef
 simp only [dz] at hb
 have fU:=aK hb.1
 have He:=eI hb.2
 have vE:z.length=y.size:=by
  have:=(kO (E:=E) (av:=AV ay s.rs E) (w:=w) hz).length
  rw [this]
  simpa using hy.zs
 obtain ⟨cs,h1,h2,h3⟩:=wo bQ h (bK.nil a) rP rfl hy hz (rQ hn hl) vE fU He
 have hm:n≤maxLen:=by
  have:n≤n*y.size:=Nat.le_mul_of_pos_right _ fU
  simp only [maxLen]; omega
 have eM:=World.ownsRow_lit (e:=el) (size:=y.size) (base:=w0.base) w cs n h.size_le hm (by rw [← h3,h2.length]; simp)
 rcases jX cX b el y.size n l with hc|⟨is,hi,hc⟩|⟨uu,hc⟩
 case inr.inr=>
  rw [hc]
  subst uu
  obtain ⟨E',h4,h5,h6⟩:=h.vc hf (dead:=none) (row:=none) (n:=0) (get:=oJ) (World.grownBy_alloc w _ none) eM (fun k hk=>by cases hk) (fun k hk=>by simp [Value.ownBlock] at hk; right; omega) (fun i hi=>by omega)
  refine ⟨_,_,E',h1,h5,h4,fun d hd=>?_⟩
  simp only [eh,aq] at hd
  subst hd
  exact h6
 case inr.inl=>
  rw [hc]
  have hb:=iQ w (.cells cs el)
  refine ⟨_,_,E,h1,mO.refl _ _,h.grown hb,fun d hd=>?_⟩
  simp only [eh,aq] at hd
  subst hd
  have him:=qp hi
  subst him
  have hx:=vG h2
  have hxl:=hx.length
  have hE:=(h.grown hb)
  refine ⟨_,n,rfl,bk _,hm,fun h0=>⟨_,rfl,rfl,fun q=>?_,by rw [World.size_alloc]; exact Nat.lt_succ_self _,fun i jD j hj=>?_⟩⟩
  ·have:w.heap.size<w.heap.size:=by
    rcases q with q|⟨r,x,sz,g1,g2,g3⟩
    ·exact h.jT q
    ·exact (h.dh r x _ sz g1 g2 g3).2
   omega
  ·have dD:i*y.size+j<n*y.size:=by
    have:=gr y.size (show i+1≤n by omega)
    rw [Nat.add_mul,Nat.one_mul] at this
    omega
   obtain ⟨x,h5,h6⟩:=og hx (q:=i*y.size+j) (by rw [hxl,← h2.length,h3]; exact dD)
   refine ⟨x,?_,dm.mono (ba.my hb) (fun _ _ q=>q) h6⟩
   rw [Addr.add_mid,de (heap_alloc_new w _)]
   simpa using h5
 rw [hc]
 obtain ⟨E',h4,h5,h6⟩:=h.Bh hf (dead:=none) (row:=none) (n:=n) (l:=l) (World.grownBy_alloc w _ none) eM (fun k hk=>by cases hk) (fun k hk=>by simp [Value.ownBlock] at hk; right; omega) h2
 refine ⟨_,_,E',h1,h5,h4,fun d hd=>?_⟩
 simp only [eh,aq] at hd
 subst hd
 exact h6
theorem Dh (bQ:dV P T) (h:R T N ay w0 sp s a w E) (hn:bN s.sl) {b:Nat} (hf:lB s E b) {t:TypeId} {l c:Operand} {e:cF} (ef:mB T b s t l c=some e) :
  ∃ v w' E',(Instr.makeSlice t (a.eval l) (a.eval c)).run P w=.ok v w'∧jh T N ay w0 sp s a w E b e v w' E':=by
 unfold mB at ef
 split at ef
 case h_2=>simp at ef
 rename_i xo wZ z0 el rP
 have hu:=(bQ.ty _ _ rP).slice rfl
 split at ef
 case h_2=>simp at ef
 rename_i y hy
 have hy:=bQ.ty _ _ hy
 split at ef
 case h_2=>simp at ef
 rename_i z hz
 split at ef
 case h_2=>simp at ef
 rename_i n m hl hc
 split at ef
 case h_2=>simp at ef
 rename_i is his
 obtain ⟨fU,ef⟩:=Bool.au ef
 obtain ⟨hb,ef⟩:=Bool.au ef
 obtain ⟨h1,ef⟩:=Bool.au ef
 simp only [aq] at ef
 subst ef
 simp only [dz] at hb
 have h1:=bL h1
 subst h1
 have fU:=aK fU
 have hm:=eI hb.1
 have hby:=eI hb.2
 have hl:=(h.cA hn (ew hl)).1
 have hc:=(h.cA hn (ew hc)).1
 have hzr:=kO (E:=E) (av:=AV ay s.rs E) (w:=w) hz
 have vE:z.length=y.size:=by rw [hzr.length]; simpa using hy.zs
 obtain ⟨inf,hin,fF,hbytes,hzero⟩:=hy.full
 obtain ⟨w',hr,eM,hg⟩:=run_make_full w w0.base t el inf y.zero y.size hu hin hzero fF .i64 .i64 n (by rw [hbytes,Nat.mul_comm]; exact hby) hm h.size_le
 have HP:aB (bh E (AV ay s.rs E) w) (OM z n) (madeCells y.zero.cells (n*y.size)).toList:=by
  refine aB.tD (by rw [jz,vE]; simp [size_madeCells]) fun i x v hx hv=>?_
  have hi:i<n*z.length:=by
   have:=(List.getElem?_eq_some_iff.1 hx).1
   rwa [jz] at this
  rw [vd z n i hi] at hx
  have jD:i<n*y.size:=by rw [← vE]; exact hi
  have hcs:y.zero.cells.size=y.size:=hy.zs
  have hmod:i%y.zero.cells.size<y.zero.cells.size:=Nat.mod_lt _ (by rw [hcs]; exact fU)
  have hv':v=y.zero.cells[i%y.zero.cells.size]'hmod:=by
   have:(madeCells y.zero.cells (n*y.size)).toList[i]?=some (y.zero.cells[i%y.zero.cells.size]!):=by
    simp [madeCells,jD]
   rw [this] at hv
   simp only [aq] at hv
   rw [← hv,getElem!_pos y.zero.cells _ hmod]
  refine aB.get hzr hx (i:=i%z.length) ?_
  rw [hv',show i%z.length=i%y.zero.cells.size by rw [vE,hcs]]
  simp [hmod]
 have hil:z=lift is:=qp his
 have hisl:is.length=y.size:=by rw [← vE,hil,lG]
 have hcells2:∀ i,i<n→∀ j,j<y.size→∃ x,(madeCells y.zero.cells (n*y.size)).toList[i*y.size+j]?=some x∧dm (AV ay s.rs E) w (bH is j) x:=by
  intro i hi j hj
  have dD:i*y.size+j<n*y.size:=by
   have:=gr y.size (show i+1≤n by omega)
   rw [Nat.add_mul,Nat.one_mul] at this
   omega
  have e1:(OM z n)[i*y.size+j]?=some (.im (bH is j)):=by
   rw [vd z n _ (by rw [vE]; exact dD),vE]
   have e2:(i*y.size+j)%y.size=j:=by rw [Nat.mul_comm,Nat.mul_add_mod]; exact Nat.mod_eq_of_lt hj
   rw [e2,hil,pR (by rw [hisl]; exact hj)]
  obtain ⟨x,h7,h8⟩:=HP.nth (i:=i*y.size+j) (x:=.im (bH is j)) (by rw [bp]; exact e1)
  exact ⟨x,h7,h8⟩
 obtain ⟨E',h4,h5,h6⟩:=h.vc hf (dead:=none) (row:=none) (n:=n) (get:=fun _=>bH is) hg eM (fun k hk=>by cases hk) (fun k hk=>by simp [Value.ownBlock] at hk; right; omega) hcells2
 refine ⟨.slice (some ⟨w.heap.size,0,none⟩) n n,w',E',?_,h5,h4,fun d hd=>?_⟩
 ·rw [hl,hc]; exact hr
 ·simp only [eh,aq] at hd
  subst hd
  exact h6
theorem Lp (get:Nat→Nat→I) (sz n i k:Nat) (h:k≤n):(uQ get sz i n).take (k*sz)=uQ get sz i k:=by
 apply List.ext_getElem?
 intro q
 rw [dy]
 split
 ·rename_i hq
  have hz:0<sz:=by
   rcases Nat.eq_zero_or_pos sz with e|e
   ·subst e; simp at hq
   ·exact e
  have e1:q/sz*sz+q%sz=q:=by rw [Nat.mul_comm]; exact Nat.div_add_mod q sz
  have hk:q/sz<k:=Nat.div_lt_of_lt_mul (by rw [Nat.mul_comm]; exact hq)
  have hm:q%sz<sz:=Nat.mod_lt _ hz
  have h1:=mS get sz n i (q/sz) (q%sz) (by omega) hm
  have h2:=mS get sz k i (q/sz) (q%sz) hk hm
  rw [e1] at h1 h2
  rw [h1,h2]
 ·rename_i hq
  rw [List.getElem?_eq_none (by rw [mF]; omega)]
theorem sI {e:fQ} {el sz n:Nat} {l:List C} {base:Nat} {av:Nat→Prop} (hrr:aM E av base w e (.row el sz n l)) {ao:Option Addr} {n' cap k:Nat} (h2:e.2.1.1=.slice ao n' cap) (h3:k≤n') (UT:k≤n) :
  ∃ ao' cap',Value.slice ao k cap=.slice ao' k cap'∧(ao'=none→k=0)∧∃ news:List Value,news.length=k*sz∧(∀ ad,ao'=some ad→∀ j u,news[j]?=some u→w.cell? (ad.add j)=some u)∧(∀ u∈news,u.oneCell'=true)∧
   aB (bh E av w) (l.take (k*sz)) news:=by
 obtain ⟨q1,q2,xs,q3,q4⟩:=hrr
 have hxl:=q3.1
 have hks:k*sz≤n*sz:=gr _ UT
 have hxk:(xs.take (k*sz)).length=k*sz:=by rw [List.length_take]; omega
 rcases q3.2 with ⟨q5,q6⟩|⟨g,cap',cur,q5,q6,q7,q8,q9,q10,q11⟩
 ·rw [h2] at q5
  simp only [dT] at q5
  obtain ⟨rfl,rfl,rfl⟩:=q5
  have:k=0:=by omega
  subst this
  exact ⟨none,0,rfl,fun _=>rfl,[],by simp,fun _ _ j u hj=>(by simp at hj),fun u hu=>(by cases hu),by simp; exact .nil⟩
 ·rw [h2] at q5
  simp only [dT] at q5
  obtain ⟨rfl,rfl,rfl⟩:=q5
  refine ⟨_,cap,rfl,fun e=>(by simp at e),xs.take (k*sz),hxk,?_,?_,q4.take _⟩
  ·intro ad he j u hj
   simp only [aq] at he
   subst he
   rw [Addr.add_mid,de q7]
   rw [← q11,List.take_take,dy] at hj
   split at hj
   ·simpa using hj
   ·simp at hj
  ·exact aB.rY (q4.take _)
theorem xe (h:R T N ay w0 sp s a w E) {c:C} {vs:Value} {sz k:Nat} {l':List C} (hs:wS s.rs c=some (sz,k,l')) (hr:bh E (AV ay s.rs E) w c vs) :
  ∃ ao cap,vs=.slice ao k cap∧(ao=none→k=0)∧∃ news:List Value,news.length=k*sz∧(∀ ad,ao=some ad→∀ j u,news[j]?=some u→w.cell? (ad.add j)=some u)∧(∀ u∈news,u.oneCell'=true)∧
   aB (bh E (AV ay s.rs E) w) l' news:=by
 unfold wS at hs
 split at hs
 ·rename_i cQ k' get
  simp only [aq,bs] at hs
  obtain ⟨rfl,rfl,rfl⟩:=hs
  obtain ⟨ao,cap,h1,h2,news,h3,h4,h5,h6⟩:=Lm h (src:=.c (.im (.sl cQ k' get))) rfl hr
  refine ⟨ao,cap,h1,h2,news,h3,h4,h5,aB.Hf (by rw [mF,h3]) fun q x hx=>?_⟩
  have hq:q<k'*cQ:=by have:=(List.getElem?_eq_some_iff.1 hx).1; rwa [mF] at this
  have hz:0<cQ:=by
   rcases Nat.eq_zero_or_pos cQ with e|e
   ·subst e; simp at hq
   ·exact e
  have e1:q/cQ*cQ+q%cQ=q:=by rw [Nat.mul_comm]; exact Nat.div_add_mod q cQ
  have hk:q/cQ<k':=Nat.div_lt_of_lt_mul (by rw [Nat.mul_comm]; exact hq)
  have hm:q%cQ<cQ:=Nat.mod_lt _ hz
  obtain ⟨y,h7,h8⟩:=h6 (q/cQ) hk (q%cQ) hm
  have h9:=mS get cQ k' 0 (q/cQ) (q%cQ) hk hm
  rw [e1] at h7 h9
  rw [hx] at h9
  simp only [Nat.zero_add,aq] at h9
  subst h9
  exact ⟨y,h7,h8⟩
 ·obtain ⟨rfl,_⟩:=hr
  simp only [aq,bs] at hs
  obtain ⟨rfl,rfl,rfl⟩:=hs
  exact ⟨none,0,rfl,fun _=>rfl,[],rfl,fun _ q=>(by cases q),fun _ q=>(by cases q),.nil⟩
 ·rename_i q k'
  split at hs
  case h_3=>simp at hs
  ·rename_i el cQ n l hl
   rw [cl,bp] at hl
   obtain ⟨UT,hs⟩:=Bool.au hs
   split at hs
   case h_2=>simp at hs
   rename_i l2 hl2
   obtain ⟨rfl,hlen⟩:=mT _ _ _ hl2
   simp only [aq,bs] at hs
   obtain ⟨rfl,rfl,rfl⟩:=hs
   obtain ⟨e,ao,n',cap,h1,h2,h3,rfl⟩:=hr
   exact sI (h.roots q _ _ hl h1) h2 h3 (eI UT)
  ·rename_i el cQ n get hl
   rw [cl,bp] at hl
   obtain ⟨UT,hs⟩:=Bool.au hs
   simp only [aq,bs] at hs
   obtain ⟨rfl,rfl,rfl⟩:=hs
   obtain ⟨e,ao,n',cap,h1,h2,h3,rfl⟩:=hr
   have:=sI (Sl (h.roots q _ _ hl h1)) h2 h3 (eI UT)
   rwa [Lp _ _ _ _ _ (eI UT)] at this
 ·simp at hs
theorem GA (h:R T N ay w0 sp s a w E) {c:C} {vs:Value} {sz k:Nat} {get:Nat→Nat→I} (hs:sQ sz s.rs c=some (k,get)) (hr:bh E (AV ay s.rs E) w c vs) :
  ∃ ao cap,vs=.slice ao k cap∧(ao=none→k=0)∧∃ news:List Value,news.length=k*sz∧(∀ ad,ao=some ad→∀ j u,news[j]?=some u→w.cell? (ad.add j)=some u)∧(∀ u∈news,u.oneCell'=true)∧
   (∀ i,i<k→∀ j,j<sz→∃ x,news[i*sz+j]?=some x∧dm (AV ay s.rs E) w (get i j) x):=by
 have fin:∀ {l':List C},wS s.rs c=some (sz,k,l')→(∀ i,i<k→∀ j,j<sz→l'[i*sz+j]?=some (.im (get i j)))→∃ ao cap,vs=.slice ao k cap∧(ao=none→k=0)∧∃ news:List Value,news.length=k*sz∧(∀ ad,ao=some ad→∀ j u,news[j]?=some u→w.cell? (ad.add j)=some u)∧(∀ u∈news,u.oneCell'=true)∧
   (∀ i,i<k→∀ j,j<sz→∃ x,news[i*sz+j]?=some x∧dm (AV ay s.rs E) w (get i j) x):=by
  intro l' h1 h2
  obtain ⟨ao,cap,q1,q2,news,q3,q4,q5,q6⟩:=xe h h1 hr
  refine ⟨ao,cap,q1,q2,news,q3,q4,q5,fun i hi j hj=>?_⟩
  obtain ⟨x,q7,q8⟩:=q6.nth (i:=i*sz+j) (x:=.im (get i j)) (by rw [bp]; exact h2 i hi j hj)
  exact ⟨x,q7,q8⟩
 have pN:∀ (n:Nat) (g:Nat→Nat→I),∀ i,i<n→∀ j,j<sz→(uQ g sz 0 n)[i*sz+j]?=some (.im (g i j)):=fun n g i hi j hj=>by
  have:=mS g sz n 0 i j hi hj
  rwa [Nat.zero_add] at this
 unfold sQ at hs
 split at hs
 ·rename_i cQ k' get'
  replace hs:=Bool.au hs
  obtain ⟨h1,h2⟩:=hs
  have h1:=bL h1
  subst h1
  simp only [aq,bs] at h2
  obtain ⟨rfl,rfl⟩:=h2
  exact fin (l':=uQ get' cQ 0 k') rfl (pN _ _)
 ·obtain ⟨rfl,_⟩:=hr
  simp only [aq,bs] at hs
  obtain ⟨rfl,rfl⟩:=hs
  exact ⟨none,0,rfl,fun _=>rfl,[],by simp,fun _ q=>(by cases q),fun _ q=>(by cases q),fun i hi=>by omega⟩
 ·rename_i q k'
  split at hs
  case h_3=>simp at hs
  ·rename_i el cQ n l hl
   obtain ⟨h1,hs⟩:=Bool.au hs
   simp only [dz] at h1
   have h2:=bL h1.2
   subst h2
   split at hs
   case h_2=>simp at hs
   rename_i l2 hl2
   split at hs
   case h_2=>simp at hs
   rename_i is his
   simp only [aq,bs] at hs
   obtain ⟨rfl,rfl⟩:=hs
   refine fin (l':=l2) (by simp only [wS,hl,h1.1,hl2]) fun i hi j hj=>?_
   have him:=qp his
   obtain ⟨rfl,hlen⟩:=mT _ _ _ hl2
   have dD:i*cQ+j<k'*cQ:=by
    have:=gr cQ (show i+1≤k' by omega)
    rw [Nat.add_mul,Nat.one_mul] at this
    omega
   have hil:is.length=k'*cQ:=by rw [← lG,← him,List.length_take]; omega
   rw [him]
   exact pR (by rw [hil]; exact dD)
  ·rename_i el cQ n get' hl
   replace hs:=Bool.au hs
   obtain ⟨h1,h3⟩:=hs
   have h1:=bL h1
   subst h1
   obtain ⟨h2,h4⟩:=Bool.au h3
   simp only [aq,bs] at h4
   obtain ⟨rfl,rfl⟩:=h4
   exact fin (l':=uQ get' cQ 0 k') (by simp only [wS,hl,h2]) (pN _ _)
 ·simp at hs
theorem wg {t el:TypeId} {y0 y:Ty} (rP:cW P t y0) (hk:y0.kd=.slice el) (hy:cW P el y) (ao:Option Addr) (cap:Nat) (ty:TypeId) :
  (Builtin.append_ #[t,t] ty #[.slice none 0 0,.slice ao 0 cap]).run P w=.ok (.slice none 0 0) w:=by
 obtain ⟨i,hi,_⟩:=hy.full
 cases ao<;>simp [Builtin.append_,run_underlying (rP.slice hk),sizeOf,typeInfo,hi,Builtin.lenOf,Builtin.firstCells,loadCells,loadCellsFrom]
theorem zJ (h:R T N ay w0 sp s a w E) {b:Nat} (hf:lB s E b) {t el:TypeId} {y0 y:Ty} (rP:cW P t y0) (hk:y0.kd=.slice el) (hy:cW P el y) (fU:0<y.size)
  {k:Nat} {l':List C} {c:C} {v:Value} (hc:bh E (AV ay s.rs E) w c v) {ao:Option Addr} {cap:Nat} (sv:ao=none→k=0) {news:List Value} (hl:news.length=k*y.size)
  (hcell:∀ ad,ao=some ad→∀ j u,news[j]?=some u→w.cell? (ad.add j)=some u) (h1:∀ u∈news,u.oneCell'=true) (hrel:aB (bh E (AV ay s.rs E) w) l' news)
  {e:cF} (ef:C3 el y.size k l' y.bytes b s.rs c=some e) (ty:TypeId) :
  ∃ v' w' E',(Builtin.append_ #[t,t] ty #[v,.slice ao k cap]).run P w=.ok v' w'∧jh T N ay w0 sp s a w E b e v' w' E':=by
 unfold C3 at ef
 split at ef
 ·obtain ⟨rfl,_⟩:=hc
  split at ef
  ·simp only [aq] at ef
   subst ef
   refine ⟨_,w,E,wg rP hk hy ao cap ty,mO.refl _ _,h,fun d hd=>?_⟩
   simp only [eh,aq] at hd
   subst hd
   exact ⟨rfl,rfl⟩
  ·obtain ⟨hroom,ef⟩:=Bool.au ef
   simp only [aq] at ef
   subst ef
   rename_i k
   simp only [cg,dz] at hroom
   have hroom:room (k+1) y.bytes:=⟨eI hroom.1,eI hroom.2⟩
   obtain ⟨v',w',q1,q2,q3,q4⟩:=gq rP hk hy fU (w.ownsRow_nil w0.base el y.size) h.size_le sv hl hcell h1 (by simpa using hroom) ty
   simp only [Nat.zero_add,List.nil_append] at q2
   obtain ⟨E',h4,h5,h6⟩:=h.Bh hf (dead:=none) (row:=none) (n:=k+1) (l:=l') q3 q2 (fun k hk=>by cases hk) (fun k hk=>by
    rcases q4 k hk with q5|q5
    ·simp [Value.ownBlock] at q5
    ·exact .inr q5) hrel
   refine ⟨v',w',E',q1,h5,h4,fun d hd=>?_⟩
   simp only [eh,aq] at hd
   subst hd
   exact h6
 ·rename_i r m
  split at ef
  case h_3=>simp at ef
  ·rename_i pM cQ n l hlr
   rw [cl,bp] at hlr
   obtain ⟨he,ef⟩:=Bool.au ef
   obtain ⟨hroom,ef⟩:=Bool.au ef
   simp only [aq] at ef
   subst ef
   simp only [dz] at he hroom
   have he1:=bL he.1
   have RZ:=bL he.2
   subst he1 RZ
   have hmn:=bL hroom.1
   subst hmn
   have hroom:=hroom.2
   simp only [cg,dz] at hroom
   have hroom:room (m+k) y.bytes:=⟨eI hroom.1,eI hroom.2⟩
   obtain ⟨e',a',n',cap',h2,h3,h4,rfl⟩:=hc
   obtain ⟨q1,q2,xs,q3,q4⟩:=h.roots r _ _ hlr h2
   have xY:n'=m:=by
    rcases q3.2 with ⟨q5,q6⟩|⟨g,cap2,cur,q5,_⟩
    ·rw [h3] at q5; simp only [dT] at q5; omega
    ·rw [h3] at q5; simp only [dT] at q5; omega
   subst xY
   rw [← h3]
   obtain ⟨v',w',p1,p2,p3,p4⟩:=gq rP hk hy fU q3 h.size_le sv hl hcell h1 hroom ty
   have jr:∀ b,e'.2.1.1.ownBlock=some b→bq E r b e'.2.2:=by
    intro b hb
    obtain ⟨e1,e2,e3⟩:=e'
    have q2:e1=e2.1.ownBlock:=q2
    have hb:e2.1.ownBlock=some b:=hb
    rw [hb] at q2
    subst q2
    exact ⟨e2,h2⟩
   obtain ⟨E',h5,h6,h7⟩:=h.Bh hf (dead:=some r) (row:=e'.2.1.1.ownBlock) (n:=n'+k) (l:=l++l') p3 p2 (fun b hb=>⟨r,_,_,rfl,hlr,trivial,jr b hb⟩) (fun b hb=>p4 b hb) (q4.append hrel)
   have hkill:kill (some r) s.rs=setAt s.rs r .dead:=by rw [aQ]; rfl
   rw [hkill] at h5 h7
   refine ⟨v',w',E',p1,h6,h5,fun d hd=>?_⟩
   simp only [eh,aq] at hd
   subst hd
   exact h7
  ·rename_i pM cQ n get hlr
   rw [cl,bp] at hlr
   split at ef
   case h_2=>simp at ef
   obtain ⟨he,ef⟩:=Bool.au ef
   obtain ⟨hroom,ef⟩:=Bool.au ef
   simp only [aq] at ef
   subst ef
   simp only [dz] at he hroom
   have he1:=bL he.1
   have RZ:=bL he.2
   subst he1 RZ
   have hmn:=bL hroom.1
   subst hmn
   have hroom:=hroom.2
   simp only [cg,dz] at hroom
   have hroom:room (m+1) y.bytes:=⟨eI hroom.1,eI hroom.2⟩
   obtain ⟨e',a',n',cap',h2,h3,h4,rfl⟩:=hc
   obtain ⟨q1,q2,xs,q3,Ks,hK,hfo,q4⟩:=h.roots r _ _ hlr h2
   have xY:n'=m:=by
    rcases q3.2 with ⟨q5,q6⟩|⟨g,cap2,cur,q5,_⟩
    ·rw [h3] at q5; simp only [dT] at q5; omega
    ·rw [h3] at q5; simp only [dT] at q5; omega
   subst xY
   rw [← h3]
   obtain ⟨v',w',p1,p2,p3,p4⟩:=gq rP hk hy fU q3 h.size_le sv hl hcell h1 hroom ty
   have jr:∀ b,e'.2.1.1.ownBlock=some b→bq E r b e'.2.2:=by
    intro b hb
    obtain ⟨e1,e2,e3⟩:=e'
    have q2:e1=e2.1.ownBlock:=q2
    have hb:e2.1.ownBlock=some b:=hb
    rw [hb] at q2
    subst q2
    exact ⟨e2,h2⟩
   have hKo:∀ k,e'.2.1.2 k→di E r k e'.2.2:=fun k hk=>⟨e',h2,rfl,.inr hk⟩
   have hxl:=q3.1
   have hl1:l'.length=y.size:=by rw [hrel.length,hl]; omega
   obtain ⟨E',h5,h6,h7⟩:=h.Rq hf (dead:=some r) (row:=e'.2.1.1.ownBlock) (n:=n'+1) (get:=get) (eG:=some (n',l'.map Fc.c)) (K:=e'.2.1.2) (Ks:=Ks) p3 p2 (fun b hb=>⟨r,_,_,rfl,hlr,trivial,jr b hb⟩) (fun b hb=>p4 b hb)
    (fun k hk=>⟨r,_,_,rfl,hlr,trivial,hKo k hk⟩)
    ⟨hK.sub,fun i j b hb e=>by
     rcases p4 b e with p5|p5
     ·exact hK.ne i j b hb p5.symm
     ·have:=(h.dh r _ b _ hlr trivial (hKo b (hK.sub i j b hb))).2
      omega,hK.inj⟩
    (fun x hx=>by simp only [aq] at hx; subst hx; exact ⟨Nat.lt_succ_self _,by simpa using hl1⟩)
    (fun i j b hb=>p3.block b (h.dh r _ b _ hlr trivial (hKo b (hK.sub i j b hb))).2 fun e=>hK.ne i j b hb e.symm)
    (fun i hi j hj=>by
     unfold gg
     cases hb:Nat.beq i n' with
     | true=>
       have jD:=Nat.eq_of_beq_eq_true hb
       subst jD
       simp only [bp]
       have hjl:j<l'.length:=by omega
       have hx:=eY hjl
       obtain ⟨u,g1,g2⟩:=hrel.nth (i:=j) (x:=l'[j]) (by rw [bp]; exact hx)
       exact ⟨u,.c l'[j],by rw [gC (by omega),hxl,Nat.add_sub_cancel_left]; exact g1,by simp only [cf,List.getElem?_map,hx]; rfl,g2⟩
     | false=>
       have rA:i≠n':=fun e=>by rw [e,cf] at hb; cases hb
       obtain ⟨u,c,g1,g2,g3⟩:=q4 i (by omega) j hj
       have dD:i*y.size+j<xs.length:=(List.getElem?_eq_some_iff.1 g1).1
       exact ⟨u,c,by rw [dH dD]; exact g1,by simp only [hb]; exact g2,g3⟩)
   have hkill:kill (some r) s.rs=setAt s.rs r .dead:=by rw [aQ]; rfl
   rw [hkill] at h5 h7
   refine ⟨v',w',E',p1,h6,h5,fun d hd=>?_⟩
   simp only [eh,aq] at hd
   subst hd
   exact h7
 ·simp at ef
theorem Gw (h:R T N ay w0 sp s a w E) {b:Nat} (hf:lB s E b) {t el:TypeId} {y0 y:Ty} (rP:cW P t y0) (hk:y0.kd=.slice el) (hy:cW P el y) (fU:0<y.size)
  {k:Nat} {get':Nat→Nat→I} {c:C} {v:Value} (hc:bh E (AV ay s.rs E) w c v) {ao:Option Addr} {cap:Nat} (sv:ao=none→k=0) {news:List Value} (hl:news.length=k*y.size)
  (hcell:∀ ad,ao=some ad→∀ j u,news[j]?=some u→w.cell? (ad.add j)=some u) (h1:∀ u∈news,u.oneCell'=true) (hrel:∀ i,i<k→∀ j,j<y.size→∃ x,news[i*y.size+j]?=some x∧dm (AV ay s.rs E) w (get' i j) x)
  {e:cF} (ef:qx el y.size k get' y.bytes b s.rs c=some e) (ty:TypeId) :
  ∃ v' w' E',(Builtin.append_ #[t,t] ty #[v,.slice ao k cap]).run P w=.ok v' w'∧jh T N ay w0 sp s a w E b e v' w' E':=by
 unfold qx at ef
 split at ef
 ·obtain ⟨rfl,_⟩:=hc
  obtain ⟨hroom,ef⟩:=Bool.au ef
  simp only [aq] at ef
  subst ef
  simp only [cg,dz] at hroom
  have hroom:room k y.bytes:=⟨eI hroom.1,eI hroom.2⟩
  obtain ⟨v',w',q1,q2,q3,q4⟩:=gq rP hk hy fU (w.ownsRow_nil w0.base el y.size) h.size_le sv hl hcell h1 (by simpa using hroom) ty
  simp only [Nat.zero_add,List.nil_append] at q2
  obtain ⟨E',h4,h5,h6⟩:=h.vc hf (dead:=none) (row:=none) (n:=k) (get:=get') q3 q2 (fun k hk=>by cases hk) (fun k hk=>by
   rcases q4 k hk with q5|q5
   ·simp [Value.ownBlock] at q5
   ·exact .inr q5) hrel
  refine ⟨v',w',E',q1,h5,h4,fun d hd=>?_⟩
  simp only [eh,aq] at hd
  subst hd
  exact h6
 ·rename_i r m
  split at ef
  case h_2=>simp at ef
  rename_i pM cQ n get hlr
  rw [cl,bp] at hlr
  obtain ⟨he,ef⟩:=Bool.au ef
  obtain ⟨hroom,ef⟩:=Bool.au ef
  obtain ⟨hmn,ef⟩:=Bool.au ef
  simp only [aq] at ef
  subst ef
  simp only [dz] at he
  have he1:=bL he.1
  have RZ:=bL he.2
  subst he1 RZ
  have hmn:=bL hmn
  subst hmn
  simp only [cg,dz] at hroom
  have hroom:room (m+k) y.bytes:=⟨eI hroom.1,eI hroom.2⟩
  obtain ⟨e',a',n',cap',h2,h3,h4,rfl⟩:=hc
  obtain ⟨q1,q2,xs,q3,q4⟩:=h.roots r _ _ hlr h2
  have xY:n'=m:=by
   rcases q3.2 with ⟨q5,q6⟩|⟨g,cap2,cur,q5,_⟩
   ·rw [h3] at q5; simp only [dT] at q5; omega
   ·rw [h3] at q5; simp only [dT] at q5; omega
  subst xY
  rw [← h3]
  obtain ⟨v',w',p1,p2,p3,p4⟩:=gq rP hk hy fU q3 h.size_le sv hl hcell h1 hroom ty
  have jr:∀ b,e'.2.1.1.ownBlock=some b→bq E r b e'.2.2:=by
   intro b hb
   obtain ⟨e1,e2,e3⟩:=e'
   have q2:e1=e2.1.ownBlock:=q2
   have hb:e2.1.ownBlock=some b:=hb
   rw [hb] at q2
   subst q2
   exact ⟨e2,h2⟩
  obtain ⟨E',h5,h6,h7⟩:=h.vc hf (dead:=some r) (row:=e'.2.1.1.ownBlock) (n:=n'+k) (get:=gP n' get get') p3 p2 (fun b hb=>⟨r,_,_,rfl,hlr,trivial,jr b hb⟩) (fun b hb=>p4 b hb) (fun i hi j hj=>by
   have hxl:=q3.1
   rw [Q5]
   unfold app
   by_cases hin:i<n'
   ·obtain ⟨x,g1,g2⟩:=q4 i hin j hj
    refine ⟨x,?_,by rw [if_pos hin]; exact g2⟩
    rw [dH (List.getElem?_eq_some_iff.1 g1).1]
    exact g1
   ·obtain ⟨x,g1,g2⟩:=hrel (i-n') (by omega) j hj
    refine ⟨x,?_,by rw [if_neg hin]; exact g2⟩
    have e1:i*y.size+j=n'*y.size+((i-n')*y.size+j):=by
     have:i*y.size=n'*y.size+(i-n')*y.size:=by rw [← Nat.add_mul]; congr 1; omega
     omega
    rw [gC (by rw [hxl,e1]; omega),hxl,e1,Nat.add_sub_cancel_left]
    exact g1)
  have hkill:kill (some r) s.rs=setAt s.rs r .dead:=by rw [aQ]; rfl
  rw [hkill] at h5 h7
  refine ⟨v',w',E',p1,h6,h5,fun d hd=>?_⟩
  simp only [eh,aq] at hd
  subst hd
  exact h7
 ·simp at ef
theorem GN (bQ:dV P T) (h:R T N ay w0 sp s a w E) (hn:bN s.sl) {b:Nat} (hf:lB s E b) {ts:List TypeId} {xs:List Operand} {e:cF} (ef:pw T b s ts xs=some e) (ty:TypeId) :
  (∃ l,e=.cX l)∨∃ v' w' E',(Builtin.append_ ts.toArray ty (xs.map a.eval).toArray).run P w=.ok v' w'∧jh T N ay w0 sp s a w E b e v' w' E':=by
 unfold pw at ef
 split at ef
 case h_2=>simp at ef
 rename_i t t' x y'
 replace ef:=Bool.au ef
 obtain ⟨ht,ef⟩:=ef
 have ht:=bL ht
 subst ht
 split at ef
 case h_2=>simp at ef
 rename_i xo wZ z0 el rP
 have rP:=bQ.ty _ _ rP
 split at ef
 ·rename_i e' he'
  subst ef
  unfold pX at he'
  split at he'
  case h_2=>simp at he'
  rename_i c src hc hsrc
  split at he'
  case h_2=>simp at he'
  split at he'
  case h_2=>simp at he'
  rename_i y hy
  have hy:=bQ.ty _ _ hy
  simp only [aq] at he'
  unfold Bb at he'
  have hc:=h.cA hn (cz hc)
  have hsrc:=h.cA hn (cz hsrc)
  split at he'
  ·rename_i k get' hs
   obtain ⟨fU,he'⟩:=Bool.au he'
   obtain ⟨ao,cap,hv2,sv,news,hl,hcell,h1,hrel⟩:=GA h hs hsrc
   simp only [List.map_cons,List.map_nil]
   rw [hv2]
   exact .inr (Gw h hf rP rfl hy (aK fU) hc sv hl hcell h1 hrel he' ty)
  ·unfold ot at he'
   split at he'
   ·simp only [aq] at he'
    exact .inl ⟨_,he'.symm⟩
   ·simp at he'
 refine .inr ?_
 unfold pj at ef
 split at ef
 case h_2=>simp at ef
 rename_i y hy
 have hy:=bQ.ty _ _ hy
 split at ef
 case h_2=>simp at ef
 rename_i src hsrc
 have hsrc:=h.cA hn (cz hsrc)
 split at ef
 case h_2=>simp at ef
 rename_i sz k l' hs
 obtain ⟨ao,cap,hv2,sv,news,hl,hcell,h1,hrel⟩:=xe h hs hsrc
 split at ef
 case h_2=>simp at ef
 rename_i c hc
 have hc:=h.cA hn (cz hc)
 simp only [List.map_cons,List.map_nil]
 rw [hv2]
 split at ef
 ·
  have hnews:news=[]:=List.eq_nil_of_length_eq_zero (by simpa using hl)
  subst hnews
  replace ef:=Bool.au ef
  obtain ⟨fU,ef⟩:=ef
  exact zJ h hf rP rfl hy (aK fU) hc sv (by simp) (fun _ _ j u hj=>by simp at hj) (fun u hu=>by cases hu) .nil ef ty
 ·replace ef:=Bool.au ef
  obtain ⟨fF,ef⟩:=ef
  simp only [dz] at fF
  have hsz1:=bL fF.1
  subst hsz1
  exact zJ h hf rP rfl hy (aK fF.2) hc sv hl hcell h1 hrel ef ty
end
noncomputable section
def nL (acc:List Nat) (l:List Edge):Nat→Nat:=List.rec (fun m=>m) (fun e _ ih m=>Bool.rec (ih m) (ih (Nat.lor (Nat.lor (Nat.shiftLeft 1 e.on) m) (match aV acc e.on with
 | some x=>x
 | none=>0))) (Region.binds .any e)) l
def jw (l:List Oper):List Nat→List Nat:=List.rec (fun acc=>acc) (fun o _ ih acc=>ih (acc++[nL acc o.after.toList 0])) l
def o5 (t:Tmp) (l:List Oper):Nat→Option Nat:=List.rec (fun _=>none) (fun o _ ih k=>match o.dst with
 | some t'=>Bool.rec (ih (k+1)) (some k) (Nat.beq t t')
 | none=>ih (k+1)) l
def JV (ops:List Oper) (m:Nat) (t:Tmp):Bool:=match o5 t ops 0 with
 | some j=>Nat.testBit m j
 | none=>true
def rH (ops:List Oper) (m:Nat) (l:List Operand):Bool:=List.rec true (fun x _ ih=>match x with
 | .tmp t=>Bool.rec false ih (JV ops m t)
 | _=>ih) l
def BI (m:Nat) (g:Option (Nat×Bool)):Bool:=match g with
 | some (j,_)=>Nat.testBit m j
 | none=>true
def GJ (ops l:List Oper):List Nat→Bool:=List.rec (fun _=>true) (fun o _ ih ms=>match ms with
 | m::ms=>Bool.rec false (ih ms) (BI m o.guard&&rH ops m o.op.operands.toList)
 | []=>false) l
def FO (t:Tmp) (l:List Oper):Bool:=match o5 t l 0 with
 | some _=>false
 | none=>true
def DU (l:List Oper):Bool:=List.rec true (fun o l ih=>match o.dst with
 | some t=>Bool.rec false ih (FO t l)
 | none=>ih) l
def B6 (l:List Nat):Nat→Bool:=List.rec (fun _=>true) (fun m _ ih i=>Bool.rec false (ih (i+1)) (Nat.blt m (Nat.shiftLeft 1 i))) l
def sH (ops:List Oper):Bool:=DU ops&&(GJ ops ops (jw ops [])&&B6 (jw ops []) 0)
def CL (c:Callee):Nat:=match c with
 | .builtin .append=>1
 | .value _=>1
 | _=>0
def eH (op:Op):Nat:=match op with
 | .box _ _=>1
 | .alloc _=>1
 | .buildSlice _ _ _=>1
 | .makeMap _ _=>1
 | .makeSlice _ _ _=>1
 | .call c=>CL c.callee
 | _=>0
def dU (l:List Oper):Nat:=List.rec 0 (fun o _ ih=>eH o.op+ih) l
structure kQ where
 dst:Option Tmp
 val:Option D
 ws:List (Nat×ah)
 al:Option (List ah)
 ex:Bool:=false
def yO (s:VS) (dst:Option Tmp) (d:Option D):VS:=match dst with
 | some t=>match d with
   | some d=>{ s with sl:=(t,d,[])::s.sl }
   | none=>s
 | none=>s
def BW (al:Option (List ah)) (rs:List ah):List ah:=match al with
 | some aG=>aG
 | none=>rs
def kQ.on (u:kQ) (s:VS):VS:=yO { s with rs:=writes u.ws (BW u.al s.rs) } u.dst u.val
def C4 (N:Nat) (dst:Option Tmp) (d:Option D):Bool:=match dst with
 | some t=>match d with
   | some _=>Nat.blt t N
   | none=>false
 | none=>true
inductive NY where
 | cX (l:List Nat)
 | ok (u:kQ)
def O4 (i m:Nat) (cJ:List Nat):Nat→Bool:=List.rec (fun _=>true) (fun x _ ih k=>Bool.rec false (ih (k+1)) (Nat.beq k i||(Nat.testBit m k||Nat.testBit x i))) cJ
def E9 (cJ:List Nat) (i:Nat):Bool:=match aV cJ i with
 | some m=>O4 i m cJ 0
 | none=>false
def eqV (x y:Value):Bool:=match x,y with
 | .int .i64 a,.int .i64 b=>a==b
 | .bool a,.bool b=>K9 a b
 | _,_=>false
def L1 (x y:C):Bool:=match x,y with
 | .im (.v a),.im (.v b)=>eqV a b
 | .rt r i j,.rt r' i' j'=>Nat.beq r r'&&(Nat.beq i i'&&Nat.beq j j')
 | .sa r m,.sa r' m'=>Nat.beq r r'&&Nat.beq m m'
 | .mp r,.mp r'=>Nat.beq r r'
 | _,_=>false
def XP (l:List C):List C→Bool:=List.rec (fun m=>match m with
 | []=>true
 | _=>false) (fun x _ ih m=>match m with
 | y::m=>Bool.rec false (ih m) (L1 x y)
 | []=>false) l
def MK (x y:ah):Bool:=match x,y with
 | .dead,.dead=>true
 | .box l,.box m=>XP l m
 | _,_=>false
def vQ (n:Nat) (l:List Nat):Bool:=List.rec true (fun r _ ih=>Bool.rec false ih (Nat.blt r n)) l
def uN (n:Nat) (x:C):Bool:=match x with
 | .im _=>true
 | .rt r _ _=>Nat.blt r n
 | .sa r _=>Nat.blt r n
 | .mp r=>Nat.blt r n
 | .yl r=>Nat.blt r n
 | .ow r _=>Nat.blt r n
 | .mc _ l=>vQ n l
def iL (n:Nat) (l:List C):Bool:=List.rec true (fun x _ ih=>Bool.rec false ih (uN n x)) l
def wv (n:Nat) (x:Fc):Bool:=match x with
 | .c x=>uN n x
 | .o _=>true
def ud (n:Nat) (l:List Fc):Bool:=List.rec true (fun x _ ih=>Bool.rec false ih (wv n x)) l
def lC (n:Nat) (x:ah):Bool:=match x with
 | .dead=>true
 | .box l=>iL n l
 | .row _ _ _ l=>iL n l
 | .arr _ _ _ _=>true
 | .cR _ _ _ _ none=>true
 | .own _=>true
 | .cR _ _ _ _ (some x)=>ud n x.2
 | .set _=>true
 | .nZ=>true
 | _=>false
def Bp (n:Nat) (l:List (Bool×List C)):Bool:=List.rec true (fun x _ ih=>Bool.rec false ih (iL n x.2)) l
def j3 (n:Nat) (d:D):Bool:=match d with
 | .c x=>uN n x
 | .a l=>iL n l
 | .t l=>Bp n l
def xG (n:Nat) (rs:List ah):List ah→Nat→Option (List (Nat×ah)):=List.rec (fun _ _=>some []) (fun x _ ih aG k=>match aG with
 | y::aG=>Bool.rec (Bool.rec none (match ih aG (k+1) with
   | some ws=>some ((k,y)::ws)
   | none=>none) (lC n y)) (ih aG (k+1)) (MK x y)
 | []=>none) rs
def KY (lo:Lo) (dst:Option Tmp) (d:D) (rs aG:List ah):Option NY:=match lo.diff rs aG with
 | some ws=>Bool.rec none (some (.ok ⟨dst,some d,ws,none,true⟩)) (j3 rs.length d)
 | none=>none
def sb (lo:Lo) (rs:List ah) (cJ:List Nat) (i:Nat) (dst:Option Tmp) (e:Option cF):Option NY:=match e with
 | some (.val d)=>some (.ok ⟨dst,some d,[],none,false⟩)
 | some (.wr d ws)=>some (.ok ⟨dst,d,ws,none,false⟩)
 | some (.cX l)=>some (.cX l)
 | some (.all d aG)=>Bool.rec (KY lo dst d rs aG) (some (.ok ⟨dst,some d,[],some aG,false⟩)) (E9 cJ i)
 | none=>none
def lq (T:dY) (lo:Lo) (hi:Hint) (cJ:List Nat) (i b:Nat) (ops:List Oper) (s:VS) (o:Oper):Option NY:=match mA ops s.sl o.guard with
 | some true=>sb lo s.rs cJ i o.dst (gk T lo hi b s o.dst o.op)
 | some false=>some (.ok ⟨o.dst,some (.t []),[],none,false⟩)
 | none=>none
inductive Cb where
 | cX (l:List Nat)
 | ok (W:List (Nat×List Nat)) (s:VS)
def Eb (k:Nat) (u:kQ) (W:List (Nat×List Nat)):List (Nat×List Nat):=match u.ws with
 | []=>W
 | ws=>W++[(k,ws.map (·.1))]
def l4 (T:dY) (lo:Lo) (hi:Hint) (N:Nat) (cJ:List Nat) (ops l:List Oper):Nat→Nat→List (Nat×List Nat)→VS→Option Cb:=List.rec (fun _ _ W s=>some (.ok W s)) (fun o _ ih k b W s=>
 match lq T lo hi cJ k b ops s o with
 | some (.ok u)=>Bool.rec none (ih (k+1) (b+eH o.op) (Eb k u W) (u.on s)) (C4 N u.dst u.val)
 | some (.cX c)=>some (.cX c)
 | none=>none) l
def eL (cJ:List Nat) (i m:Nat) (W:List (Nat×List Nat)):List Nat:=List.rec [] (fun w _ ih=>
 Bool.rec (w.2++ih) ih (Nat.beq w.1 i||(Nat.testBit m w.1||(match aV cJ w.1 with
  | some x=>Nat.testBit x i
  | none=>false)))) W
def xN (l:List Nat) (rs:List ah):List ah:=List.rec (fun rs=>rs) (fun q _ ih rs=>ih (setAt rs q .dead)) l rs
def oS (n:Nat) (l:List Nat):Bool:=List.rec false (fun x _ ih=>Bool.rec ih true (Nat.beq x n)) l
def nz (l m:List Nat):Bool:=List.rec true (fun x _ ih=>Bool.rec ih false (oS x m)) l
def nt (k:Nat) (W:List (Nat×List Nat)):List Nat:=match findF k W with
 | some l=>l
 | none=>[]
def CT (l m:List Nat):Bool:=List.rec true (fun x _ ih=>Bool.rec false ih (oS x m)) l
def Rn (l:List Nat) (s:VS):VS:=match l with
 | []=>s
 | _=>{ s with rs:=xN l s.rs }
def Qp (ex:Bool) (l:List Nat):Bool:=match ex with
 | false=>true
 | true=>match l with
   | []=>true
   | _=>false
def kA (T:dY) (lo:Lo) (hi:Hint) (N:Nat) (ops:List Oper) (cJ:List Nat) (W:List (Nat×List Nat)) (l:List Oper):List Nat→Nat→Nat→VS→Option VS:=List.rec (fun _ _ _ s=>some s) (fun o _ ih ms i b s=>
 match ms with
 | m::ms=>match lq T lo hi cJ i b ops (Rn (eL cJ i m W) s) o with
   | some (.ok u)=>Bool.rec none (ih ms (i+1) (b+eH o.op) (u.on s)) (C4 N u.dst u.val&&(CT (u.ws.map (·.1)) (nt i W)&&(nz (u.ws.map (·.1)) (eL cJ i m W)&&Qp u.ex (eL cJ i m W))))
   | _=>none
 | []=>none) l
def gh (ops:List Oper) (s:VS):VS:={ s with rs:=s.rs++List.replicate (dU ops) .dead }
def yZ (T:dY) (lo:Lo) (hi:Hint) (N:Nat) (ops:List Oper) (s0 s':VS) (b:Nat) (W:List (Nat×List Nat)):Option VS:=match W with
 | []=>some s'
 | _=>kA T lo hi N ops (jw ops []) W ops (jw ops []) 0 b s0
def wV (T:dY) (lo:Lo) (hi:Hint) (N:Nat) (ops:List Oper) (n:Nat):VS→Option VS:=Nat.rec (fun _=>none) (fun _ ih s=>
 match l4 T lo hi N (jw ops []) ops ops 0 s.rs.length [] (gh ops s) with
 | some (.cX l)=>match gW l s with
   | some s'=>ih s'
   | none=>none
 | some (.ok W s')=>yZ T lo hi N ops (gh ops s) s' s.rs.length W
 | none=>none) n
def rE (hi:Hint) (f:FuncId) (id:Nat) (s:VS):VS:=match hi.ad9 f id with
 | some l=>{ s with sl:=uA s.sl l }
 | none=>s
def regionF (T:dY) (lo:Lo) (hi:Hint) (N:Nat) (f:FuncId) (ro:Option Nat) (id:Nat) (ops:List Oper) (draw:Bool) (s:VS):Option VS:=match draw with
 | false=>match K2 T lo hi N ops ops s with
   | some s'=>some (rE hi f id s')
   | none=>none
 | true=>match ro with
   | some _=>none
   | none=>match sH ops with
     | true=>match wV T lo hi N ops 8 s with
       | some s'=>some (rE hi f id s')
       | none=>none
     | false=>none
def tJ (ro:Option Nat) (s:VS):Option VS:=match ro with
 | some r=>match aV s.rs r with
   | some (.loop g M sl ps as bd .ready none)=>some { s with rs:=setAt s.rs r (.loop g M sl ps as bd .busy none) }
   | _=>none
 | none=>none
def oP (lo:Lo) (N:Nat) (f:FuncId) (ro:Option Nat) (g:Operand) (ps:List Tmp) (as b:Code) (s:VS):Option (Option Code×VS):=match ro with
 | some _=>none
 | none=>match dE (cA s.sl g) with
   | some c=>match pE c with
     | some (h,eJ)=>match lo.call h (.c (.yl (s.rs.length+1))::eJ) (s.rs++[.nZ,.loop f N s.sl ps as b .ready none]) with
       | some (_,aG)=>match aV aG (s.rs.length+1) with
         | some (.loop _ _ _ _ _ _ .ready none)=>some (none,{ s with rs:=setAt aG (s.rs.length+1) .dead,df:=s.rs.length::s.df })
         | some (.loop _ _ _ _ _ _ .done (some c))=>some (some c,{ s with rs:=setAt aG (s.rs.length+1) .dead,df:=s.rs.length::s.df })
         | _=>none
       | none=>none
     | none=>none
   | none=>none
def zj (j:Option Code) (k:List Item):List Item:=match j with
 | some c=>.code c::k
 | none=>k
def yF (T:dY) (lo:Lo) (hi:Hint) (N:Nat) (f:FuncId) (ro:Option Nat) (n:Nat):List Item→VS→Option (Option Code×VS):=Nat.rec (fun _ _=>none) (fun _ ih todo s=>match todo with
 | []=>some (none,s)
 | x::k=>match x with
   | .inBlock _=>ih k s
   | .inLoop c=>ih (.code c::.inLoop c::k) s
   | .beginRound=>match tJ ro s with
     | some s'=>ih k s'
     | none=>none
   | .code c=>match c with
     | .skip=>ih k s
     | .label _=>ih k s
     | .ret=>some (some .ret,s)
     | .seq a b=>ih (.code a::.code b::k) s
     | .cond c a b=>match ju (cA s.sl c) with
       | some p=>ih (.code (Bool.rec b a p)::k) s
       | none=>none
     | .block id c=>ih (.code c::.inBlock id::k) s
     | .loop c=>ih (.code c::.inLoop c::k) s
     | .exit id=>match exitTo id k with
       | some k'=>ih k' s
       | none=>some (some (.exit id),s)
     | .region id ops draw=>match regionF T lo hi N f ro id ops.toList draw s with
       | some s'=>ih k s'
       | none=>none
     | .rangeFunc g ps as b=>match oP lo N f ro g ps.toList as b s with
       | some (j,s')=>ih (zj j k) s'
       | none=>none
     | _=>none
   | _=>none) n
def OH (l:List Nat):List ah→Option (List ah):=List.rec (fun rs=>some rs) (fun r _ ih rs=>match aV rs r with
 | some .nZ=>ih (setAt rs r .dead)
 | _=>none) l
def vq (T:dY) (s:VS) (x:ResultVar):Option (Bool×List C):=match (match x with
  | .tmp t=>fc s.sl t
  | .cell ad t=>kN T s t (.tmp ad)) with
 | some (.c x)=>some (false,[x])
 | some (.a l)=>some (true,l)
 | _=>none
def AH (T:dY) (s:VS) (l:List ResultVar):Option (List (Bool×List C)):=List.rec (some []) (fun x _ ih=>match vq T s x,ih with
 | some q,some l=>some (q::l)
 | _,_=>none) l
def Vp (T:dY) (s:VS) (l:List ResultVar):Option D:=match AH T s l with
 | some [(false,[x])]=>some (.c x)
 | some [(true,l)]=>some (.a l)
 | some l=>some (.t l)
 | none=>none
def NB (T:dY) (s:VS) (l:List ResultVar):Option (D×List ah):=match OH s.df s.rs with
 | some rs=>match Vp T { s with rs:=rs } l with
   | some d=>some (d,rs)
   | none=>none
 | none=>none
def MS (j:Option Code):Bool:=match j with
 | none=>true
 | some .ret=>true
 | _=>false
def Mc (N:Nat) (ps:List Tmp):List D→aN→Option aN:=List.rec (fun ds sl=>match ds with
 | []=>some sl
 | _=>none) (fun t _ ih ds sl=>match ds with
 | d::ds=>Bool.rec none (ih ds ((t,d,[])::sl)) (Nat.blt t N)
 | []=>none) ps
def PO (T:dY) (hi:Hint) (F:FuncId→Option Func) (fuel:Nat) (lo:Lo) (f:FuncId) (ds:List D) (rs:List ah):Option (D×List ah):=match F f with
 | some fn=>match fn.body with
   | some c=>Bool.rec none (match yF T lo hi fn.ntmps f none fuel [.code c] ⟨dN 0 ds,rs,[]⟩ with
     | some (j,s)=>Bool.rec none (NB T s fn.results.toList) (MS j)
     | none=>none) (Nat.ble ds.length fn.ntmps)
   | none=>none
 | none=>none
def NC (T:dY) (hi:Hint) (F:FuncId→Option Func) (Kn:FuncId→Option D) (fuel:Nat) (lo:Lo) (f:FuncId) (ds:List D) (rs:List ah):Option (D×List ah):=match Kn f with
 | some d=>match ds with
   | []=>some (d,rs)
   | _=>none
 | none=>PO T hi F fuel lo f ds rs
def CZ (r:Nat) (j:Option Code) (s:VS):Option (D×List ah):=match s.df with
 | []=>match aV s.rs r with
   | some (.loop f N sl ps as bd .busy none)=>match j with
     | none=>some (bool true,setAt s.rs r (.loop f N sl ps as bd .ready none))
     | some c=>some (bool false,setAt s.rs r (.loop f N sl ps as bd .done (some c)))
   | _=>none
 | _=>none
def Vr (T:dY) (hi:Hint) (fuel:Nat) (lo:Lo) (r:Nat) (ds:List D) (rs:List ah):Option (D×List ah):=match aV rs r with
 | some (.loop f N sl ps as bd .ready none)=>match Mc N ps ds sl with
   | some sl=>match yF T lo hi N f (some r) fuel [.code as,.beginRound,.code bd] ⟨sl,rs,[]⟩ with
     | some (j,s)=>CZ r j s
     | none=>none
   | none=>none
 | _=>none
def loN (T:dY) (hi:Hint) (F:FuncId→Option Func) (Kn:FuncId→Option D) (fuel:Nat) (n:Nat):Lo:=Nat.rec ⟨fun _ _ _=>none,fun _ _ _=>none,fun rs aG=>xG rs.length rs aG 0,fun _ _ _=>none⟩ (fun _ ih=>⟨NC T hi F Kn fuel ih,Vr T hi fuel ih,fun rs aG=>xG rs.length rs aG 0,fun _ _ _=>none⟩) n
end
open Go.RowKit
structure Kept (E E':Env):Prop where
 le:Env.le E E'
 free:∀ q:Nat,E[q]?=some hole→E'[q]?=some hole
theorem Kept.refl (E:Env):Kept E E:=⟨Env.le_refl E,fun _ h=>h⟩
theorem Kept.trans {E F G:Env} (h:Kept E F) (k:Kept F G):Kept E G:=⟨h.le.trans k.le,fun q e=>k.free q (h.free q e)⟩
theorem Kept.Iz {E E':Env} {b:Nat} (h:mO b E E') (hb:E.length≤b):Kept E E':=⟨h.le,fun q e=>h.free q (fun hq=>by
 have:=(List.getElem?_eq_some_iff.1 e).1
 omega) e⟩
theorem Kept.WK {E E':Env} (h:Kept E E') (b:Nat):mO b E E':=⟨h.le,fun q _=>h.free q⟩
def Oa (diff:List ah→List ah→Option (List (Nat×ah))):Prop:=∀ rs aG ws,diff rs aG=some ws→∀ (q:Nat) (x:ah),(writes ws rs)[q]?=some x→aG[q]?=some x∧(rs[q]?=some x∨lC rs.length x=true)
structure ib (T:dY) (P:Program) (lo:Lo):Prop where
 call:∀ f ds rs d aG,lo.call f ds rs=some (d,aG)→Enters P f∧∀ (N:Nat) (ay:Nat→Prop) (w0:Kp) (sp:List (D×Value)) (sl:aN) (df:List Nat) (a:Act) (w:World) (E:Env) (vs:List Value),R T N ay w0 sp ⟨sl,rs,df⟩ a w E→aB (a7 E (AV ay rs E) w) ds vs→
  Go.Calls P f vs.toArray w fun e w'=>∃ v E',e=.returned v∧Kept E E'∧R T N ay w0 sp ⟨sl,aG,df⟩ a w' E'∧a7 E' (AV ay aG E') w' d v
 Np:∀ r ds rs d aG,lo.Np r ds rs=some (d,aG)→∀ (N:Nat) (ay:Nat→Prop) (w0:Kp) (sp:List (D×Value)) (sl:aN) (df:List Nat) (a:Act) (w:World) (E:Env) (vs:List Value),R T N ay w0 sp ⟨sl,rs,df⟩ a w E→aB (a7 E (AV ay rs E) w) ds vs→
  ∃ b sz f tm as bd,bq E r b sz∧(Instr.yield b vs.toArray).run P w=.ok (.round b f tm as bd) w∧
   wU P b f tm as bd w fun v w'=>∃ E',Kept E E'∧R T N ay w0 sp ⟨sl,aG,df⟩ a w' E'∧a7 E' (AV ay aG E') w' d v
 diff:Oa lo.diff
 wr:∀ f ds rs d q x,lo.wr f ds rs=some (d,q,x)→Enters P f∧∀ (N:Nat) (ay:Nat→Prop) (w0:Kp) (sp:List (D×Value)) (sl:aN) (df:List Nat) (a:Act) (w:World) (E:Env) (vs:List Value),R T N ay w0 sp ⟨sl,rs,df⟩ a w E→aB (a7 E (AV ay rs E) w) ds vs→
  Go.Calls P f vs.toArray w fun e w'=>∃ v E',e=.returned v∧Kept E E'∧R T N ay w0 sp ⟨sl,place q x rs,df⟩ a w' E'∧a7 E' (AV ay (place q x rs) E') w' d v
 mono:∀ f ds rs pQ r,rs.length=pQ.length→(∀ (q:Nat) (x:ah),aV rs q=some x→x.live→aV pQ q=some x)→lo.wr f ds rs=some r→lo.wr f ds pQ=some r
section
variable {P:Program} {T:dY} {lo:Lo} {hi:Hint} {N:Nat} {ay:Nat→Prop} {w0:Kp} {sp:List (D×Value)} {s:VS} {a:Act} {w:World} {E:Env}
theorem R.none {av:Nat→Prop} (eP:∀ b,av b→b<w.heap.size) (hg:ov T av w):R T 0 av (Kp.of w) [] ⟨[],[],[]⟩ { tmps := #[],defers:=[] } w []:=
 ⟨rfl,.nil,fun _ hx=>(by cases hx),Kp.holds_of (Below.refl _ _),rfl,fun b q=>⟨eP b q,fun q=>q⟩,fun r x e h1=>(by simp at h1),fun r x b sz h1=>(by simp at h1),fun r r' x x' b sz cQ h1=>(by simp at h1),fun t d c h1=>(by simp [look] at h1),hg.mono (ba.refl _ w) (fun b _ q=>q.elim id fun ⟨r,x,sz,h1,_⟩=>by simp at h1)⟩
theorem tu {av:Nat→Prop}:∀ b,AV av [] [] b↔av b:=fun b=>⟨fun q=>q.elim id fun ⟨r,x,sz,h1,_⟩=>by simp at h1,.inl⟩
theorem ib.pure (hl:ib T P lo) {f:FuncId} {is:List D} {d:D} {aG:List ah} (e:lo.call f is []=some (d,aG)) {d':D} (e':bj aG d=some d'):Dd T P f is d':=by
 intro av w vs eP YV sT
 have h0:=(hl.call f is [] d aG e).2 0 av (Kp.of w) [] [] [] _ w [] vs (R.none eP YV) (sT.mono fun _ _ q=>a7.mono (Env.le_refl []) (ba.refl _ w) (fun b _ q=>(tu b).1 q) q)
 refine h0.mono ?_
 rintro e w' ⟨v,E',rfl,_,hR,hd⟩
 exact ⟨v,rfl,qY hR (kj.outer hR) e' hd,hR.below.below⟩
theorem Z0 (hl:ib T P lo):TW T P ⟨fun f is=>match lo.call f is [] with
  | some (d,aG)=>match bj aG d with
    | some d'=>some (none,d')
    | none=>none
  | none=>none,fun _ _ _=>none,fun _ _ _=>none⟩ where
 XV f ds p d e:=by
  simp only at e
  split at e
  case h_2=>simp at e
  rename_i d0 aG h1
  split at e
  case h_2=>simp at e
  rename_i d' h2
  simp only [aq,bs] at e
  obtain ⟨rfl,rfl⟩:=e
  exact ⟨(hl.call _ _ _ _ _ h1).1,fun _=>hl.pure h1 h2⟩
 eff _ _ _ _ _ _ e:=by simp at e
 Np _ _ _ _ _ _ e:=by simp at e
theorem xP (hl:ib T P lo) (h:R T N ay w0 sp s a w E) {f:FuncId} {ds:List D} {d:D} (e:yP lo s.rs f ds=some d) (hs:(fH ds||iG d)=true) (hd:kr d=true) {vs:List Value} (hv:aB (a7 E (AV ay s.rs E) w) ds vs) :
  Enters P f∧Go.Calls P f vs.toArray w fun e w'=>∃ v,e=.returned v∧Below w.heap.size w w'∧a7 E (AV ay s.rs E) w' d v:=by
 unfold yP at e
 split at e
 case h_2=>simp at e
 rename_i is hi
 split at e
 case h_2=>simp at e
 rename_i d0 aG h1
 have hc:=Z0 hl
 have hp:(match lo.call f is [] with
  | some (d,aG)=>match bj aG d with
    | some d'=>some ((none:Option Prop),d')
    | none=>none
  | none=>none)=some (none,d):=by rw [h1]; simp only [e]
 exact ⟨(hl.call _ _ _ _ _ h1).1,PV hc h hi hp trivial hs hd hv⟩
def jM (T:dY) (P:Program) (N:Nat) (ay:Nat→Prop) (w0:Kp) (sp:List (D×Value)) (s:VS) (a:Act) (w:World) (E:Env) (b:Nat) (e:cF) (f:FuncId) (vs:List Value):Prop:=
 Enters P f∧Go.Calls P f vs.toArray w fun en w'=>∃ v E',en=.returned v∧jh T N ay w0 sp s a w E b e v w' E'
theorem jh.zb (h:R T N ay w0 sp s a w E) {b:Nat} {d:D} {v:Value} {w':World} (hb:Below w.heap.size w w') (hd:a7 E (AV ay s.rs E) w' d v):jh T N ay w0 sp s a w E b (.val d) v w' E:=
 ⟨mO.refl _ _,h.grown hb,fun d' qk=>by simp only [eh,aq] at qk; subst qk; exact hd⟩
theorem fh {rs:List ah} {ds:List D} {e e':cF} (h:jQ rs ds e=some e'):(∃ l,e'=.cX l)∨(e'=e∧uF rs ds=some []):=by
 unfold jQ at h
 split at h
 ·simp only [aq] at h; exact .inl ⟨_,h.symm⟩
 ·rename_i hs; simp only [aq] at h; exact .inr ⟨h.symm,hs⟩
 ·simp at h
theorem lO:∀ {l:List C},fB l=true→fX l=true
 | [],_=>rfl
 | c::l,h=>by
   cases c with
   | im x=>cases x with
     | v x=>simp only [fB] at h; simp only [fX]; exact lO h
     | _=>simp [fB] at h
   | _=>simp [fB] at h
theorem um {d:D} (h:iG d=true):kr d=true:=by
 cases d with
 | c x=>exact lO (l:=[x]) h
 | a l=>exact lO h
 | t l=>simp only [iG,kr,List.all_eq_true] at h ⊢; exact fun x hx=>lO (h x hx)
theorem mK {rec:List C→Option (List Nat)} {rs:List ah}:∀ {l:List C},EV rec rs l=some []→fX l=true
 | [],_=>rfl
 | x::l,h=>by
   have h:(match WR rec rs x with
    | some a=>match EV rec rs l with
      | some b=>some (a++b)
      | none=>none
    | none=>none)=some []:=h
   split at h
   case h_2=>simp at h
   rename_i m hm
   split at h
   case h_2=>simp at h
   rename_i k hk
   simp only [aq,List.append_eq_nil_iff] at h
   obtain ⟨rfl,rfl⟩:=h
   unfold WR at hm
   split at hm
   ·simp only [fX]; exact mK hk
   ·split at hm
    ·split at hm
     ·simp at hm
     ·simp at hm
    ·simp at hm
    ·simp at hm
    ·simp at hm
   ·simp at hm
theorem pK {rs:List ah}:∀ {ds:List D},uF rs ds=some []→fH ds=true
 | [],_=>rfl
 | d::ds,h=>by
   have h:(match HO rs d,uF rs ds with
    | some a,some b=>some (a++b)
    | _,_=>none)=some []:=h
   split at h
   case h_2=>simp at h
   rename_i m k hm hk
   simp only [aq,List.append_eq_nil_iff] at h
   obtain ⟨rfl,rfl⟩:=h
   have hd:kr d=true:=by
    cases d with
    | c x=>exact mK (l:=[x]) hm
    | a l=>exact mK hm
    | t l=>simp [HO] at hm
   simp only [fH,hd]
   exact pK hk
theorem se (hl:ib T P lo) (h:R T N ay w0 sp s a w E) {b:Nat} {f:FuncId} {ds:List D} {e:cF} (ef:ie lo s.rs f ds=some e) {vs:List Value} (hv:aB (a7 E (AV ay s.rs E) w) ds vs) :
  (∃ l,e=.cX l)∨jM T P N ay w0 sp s a w E b e f vs:=by
 unfold ie at ef
 split at ef
 case h_2=>simp at ef
 rename_i d hd
 have fin:(fH ds||iG d)=true→kr d=true→jM T P N ay w0 sp s a w E b (.val d) f vs:=fun h1 h2=>by
  obtain ⟨h3,h4⟩:=xP hl h hd h1 h2 hv
  refine ⟨h3,h4.mono ?_⟩
  rintro en w' ⟨v,rfl,hb,hr⟩
  exact ⟨v,E,rfl,jh.zb h hb hr⟩
 cases hp:iG d with
 | true=>
   rw [hp] at ef
   simp only [aq] at ef
   subst ef
   exact .inr (fin (by simp [hp]) (um hp))
 | false=>
   rw [hp] at ef
   obtain ⟨h1,ef⟩:=Bool.au (show (Bool.rec none (jQ s.rs ds (.val d)) (kr d):Option cF)=some e from ef)
   rcases fh ef with hc|⟨rfl,hc⟩
   ·exact .inl hc
   ·exact .inr (fin (by simp [pK hc]) h1)
theorem xr (hl:ib T P lo) (h:R T N ay w0 sp s a w E) {b:Nat} {f:FuncId} {ds:List D} {e:cF} (ef:tn lo s.rs f ds=some e) {vs:List Value} (hv:aB (a7 E (AV ay s.rs E) w) ds vs) :
  jM T P N ay w0 sp s a w E b e f vs:=by
 unfold tn at ef
 split at ef
 case h_2=>simp at ef
 rename_i d aG hd
 simp only [aq] at ef
 subst ef
 obtain ⟨h1,h2⟩:=hl.call _ _ _ _ _ hd
 refine ⟨h1,(h2 N ay w0 sp s.sl s.df a w E vs h hv).mono ?_⟩
 rintro en w' ⟨v,E',rfl,hk,hR,hr⟩
 exact ⟨v,E',rfl,hk.WK b,hR,fun d' qk=>by simp only [eh,aq] at qk; subst qk; exact hr⟩
theorem Lk (hl:ib T P lo) (h:R T N ay w0 sp s a w E) {b:Nat} {f:FuncId} {ds:List D} {e:cF} (ef:Qx lo s.rs f ds=some e) {vs:List Value} (hv:aB (a7 E (AV ay s.rs E) w) ds vs) :
  jM T P N ay w0 sp s a w E b e f vs:=by
 unfold Qx at ef
 split at ef
 case h_2=>simp at ef
 rename_i d q x hd
 replace ef:=(Bool.au ef).2
 simp only [aq] at ef
 subst ef
 obtain ⟨h1,h2⟩:=hl.wr _ _ _ _ _ _ hd
 refine ⟨h1,(h2 N ay w0 sp s.sl s.df a w E vs h hv).mono ?_⟩
 rintro en w' ⟨v,E',rfl,hk,hR,hr⟩
 exact ⟨v,E',rfl,hk.WK b,hR,fun d' qk=>by simp only [eh,aq] at qk; subst qk; exact hr⟩
theorem lf {w w':World} (h:Below w.heap.size w w'):w.grownBy w' none:=⟨h.os,h.tape,h.output,h.size,fun k hk _=>h.block k hk⟩
theorem mG {rs:List ah} {f:FuncId} {ds:List D} {b:Nat} {d:Option D} {ws:List (Nat×ah)} (e:yz lo rs f ds b=some (.wr d ws)) :
  (∃ is q n aG el sz l,dG rs ds=some is∧lo.call f is []=some (.c (.sa q n),aG)∧nth aG q=some (.row el sz n l)∧fX l=true∧d=some (.c (.sa b n))∧ws=[(b,.row el sz n l)]) ∨
  (∃ is q n aG el sz get,dG rs ds=some is∧lo.call f is []=some (.c (.sa q n),aG)∧nth aG q=some (.arr el sz n get)∧d=some (.c (.sa b n))∧ws=[(b,.arr el sz n get)]):=by
 unfold yz at e
 split at e
 case h_2=>simp at e
 rename_i is hi
 split at e
 ·rename_i q m aG hc
  split at e
  case h_3=>simp at e
  ·rename_i el sz n l hl
   obtain ⟨h1,e⟩:=Bool.au e
   simp only [dz] at h1
   have h2:=bL h1.1
   subst h2
   rw [cl] at hl
   simp only [aq,cF.wr.injEq] at e
   exact .inl ⟨is,q,m,aG,el,sz,l,hi,hc,hl,h1.2,e.1.symm,e.2.symm⟩
  ·rename_i el sz n get hl
   obtain ⟨h1,e⟩:=Bool.au e
   have h2:=bL h1
   subst h2
   rw [cl] at hl
   simp only [aq,cF.wr.injEq] at e
   exact .inr ⟨is,q,m,aG,el,sz,get,hi,hc,hl,e.1.symm,e.2.symm⟩
 ·split at e
  case h_2=>simp at e
  obtain ⟨_,e⟩:=Bool.au e
  simp at e
 ·simp at e
theorem wF {E E':Env} {av dp:Nat→Prop} {w w':World} (hk:ba av w w') (ha:∀ b,b<w.heap.size→dp b→av b):∀ {l:List C} {xs:List Value},fX l=true→aB (bh E av w) l xs→aB (bh E' dp w') l xs
 | [],_,_,.nil=>.nil
 | c::l,_,h,.cons q k=>by
   cases c with
   | im x=>exact .cons (dm.mono (x:=x) hk ha q) (wF hk ha (by simpa [fX] using h) k)
   | _=>simp [fX] at h
theorem IU (hl:ib T P lo) (h:R T N ay w0 sp s a w E) {b:Nat} (hf:lB s E b) {f:FuncId} {ds is:List D} {q n el sz:Nat} {aG:List ah} {l:List C} (hi:dG s.rs ds=some is)
  (hc:lo.call f is []=some (.c (.sa q n),aG)) (hq:nth aG q=some (.row el sz n l)) (hp:fX l=true) (hs:fB l=true∨fH ds=true) {vs:List Value} (hv:aB (a7 E (AV ay s.rs E) w) ds vs) :
  jM T P N ay w0 sp s a w E b (.wr (some (.c (.sa b n))) [(b,.row el sz n l)]) f vs:=by
 obtain ⟨h1,h2⟩:=hl.call _ _ _ _ _ hc
 refine ⟨h1,?_⟩
 have avlt:∀ b,AV ay s.rs E b→b<w.heap.size:=by
  rintro b (q|⟨r,x,sz,h1,h2,h3⟩)
  ·exact h.jT q
  ·exact (h.dh r x b sz h1 h2 h3).2
 have key:∃ av:Nat→Prop,(∀ b,av b→b<w.heap.size)∧ov T av w∧aB (a7 [] av w) is vs∧(fB l=true∨∀ k,AV ay s.rs E k→av k):=by
  rcases hs with hs|hs
  ·exact ⟨fun _=>False,fun _ q=>q.elim,h.gM.mono (ba.refl _ w) (fun _ _ q=>q.elim),pz h (kj.none ay s E) hi hv,.inl hs⟩
  ·exact ⟨AV ay s.rs E,avlt,h.gM,jb hs hi hv,.inr fun _ q=>q⟩
 obtain ⟨av,eP,YV,sT,hcase⟩:=key
 refine (h2 0 av (Kp.of w) [] [] [] _ w [] vs (R.none eP YV) (sT.mono fun _ _ q=>a7.mono (Env.le_refl []) (ba.refl _ w) (fun b _ q=>(tu b).1 q) q)).mono ?_
 rintro en w' ⟨v,E1,rfl,_,hR,hd⟩
 obtain ⟨e0,ao,n',cap,g1,g2,g3,rfl⟩:=hd
 rw [bp] at hq
 obtain ⟨r1,r2,xs,r3,r4⟩:=hR.roots q _ _ hq g1
 have hvn:e0.2.1.1=.slice ao n cap:=by
  rcases r3.2 with ⟨q5,q6⟩|⟨g,cap2,cur,q5,_⟩
  ·rw [g2] at q5 ⊢; simp only [dT] at q5 ⊢; simp; omega
  ·rw [g2] at q5 ⊢; simp only [dT] at q5 ⊢; simp; omega
 have hb:=hR.below.below
 have eM:w'.ownsRow w0.base el sz (.slice ao n cap) n xs:=by
  rw [hvn] at r3
  refine ⟨r3.1,r3.2.imp id ?_⟩
  rintro ⟨g,cap2,cur,q5,q6,q7⟩
  exact ⟨g,cap2,cur,q5,cM h.size_le q6,q7⟩
 have jd:∀ k,(Value.slice ao n cap).ownBlock=some k→w.heap.size≤k∧k<w'.heap.size∧bq E1 q k e0.2.2:=by
  intro k hk
  have jr:bq E1 q k e0.2.2:=by
   obtain ⟨e1,e2,e3⟩:=e0
   have r2:e1=e2.1.ownBlock:=r2
   have hvn:e2.1=_:=hvn
   rw [hvn,hk] at r2
   exact ⟨e2,by rw [g1,r2]⟩
  have:=hR.blk q _ k e0.2.2 hq trivial jr
  exact ⟨this.1.base,this.2,jr⟩
 obtain ⟨E',h4,h5,h6,h7⟩:=h.make hf (dead:=Option.none) (x:=.row el sz n l) (e:=((Value.slice ao n cap).ownBlock,nW (.slice ao n cap),sz)) (w':=w') (row:=Option.none) (lf hb) (fun k hk=>by cases hk)
  (fun k hk=>.inr (jd k hk).1) (fun k hk=>(jd k hk).2.1) (fun E' dp hE Ym rO hk=>⟨rfl,rfl,xs,eM,by
   rcases hcase with zm|hcase
   ·exact jE zm r4
   ·refine wF (ba.refl _ w') (fun k kZ q=>?_) hp r4
    rcases rO k q with q|q
    ·exact .inl (hcase k q)
    ·exact .inr ⟨_,_,_,hq,trivial,(jd k (q.resolve_right fun q=>q)).2.2.own⟩⟩)
 ·refine ⟨_,E',rfl,h6,h4,fun d hd=>?_⟩
  simp only [eh,aq] at hd
  subst hd
  rcases eM.2 with ⟨q5,q6⟩|⟨g,cap2,cur,q5,_⟩
  ·exact ⟨_,ao,n,cap,h5,rfl,bk _,rfl⟩
  ·exact ⟨_,ao,n,cap,h5,rfl,bk _,rfl⟩
theorem SA (hl:ib T P lo) (h:R T N ay w0 sp s a w E) {b:Nat} (hf:lB s E b) {f:FuncId} {ds is:List D} {q n el sz:Nat} {aG:List ah} {get:Nat→Nat→I} (hi:dG s.rs ds=some is)
  (hc:lo.call f is []=some (.c (.sa q n),aG)) (hq:nth aG q=some (.arr el sz n get)) (hs:fH ds=true) {vs:List Value} (hv:aB (a7 E (AV ay s.rs E) w) ds vs) :
  jM T P N ay w0 sp s a w E b (.wr (some (.c (.sa b n))) [(b,.arr el sz n get)]) f vs:=by
 obtain ⟨h1,h2⟩:=hl.call _ _ _ _ _ hc
 refine ⟨h1,?_⟩
 have avlt:∀ b,AV ay s.rs E b→b<w.heap.size:=by
  rintro b (q|⟨r,x,sz,h1,h2,h3⟩)
  ·exact h.jT q
  ·exact (h.dh r x b sz h1 h2 h3).2
 have key:∃ av:Nat→Prop,(∀ b,av b→b<w.heap.size)∧ov T av w∧aB (a7 [] av w) is vs∧(∀ k,AV ay s.rs E k→av k):=
  ⟨AV ay s.rs E,avlt,h.gM,jb hs hi hv,fun _ q=>q⟩
 obtain ⟨av,eP,YV,sT,hcase⟩:=key
 refine (h2 0 av (Kp.of w) [] [] [] _ w [] vs (R.none eP YV) (sT.mono fun _ _ q=>a7.mono (Env.le_refl []) (ba.refl _ w) (fun b _ q=>(tu b).1 q) q)).mono ?_
 rintro en w' ⟨v,E1,rfl,_,hR,hd⟩
 obtain ⟨e0,ao,n',cap,g1,g2,g3,rfl⟩:=hd
 rw [bp] at hq
 obtain ⟨r1,r2,xs,r3,r4⟩:=hR.roots q _ _ hq g1
 have hvn:e0.2.1.1=.slice ao n cap:=by
  rcases r3.2 with ⟨q5,q6⟩|⟨g,cap2,cur,q5,_⟩
  ·rw [g2] at q5 ⊢; simp only [dT] at q5 ⊢; simp; omega
  ·rw [g2] at q5 ⊢; simp only [dT] at q5 ⊢; simp; omega
 have hb:=hR.below.below
 have eM:w'.ownsRow w0.base el sz (.slice ao n cap) n xs:=by
  rw [hvn] at r3
  refine ⟨r3.1,r3.2.imp id ?_⟩
  rintro ⟨g,cap2,cur,q5,q6,q7⟩
  exact ⟨g,cap2,cur,q5,cM h.size_le q6,q7⟩
 have jd:∀ k,(Value.slice ao n cap).ownBlock=some k→w.heap.size≤k∧k<w'.heap.size∧bq E1 q k e0.2.2:=by
  intro k hk
  have jr:bq E1 q k e0.2.2:=by
   obtain ⟨e1,e2,e3⟩:=e0
   have r2:e1=e2.1.ownBlock:=r2
   have hvn:e2.1=_:=hvn
   rw [hvn,hk] at r2
   exact ⟨e2,by rw [g1,r2]⟩
  have:=hR.blk q _ k e0.2.2 hq trivial jr
  exact ⟨this.1.base,this.2,jr⟩
 obtain ⟨E',h4,h5,h6,h7⟩:=h.make hf (dead:=Option.none) (x:=.arr el sz n get) (e:=((Value.slice ao n cap).ownBlock,nW (.slice ao n cap),sz)) (w':=w') (row:=Option.none) (lf hb) (fun k hk=>by cases hk)
  (fun k hk=>.inr (jd k hk).1) (fun k hk=>(jd k hk).2.1) (fun E' dp hE Ym rO hk=>⟨rfl,rfl,xs,eM,fun i hi j hj=>by
   obtain ⟨x,g5,g6⟩:=r4 i hi j hj
   exact ⟨x,g5,dm.mono (ba.refl _ w') (fun k kZ q=>by
    rcases rO k q with q|q
    ·exact .inl (hcase k q)
    ·exact .inr ⟨_,_,_,hq,trivial,(jd k (q.resolve_right fun q=>q)).2.2.own⟩) g6⟩⟩)
 ·refine ⟨_,E',rfl,h6,h4,fun d hd=>?_⟩
  simp only [eh,aq] at hd
  subst hd
  rcases eM.2 with ⟨q5,q6⟩|⟨g,cap2,cur,q5,_⟩
  ·exact ⟨_,ao,n,cap,h5,rfl,bk _,rfl⟩
  ·exact ⟨_,ao,n,cap,h5,rfl,bk _,rfl⟩
theorem SW (hl:ib T P lo) (h:R T N ay w0 sp s a w E) {b:Nat} (hf:lB s E b) {f:FuncId} {ds is:List D} {cs ob:List C} {L:List O} (hi:dG s.rs ds=some is)
  (hc:lo.call f is []=some (.a cs,[.own L])) (hm:re (TI b) cs=some ob) (hs:fH ds=true) {vs:List Value} (hv:aB (a7 E (AV ay s.rs E) w) ds vs) :
  jM T P N ay w0 sp s a w E b (.wr (some (.a ob)) [(b,.own L)]) f vs:=by
 obtain ⟨h1,h2⟩:=hl.call _ _ _ _ _ hc
 refine ⟨h1,?_⟩
 have avlt:∀ b,AV ay s.rs E b→b<w.heap.size:=by
  rintro b (q|⟨r,x,sz,h1,h2,h3⟩)
  ·exact h.jT q
  ·exact (h.dh r x b sz h1 h2 h3).2
 refine (h2 0 (AV ay s.rs E) (Kp.of w) [] [] [] _ w [] vs (R.none avlt h.gM) ((jb hs hi hv).mono fun _ _ q=>a7.mono (Env.le_refl []) (ba.refl _ w) (fun b _ q=>(tu b).1 q) q)).mono ?_
 rintro en w' ⟨v,E1,rfl,_,hR,hd⟩
 obtain ⟨ca,rfl,hcs⟩:=hd
 have hlen:0<E1.length:=by rw [hR.len]; exact Nat.lt_succ_self 0
 have he:=eY hlen
 generalize E1[0]=e0 at he
 have hroot:=hR.roots 0 _ _ rfl he
 obtain ⟨r1,r2,vt,r3,r4,Ks,r5,r6,r7⟩:=hroot
 have hb:=hR.below.below
 have hnew:∀ k,e0.2.1.2 k→w.heap.size≤k∧k<w'.heap.size:=fun k hk=>by
  have:=hR.dh 0 _ k e0.2.2 rfl trivial ⟨e0,he,rfl,.inr hk⟩
  exact ⟨this.1.base,this.2⟩
 have avw:∀ {dp:Nat→Prop},(∀ k,dp k→AV ay s.rs E k∨fQ.has (Option.none,e0.2.1,0) k)→∀ k,dp k→AV (AV ay s.rs E) [.own L] E1 k:=fun rO k q=>by
  rcases rO k q with q|q|q
  ·exact .inl q
  ·cases q
  ·exact .inr ⟨0,_,_,rfl,trivial,e0,he,rfl,.inr q⟩
 obtain ⟨E',h4,h5,h6,h7⟩:=h.make hf (dead:=Option.none) (x:=.own L) (e:=(Option.none,e0.2.1,0)) (w':=w') (row:=Option.none) (lf hb) (fun k hk=>by cases hk)
  (fun k hk=>by cases hk) (fun k hk=>by cases hk) (fun E' dp hE Ym rO hk=>⟨rfl,r2,vt,r3,r4,Ks,r5,r6,fun i o ho=>by
   obtain ⟨v,g1,g2⟩:=r7 i o ho
   exact ⟨v,g1,fC.base h.size_le (fC.mono (ba.refl _ w') (fun k _ q=>avw rO k q) (fun _ _=>rfl) g2)⟩⟩) (fun k hk=>.inr (hnew k hk))
 refine ⟨_,E',rfl,h6,h4,fun d hd=>?_⟩
 simp only [eh,aq] at hd
 subst hd
 have hav3:∀ k,AV ay (place b (.own L) (kill Option.none s.rs)) E' k→AV (AV ay s.rs E) [.own L] E1 k:=avw h7.2
 refine ⟨ca,rfl,?_⟩
 exact rN (fun c c' v e q=>by
  unfold TI at e
  split at e
  ·simp only [aq] at e; subst e
   exact dm.mono (ba.refl _ w') (fun k _ q=>hav3 k q) q
  ·simp only [aq] at e; subst e
   obtain ⟨e2,vs2,g1,g2,g3⟩:=q
   rw [he] at g1
   simp only [aq] at g1
   subst g1
   exact ⟨_,vs2,h5,g2,g3⟩
  ·simp at e) hm hcs
theorem kD {lo:Lo} {rs:List ah} {f:FuncId} {ds:List D} {b:Nat} {e:cF} (h:yN lo rs f ds b=some e):∃ is cs ob L,fH ds=true∧dG rs ds=some is∧lo.call f is []=some (.a cs,[.own L])∧re (TI b) cs=some ob∧e=.wr (some (.a ob)) [(b,.own L)]:=by
 unfold yN at h
 obtain ⟨hp,h⟩:=Bool.au h
 split at h
 case h_2=>simp at h
 rename_i is hi
 split at h
 case h_2=>simp at h
 rename_i cs L hc
 split at h
 case h_2=>simp at h
 rename_i ob hm
 simp only [aq] at h
 exact ⟨is,cs,ob,L,hp,hi,hc,hm,h.symm⟩
theorem HG (hl:ib T P lo) (h:R T N ay w0 sp s a w E) {b:Nat} (hf:lB s E b) {f:FuncId} {ds:List D} {e:cF} (ef:yN lo s.rs f ds b=some e) {vs:List Value} (hv:aB (a7 E (AV ay s.rs E) w) ds vs) :
  jM T P N ay w0 sp s a w E b e f vs:=by
 obtain ⟨is,cs,ob,L,hp,hi,hc,hm,rfl⟩:=kD ef
 exact SW hl h hf hi hc hm hp hv
theorem B3 (hl:ib T P lo) (h:R T N ay w0 sp s a w E) {b:Nat} (hf:lB s E b) {f:FuncId} {ds:List D} {e:cF} (ef:iD lo s.rs f ds b=some e) {vs:List Value} (hv:aB (a7 E (AV ay s.rs E) w) ds vs) :
  (∃ l,e=.cX l)∨jM T P N ay w0 sp s a w E b e f vs:=by
 unfold iD at ef
 split at ef
 ·rename_i d hd
  simp only [aq] at ef
  subst ef
  right
  unfold yz at hd
  split at hd
  case h_2=>simp at hd
  rename_i is hi
  split at hd
  ·split at hd
   ·obtain ⟨_,hd⟩:=Bool.au hd; simp at hd
   ·obtain ⟨_,hd⟩:=Bool.au hd; simp at hd
   ·simp at hd
  ·rename_i d0 rs0 _ uD
   split at hd
   case h_2=>simp at hd
   rename_i d' hre
   obtain ⟨hp,hd⟩:=Bool.au hd
   simp only [aq,cF.val.injEq] at hd
   subst hd
   obtain ⟨h3,h4⟩:=xP hl h (f:=f) (ds:=ds) (d:=d') (by simp only [yP,hi,uD,hre]) (by simp [hp]) (um hp) hv
   refine ⟨h3,h4.mono ?_⟩
   rintro en w' ⟨v,rfl,hb,hr⟩
   exact ⟨v,E,rfl,jh.zb h hb hr⟩
  ·simp at hd
 ·rename_i d q el sz n l ho
  rcases mG ho with ⟨is,q',n',aG,pM,cQ,l',hi,hc,hq,hp,hd,hws⟩|⟨is,q',n',aG,pM,cQ,get',hi,hc,hq,hd,hws⟩
  case inr=>simp at hws
  simp only [List.cons.injEq,bs,ah.row.injEq,and_true] at hws
  obtain ⟨rfl,rfl,rfl,rfl,rfl⟩:=hws
  subst hd
  cases zm:fB l with
  | true=>
    rw [zm] at ef
    simp only [aq] at ef
    subst ef
    exact .inr (IU hl h hf hi hc hq hp (.inl zm) hv)
  | false=>
    rw [zm] at ef
    rcases fh (show jQ s.rs ds _=some e from ef) with hc'|⟨rfl,hc'⟩
    ·exact .inl hc'
    ·exact .inr (IU hl h hf hi hc hq hp (.inr (pK hc')) hv)
 ·rename_i d q el sz n get ho
  rcases mG ho with ⟨is,q',n',aG,pM,cQ,l',hi,hc,hq,hp,hd,hws⟩|⟨is,q',n',aG,pM,cQ,get',hi,hc,hq,hd,hws⟩
  case inl=>simp at hws
  simp only [List.cons.injEq,bs,ah.arr.injEq,and_true] at hws
  obtain ⟨rfl,rfl,rfl,rfl,rfl⟩:=hws
  subst hd
  rcases fh (show jQ s.rs ds _=some e from ef) with hc'|⟨rfl,hc'⟩
  ·exact .inl hc'
  ·exact .inr (SA hl h hf hi hc hq (pK hc') hv)
 ·simp at ef
theorem Dq (hl:ib T P lo) (h:R T N ay w0 sp s a w E) {b:Nat} (hf:lB s E b) {f:FuncId} {ds:List D} {e:cF} (ef:oi lo hi s.rs b f ds=some e) {vs:List Value} (hv:aB (a7 E (AV ay s.rs E) w) ds vs) :
  (∃ l,e=.cX l)∨jM T P N ay w0 sp s a w E b e f vs:=by
 unfold oi at ef
 split at ef
 ·exact se hl h ef hv
 ·exact .inr (xr hl h ef hv)
 ·exact B3 hl h hf ef hv
 ·exact .inr (Lk hl h ef hv)
 ·exact .inr (HG hl h hf ef hv)
 ·cases hp:fH ds with
  | true=>rw [hp] at ef; exact se hl h ef hv
  | false=>rw [hp] at ef; exact .inr (xr hl h ef hv)
theorem ub (h:R T N ay w0 sp s a w E) {c:C} {f:FuncId} {eJ:List D} (e:pE c=some (f,eJ)) {fv:Value} (hc:bh E (AV ay s.rs E) w c fv) :
  ∃ cs:Array Value,fv=.func (.func f) #[] cs∧aB (a7 E (AV ay s.rs E) w) eJ cs.toList:=by
 refine Er h (fd:=.c c) ?_ hc
 unfold pE at e
 split at e
 ·exact e
 ·exact e
 ·simp at e
theorem Cw (hl:ib T P lo) (h:R T N ay w0 sp s a w E) (hn:bN s.sl) {b:Nat} (hf:lB s E b) {o:Oper} {c:Call} (ho:o.op=.call c) {f:Operand} (yf:c.callee=.value f) {e:cF} (ef:mo lo hi b s f c.args.toList=some e)
  {next:Act→World→Prop} (jU:∀ v w' E',jh T N ay w0 sp s a w E b e v w' E'→next (a.put o.dst v) w'):(∃ l,e=.cX l)∨X7 P true o a w next:=by
 have rz:∀ c',o.op ≠ .defer c':=fun c' q=>by rw [ho] at q; cases q
 unfold mo at ef
 split at ef
 case h_2=>simp at ef
 rename_i c0 ds hc0 hds
 have hc0:=h.cA hn (cz hc0)
 have hds:=lS h (bK.nil a) (mJ hn hds)
 split at ef
 ·rename_i r
  obtain ⟨b',sz,jr,hfv⟩:=hc0
  unfold Ak at ef
  split at ef
  case h_2=>simp at ef
  rename_i d aG hy
  simp only [aq] at ef
  subst ef
  right
  obtain ⟨b2,QU,fr,tm,as,bd,hat2,h1,h2⟩:=hl.Np _ _ _ _ _ hy N ay w0 sp s.sl s.df a w E _ h hds
  obtain ⟨q1,q2⟩:=jr
  obtain ⟨q3,q4⟩:=hat2
  rw [q2] at q4
  simp only [aq,bs] at q4
  obtain ⟨rfl,rfl,rfl⟩:=q4
  refine .round rfl b' fr tm as bd w rz ?_ fun c' cs=>?_
  ·have qa:(List.map a.eval c.args.toList).toArray=c.args.map a.eval:=by apply Array.ext'; simp
   rw [qa] at h1
   simp only [execOp,ho,resolve,yf,hfv,Deferred.ofValue,Sem.run_bind,Sem.run_pure,Result.andThen_ok,invoke]
   simpa using h1
  ·obtain ⟨v,w',⟨E',hk,h3,h4⟩,h5⟩:=h2 c' cs
   exact ⟨v,w',jU v w' E' ⟨hk.WK b,h3,fun d' qk=>by simp only [eh,aq] at qk; subst qk; exact h4⟩,h5⟩
 ·split at ef
  case h_2=>simp at ef
  rename_i g eJ hcl
  obtain ⟨cs,hfv,hcs⟩:=ub h hcl hc0
  rcases Dq hl h hf ef (hds.append hcs) with hq|⟨he,uD⟩
  ·exact .inl hq
  right
  have sT:(List.map a.eval c.args.toList++cs.toList).toArray=c.args.map a.eval++cs:=by
   apply Array.ext'
   simp
  refine .enter g (List.map a.eval c.args.toList++cs.toList).toArray w rz ?_ (uD.mono ?_)
  ·rw [sT]; exact Gl ho yf hfv he
  ·rintro en w' ⟨v,E',rfl,ha⟩
   exact ⟨v,rfl,jU v w' E' ha⟩
theorem rf (bQ:dV P T) (hl:ib T P lo) (h:R T N ay w0 sp s a w E) (hn:bN s.sl) {b:Nat} (hf:lB s E b) {o:Oper} {e:cF} (ef:gk T lo hi b s o.dst o.op=some e)
  {next:Act→World→Prop} (jU:∀ v w' E',jh T N ay w0 sp s a w E b e v w' E'→next (a.put o.dst v) w'):(∃ l,e=.cX l)∨X7 P true o a w next:=by
 unfold gk at ef
 split at ef
 ·rename_i d hd
  simp only [aq] at ef
  subst ef
  obtain ⟨v,h1,h2⟩:=Ep bQ h hn hd
  refine .inr (.value v w (fun c q=>?_) h1 (jU v w E ⟨mO.refl _ _,h,fun d' qk=>by simp only [eh,aq] at qk; subst qk; exact h2⟩))
  rw [q] at hd; simp [fL] at hd
 ·generalize hop:o.op=op at ef
  have rz:∀ {op'},o.op=op'→(∀ c,op' ≠ .defer c)→∀ c,o.op ≠ .defer c:=fun q k c=>by rw [q]; exact k c
  cases op with
  | box t x=>
    obtain ⟨E',ha⟩:=FX h hn hf t ef
    exact .inr (.value _ _ (rz hop fun _=>Op.noConfusion) (by simp only [execOp,hop]; rfl) (jU _ _ _ ha))
  | alloc t=>
    obtain ⟨v,w',E',hr,ha⟩:=AJ bQ h hf ef
    exact .inr (.value v w' (rz hop fun _=>Op.noConfusion) (hr o hop) (jU _ _ _ ha))
  | store t x v=>
    rcases Cy bQ h hn ef b with hc|⟨hd,w',hr,ha⟩
    ·exact .inl hc
    exact .inr (.skip w' (rz hop fun _=>Op.noConfusion) (by simp only [execOp,hop]; simp [hr]) (jU _ _ _ ha))
  | buildSlice t n ps=>
    obtain ⟨v,w',E',hr,ha⟩:=KG bQ h hn hf ef
    exact .inr (.value v w' (rz hop fun _=>Op.noConfusion) (by simp only [execOp,hop]; exact bX hr) (jU _ _ _ ha))
  | makeMap t r=>
    obtain ⟨rfl,E',ha⟩:=Af h hf ef
    exact .inr (.value _ _ (rz hop fun _=>Op.noConfusion) (by simp only [execOp,hop]; rfl) (jU _ _ _ ha))
  | makeSlice t l c=>
    obtain ⟨v,w',E',hr,ha⟩:=Dh bQ h hn hf ef
    exact .inr (.value v w' (rz hop fun _=>Op.noConfusion) (by simp only [execOp,hop]; exact bX hr) (jU _ _ _ ha))
  | mapUpdate t m k v=>
    obtain ⟨hd,w',hr,ha⟩:=EA bQ h hn ef b
    exact .inr (.skip w' (rz hop fun _=>Op.noConfusion) (by simp only [execOp,hop]; simp [hr]) (jU _ _ _ ha))
  | call c=>
    have ef:gI T lo hi b s c=some e:=ef
    unfold gI at ef
    split at ef
    ·rename_i yf
     rcases GN bQ h hn hf ef o.type with hc|⟨v,w',E',hr,ha⟩
     ·exact .inl hc
     refine .inr (.value v w' (rz hop fun _=>Op.noConfusion) ?_ (jU _ _ _ ha))
     have qa:(List.map a.eval c.args.toList).toArray=c.args.map a.eval:=by apply Array.ext'; simp
     rw [qa] at hr
     have hts:c.argTypes.toList.toArray=c.argTypes:=rfl
     rw [hts] at hr
     simp only [execOp,hop,resolve,yf,Sem.run_bind,Sem.run_pure,Result.andThen_ok,invoke,builtin]
     simp [hr]
    ·rename_i f yf
     exact Cw hl h hn hf hop yf ef jU
    ·simp at ef
  | _=>simp [hJ] at ef
end
open Go.RowKit
def Fr (ρ:Option Nat):Fence:={ fn:=fun _=>True,depth:=none,alive:=false,round:=ρ }
section
variable {P:Program} {T:dY} {lo:Lo} {hi:Hint} {N:Nat} {ay:Nat→Prop} {w0:Kp} {sp:List (D×Value)} {s:VS} {a:Act} {w:World} {E:Env} {ρ:Option Nat}
theorem KA (ρ:Option Nat) (m:Machine):m.fenced P (Fr ρ):=by
 intro g _
 refine ⟨fun h=>?_,Or.inl trivial,fun _ _=>trivial,fun _ h=>?_⟩
 ·cases h
 ·cases h
theorem Jx (ρ:Option Nat) (n:Nat):(Fr ρ).room n:=fun d h=>by cases h
theorem wJ {m m':Machine} (h:Steps P m m'):StepsIn (Machine.fenced P (Fr ρ)) P m m':=(StepsIn.of_steps h).mono fun m _=>KA ρ m
theorem X7.wpIn {Y:Bool} {o:Oper} {next:Act→World→Prop} {Q:Exit→Act→World→Prop} (h:X7 P Y o a w next):o.wpIn (Fr ρ) 0 P a w next Q:=by
 refine ⟨fun _ _=>trivial,?_⟩
 cases h with
 | value v w' hd hr hn=>rw [Oper.semAt_eq _ _ _ hd,hr]; exact hn
 | skip w' hd hr hn=>rw [Oper.semAt_eq _ _ _ hd,hr]; exact hn
 | enter f args w' hd hr hc=>
   rw [Oper.semAt_eq _ _ _ hd,hr]
   refine ⟨fun q=>(by cases q),trivial,fun cs _=>?_⟩
   obtain ⟨e,w2,fr,⟨v,rfl,hn⟩,hs,hf,hl⟩:=hc cs
   exact ⟨.returned v,w2,fr,hn,wJ hs,hf,hl⟩
 | round hY l f tm as bd w' hd hr hc=>
   rw [Oper.semAt_eq _ _ _ hd,hr]
   refine ⟨fun q=>(by cases q),trivial,fun c cs _=>?_⟩
   obtain ⟨v,w2,hn,hs⟩:=hc c cs
   exact ⟨.returned v,w2,hn,wJ hs⟩
end
open Go.RowKit
structure Qt (r:Nat) (dp:Nat→Prop) (ay:Nat→Prop) (s:VS) (E:Env):Prop where
 le:∀ b,dp b→AV ay s.rs E b
 ZS:∀ b sz,di E r b sz→¬ dp b
theorem Qt.no {r:Nat} {dp ay:Nat→Prop} {s:VS} {E:Env} (h:Qt r dp ay s E) (b sz:Nat) (h1:bq E r b sz):¬ dp b:=h.ZS b sz h1.own
section
variable {P:Program} {T:dY} {lo:Lo} {hi:Hint} {N:Nat} {ay:Nat→Prop} {w0:Kp} {sp:List (D×Value)} {s:VS} {a:Act} {w:World} {E:Env} {ρ:Option Nat}
theorem HR (h:R T N ay w0 sp s a w E) {r el sz n m:Nat} {l:List C} {is:List I} (hr:s.rs[r]?=some (.row el sz n l)) (hi:Av l=some is) {dp:Nat→Prop} (ha:Qt r dp ay s E) {v:Value}
  (hv:bh E (AV ay s.rs E) w (.sa r m) v):dm dp w (.sl sz m (flat sz is)) v:=by
 obtain ⟨e',ao,n',cap,h1,h2,h3,rfl⟩:=hv
 obtain ⟨q1,q2,xs,q3,q4⟩:=h.roots r _ _ hr h1
 have him:=qp hi
 subst him
 have hx:=vG q4
 have hxl:=hx.length
 rcases q3.2 with ⟨q5,q6⟩|⟨g,cap',cur,q5,q6,q7,q8,q9,q10,q11⟩
 ·rw [h2] at q5
  simp only [dT] at q5
  obtain ⟨rfl,rfl,rfl⟩:=q5
  exact ⟨none,0,rfl,by omega,by omega,fun h0=>by omega⟩
 ·rw [h2] at q5
  simp only [dT] at q5
  obtain ⟨rfl,rfl,rfl⟩:=q5
  have jr:bq E r g e'.2.2:=by
   obtain ⟨e1,e2,e3⟩:=e'
   have h2:e2.1=_:=h2
   have q2:e1=e2.1.ownBlock:=q2
   rw [h2] at q2
   exact ⟨e2,by rw [h1,q2]; rfl⟩
  refine ⟨_,cap,rfl,by omega,by omega,fun _=>⟨_,rfl,rfl,ha.no g _ jr,(Array.getElem?_eq_some_iff.1 q7).1,fun i jD j hj=>?_⟩⟩
  have dD:i*sz+j<n'*sz:=by
   have:=gr sz (show i+1≤n' by omega)
   rw [Nat.add_mul,Nat.one_mul] at this
   omega
  obtain ⟨x,h5,h6⟩:=og hx (q:=i*sz+j) (by rw [hxl,q3.1]; exact dD)
  refine ⟨x,?_,dm.mono (ba.refl _ w) (fun b _ hb=>ha.le b hb) h6⟩
  rw [Addr.add_mid,de q7]
  rw [← q11,dy,if_pos dD] at h5
  simpa using h5
theorem aB.LR {α β γ:Type} {f:α→β} {Ra:α→γ→Prop} {Rb:β→γ→Prop} (h:∀ x y,Ra x y→Rb (f x) y) {l:List α} {m:List γ} (k:aB Ra l m):aB Rb (l.map f) m:=by
 induction k with
 | nil=>exact .nil
 | cons q _ ih=>exact .cons (h _ _ q) ih
theorem Nd {sl:aN} (f:D→D):∀ {t:Tmp} {d:D} {c:ft},look (sl.map fun x=>(x.1,f x.2.1,x.2.2)) t=some (d,c)→∃ d0,d=f d0∧look sl t=some (d0,c):=by
 induction sl with
 | nil=>intro t d c h; simp [look] at h
 | cons x sl ih=>
   intro t d c h
   obtain ⟨k,e,c0⟩:=x
   simp only [List.map_cons,look] at h ⊢
   split at h
   ·rename_i hk
    simp only [aq,bs] at h
    obtain ⟨rfl,rfl⟩:=h
    exact ⟨e,rfl,by simp⟩
   ·rename_i hk
    obtain ⟨d0,h1,h2⟩:=ih h
    exact ⟨d0,h1,h2⟩
theorem K3 {r sz:Nat} {get:Nat→Nat→I} {x:ah}:(Lz r sz get x).live→x.live:=by
 cases x<;>exact id
theorem kF {r sz:Nat} {get:Nat→Nat→I} (hC:∀ dp,Qt r dp ay s E→∀ m v,bh E (AV ay s.rs E) w (.sa r m) v→dm dp w (.sl sz m get) v) {dp:Nat→Prop} (ha:Qt r dp ay s E) {x:C} {v:Value}
  (hv:bh E (AV ay s.rs E) w x v):bh E dp w (Gh r sz get x) v:=by
 unfold Gh
 split
 ·rename_i q m
  cases hq:Nat.beq q r with
  | true=>
    have hq:=Nat.eq_of_beq_eq_true hq
    subst hq
    exact hC _ ha _ _ hv
  | false=>exact bh.mono (Env.le_refl E) (ba.refl _ w) (fun b _ q=>ha.le b q) hv
 ·exact bh.mono (Env.le_refl E) (ba.refl _ w) (fun b _ q=>ha.le b q) hv
theorem KO {r sz:Nat} {get:Nat→Nat→I} (hC:∀ dp,Qt r dp ay s E→∀ m v,bh E (AV ay s.rs E) w (.sa r m) v→dm dp w (.sl sz m get) v) {dp:Nat→Prop} (ha:Qt r dp ay s E) {d:D} {v:Value}
  (hv:a7 E (AV ay s.rs E) w d v):a7 E dp w (RM r sz get d) v:=by
 cases d with
 | c x=>exact kF hC ha hv
 | a l=>obtain ⟨cs,h1,h2⟩:=hv; exact ⟨cs,h1,h2.LR fun _ _ q=>kF hC ha q⟩
 | t l=>
   obtain ⟨vs,h1,h2⟩:=hv
   refine ⟨vs,h1,h2.LR ?_⟩
   rintro ⟨b,l⟩ y q
   cases b with
   | true=>obtain ⟨cs,q1,q2⟩:=q; exact ⟨cs,q1,q2.LR fun _ _ q=>kF hC ha q⟩
   | false=>obtain ⟨c,q1,q2⟩:=q; exact ⟨_,by simp [show l=[c] from q1],kF hC ha q2⟩
theorem HZ (h:R T N ay w0 sp s a w E) {r el sz n m:Nat} {get:Nat→Nat→I} (hr:s.rs[r]?=some (.arr el sz n get)) {dp:Nat→Prop} (ha:Qt r dp ay s E) {v:Value}
  (hv:bh E (AV ay s.rs E) w (.sa r m) v):dm dp w (.sl sz m get) v:=by
 obtain ⟨e',ao,n',cap,h1,h2,h3,rfl⟩:=hv
 obtain ⟨q1,q2,xs,q3,q4⟩:=h.roots r _ _ hr h1
 rcases q3.2 with ⟨q5,q6⟩|⟨g,cap',cur,q5,q6,q7,q8,q9,q10,q11⟩
 ·rw [h2] at q5
  simp only [dT] at q5
  obtain ⟨rfl,rfl,rfl⟩:=q5
  exact ⟨none,0,rfl,by omega,by omega,fun h0=>by omega⟩
 ·rw [h2] at q5
  simp only [dT] at q5
  obtain ⟨rfl,rfl,rfl⟩:=q5
  have jr:bq E r g e'.2.2:=by
   obtain ⟨e1,e2,e3⟩:=e'
   have h2:e2.1=_:=h2
   have q2:e1=e2.1.ownBlock:=q2
   rw [h2] at q2
   exact ⟨e2,by rw [h1,q2]; rfl⟩
  refine ⟨_,cap,rfl,by omega,by omega,fun _=>⟨_,rfl,rfl,ha.no g _ jr,(Array.getElem?_eq_some_iff.1 q7).1,fun i jD j hj=>?_⟩⟩
  have dD:i*sz+j<n'*sz:=by
   have:=gr sz (show i+1≤n' by omega)
   rw [Nat.add_mul,Nat.one_mul] at this
   omega
  obtain ⟨x,h5,h6⟩:=q4 i (by omega) j hj
  refine ⟨x,?_,dm.mono (ba.refl _ w) (fun b _ hb=>ha.le b hb) h6⟩
  rw [Addr.add_mid,de q7]
  rw [← q11,dy,if_pos dD] at h5
  simpa using h5
theorem Gs (h:R T N ay w0 sp s a w E) {r:Nat} {x0:ah} (hl:s.rs[r]?=some x0) (Yq:x0.live) {sz:Nat} {get:Nat→Nat→I}
  (hC:∀ dp,Qt r dp ay s E→∀ m v,bh E (AV ay s.rs E) w (.sa r m) v→dm dp w (.sl sz m get) v):R T N ay w0 sp (sO r sz get s) a w E∧(bN s.sl→bN (sO r sz get s).sl):=by
 unfold sO
 have key:∀ (q:Nat) (y:ah),(setAt (s.rs.map (Lz r sz get)) r .dead)[q]?=some y→y.live→q≠r∧∃ x,s.rs[q]?=some x∧y=Lz r sz get x∧x.live:=by
  intro q y h1 h2
  rw [aQ,dP] at h1
  split at h1
  ·rename_i hq
   split at h1
   ·simp only [aq] at h1; subst h1; exact h2.elim
   ·simp at h1
  ·rename_i hq
   rw [List.getElem?_map] at h1
   cases hx:s.rs[q]? with
   | none=>rw [hx] at h1; simp at h1
   | some x=>
     rw [hx] at h1
     simp only [Option.map_some,aq] at h1
     subst h1
     exact ⟨fun e=>hq e.symm,x,rfl,rfl,K3 h2⟩
 have hb:Qt r (AV ay (setAt (s.rs.map (Lz r sz get)) r .dead) E) ay s E:=by
  refine ⟨?_,?_⟩
  ·rintro b (q|⟨q,y,z,h1,h2,h3⟩)
   ·exact .inl q
   ·obtain ⟨_,x,h4,_,h5⟩:=key q y h1 h2
    exact .inr ⟨q,x,z,h4,h5,h3⟩
  ·rintro b z jr (q|⟨q,y,z',h1,h2,h3⟩)
   ·have q1:=(h.dh r _ b z hl Yq jr).1
    have q2:=h.outer b q
    exact q2.2 (q1.own q2.1)
   ·obtain ⟨rA,x,h4,_,h5⟩:=key q y h1 h2
    exact rA (h.dQ q r x _ b z' z h4 hl h5 Yq h3 jr)
 refine ⟨⟨h.size,h.defers,fun x hx=>a7.mono (Env.le_refl E) (ba.refl _ w) (fun b _ q=>hb.le b q) (h.spec x hx),h.below,by rw [aQ]; simpa using h.len,h.outer,?_,?_,?_,?_,h.gM.mono (ba.refl _ w) (fun b _ q=>hb.le b q)⟩,?_⟩
 ·intro q y e h1 h2
  by_cases hlv:y.live
  ·obtain ⟨rA,x,h4,rfl,h5⟩:=key q y h1 hlv
   have hx:=h.roots q x e h4 h2
   cases x with
   | box l2=>
     obtain ⟨b,cs,Tc,p1,p2,p3,p4⟩:=hx
     exact ⟨b,cs,Tc,p1,by rw [p2]; simp,p3,p4.LR fun _ _ q=>kF hC hb q⟩
   | row el2 QU n2 l2=>
     obtain ⟨p1,p2,xs,p3,p4⟩:=hx
     exact ⟨p1,p2,xs,p3,p4.LR fun _ _ q=>kF hC hb q⟩
   | dead=>trivial
   | arr el2 QU n2 get=>exact aM.mono (x:=.arr el2 QU n2 get) (Env.le_refl E) (ba.refl _ w) (fun b _ q=>hb.le b q) (fun _ _ _=>rfl) hx
   | cR el2 QU n2 get eG=>exact aM.mono (x:=.cR el2 QU n2 get eG) (Env.le_refl E) (ba.refl _ w) (fun b _ q=>hb.le b q) (fun _ _ _=>rfl) hx
   | own l2=>exact aM.mono (x:=.own l2) (Env.le_refl E) (ba.refl _ w) (fun b _ q=>hb.le b q) (fun _ _ _=>rfl) hx
   | set l2=>exact hx
   | nZ=>exact hx
   | loop f M sl ps as bd st fW=>exact aM.mono (x:=.loop f M sl ps as bd st fW) (Env.le_refl E) (ba.refl _ w) (fun b _ q=>hb.le b q) (fun _ _ _=>rfl) hx
  ·cases y with
   | dead=>trivial
   | _=>exact (hlv trivial).elim
 ·intro q y b z h1 h2 h3
  obtain ⟨_,x,h4,_,h5⟩:=key q y h1 h2
  exact h.dh q x b z h4 h5 h3
 ·intro q q' y y' b z z' h1 kH h2 gU h3 lE
  obtain ⟨_,x,h4,_,h5⟩:=key q y h1 h2
  obtain ⟨_,x',h4',_,h5'⟩:=key q' y' kH gU
  exact h.dQ q q' x x' b z z' h4 h4' h5 h5' h3 lE
 ·intro t d c X4
  obtain ⟨d0,rfl,h1⟩:=Nd (RM r sz get) X4
  obtain ⟨p1,p2,p3⟩:=h.slots t d0 c h1
  exact ⟨p1,fun q=>KO hC hb (p2 q),p3⟩
 ·intro hn x hx
  obtain ⟨y,hy,rfl⟩:=List.mem_map.1 hx
  exact hn y hy
theorem R.freeze (h:R T N ay w0 sp s a w E) {r:Nat} {s':VS} (e:freeze r s=some s'):R T N ay w0 sp s' a w E∧(bN s.sl→bN s'.sl):=by
 unfold Go.V.freeze at e
 split at e
 ·rename_i el sz n l hl
  rw [cl,bp] at hl
  unfold I6 at e
  split at e
  case h_2=>simp at e
  rename_i is hi
  simp only [aq] at e
  subst e
  exact Gs h hl trivial fun dp ha m v hv=>HR h hl hi ha hv
 ·rename_i el sz n get hl
  rw [cl,bp] at hl
  simp only [aq] at e
  subst e
  exact Gs h hl trivial fun dp ha m v hv=>HZ h hl ha hv
 ·rename_i el sz n get hl
  rw [cl,bp] at hl
  simp only [aq] at e
  subst e
  exact Gs h hl trivial fun dp ha m v hv=>by
   obtain ⟨e',ao,n',cap,h1,h2,h3,rfl⟩:=hv
   exact PT (h.roots r _ _ hl h1) ha.le (fun b hb=>ha.ZS b e'.2.2 ⟨e',h1,rfl,hb⟩) h2 h3
 ·simp only [aq] at e
  subst e
  exact ⟨h,id⟩
 ·simp at e
theorem R.gW:∀ {l:List Nat} {s s':VS},R T N ay w0 sp s a w E→gW l s=some s'→R T N ay w0 sp s' a w E∧(bN s.sl→bN s'.sl)
 | [],s,s',h,e=>by
   have e:some s=some s':=e
   simp only [aq] at e; subst e; exact ⟨h,id⟩
 | r::l,s,s',h,e=>by
   have e:(match Go.V.freeze r s with
    | some s1=>Go.V.gW l s1
    | Option.none=>Option.none)=some s':=e
   split at e
   case h_2=>simp at e
   rename_i s1 h1
   obtain ⟨h2,h3⟩:=h.freeze h1
   obtain ⟨h4,h5⟩:=R.gW h2 e
   exact ⟨h4,fun q=>h5 (h3 q)⟩
end
open Go.RowKit
section
variable {P:Program} {T:dY} {lo:Lo} {hi:Hint} {N:Nat} {ay:Nat→Prop} {w0:Kp} {sp:List (D×Value)} {s:VS} {a:Act} {w:World} {E:Env} {ρ:Option Nat}
theorem bN.free {sl:aN} (h:bN sl) (t:Tmp):free t sl=true:=by
 induction sl with
 | nil=>rfl
 | cons x sl ih=>
   have hx:=h x (eS ..)
   simp only [Go.V.free,hx,il]
   exact ih fun y hy=>h y (fe _ hy)
theorem qV (h:R T N ay w0 sp s a w E) (hn:bN s.sl) {dst:Option Tmp} {d:D} {s':VS} (e:rr N s dst d=some s') {v:Value} (hv:a7 E (AV ay s.rs E) w d v):R T N ay w0 sp s' (a.put dst v) w E∧bN s'.sl:=by
 unfold rr at e
 split at e
 ·simp only [aq] at e; subst e; exact ⟨h,hn⟩
 ·rename_i t
  obtain ⟨ht,e⟩:=Bool.au e
  simp only [aq] at e
  subst e
  refine ⟨h.put (g:=[]) ?_ (fun _=>hv) (fun q=>(q (bK.nil a)).elim),hn.cons _ _⟩
  simp only [EX,ht,hn.free t,il]
theorem IC {b:Nat} {dst:Option Tmp} {e:cF} {s':VS} (hn:bN s.sl) (hs:qc N s dst e=some s') {v:Value} {w':World} {E':Env} (ha:jh T N ay w0 sp s a w E b e v w' E') (hd:eh e=none→dst=none) :
  R T N ay w0 sp s' (a.put dst v) w' E'∧bN s'.sl:=by
 obtain ⟨_,h1,h2⟩:=ha
 unfold qc at hs
 split at hs
 ·exact qV h1 hn hs (h2 _ rfl)
 ·rename_i d ws
  unfold IL at hs
  split at hs
  ·exact qV h1 hn hs (h2 _ rfl)
  ·simp only [aq] at hs
   subst hs
   rw [hd rfl]
   exact ⟨h1,hn⟩
 ·exact qV h1 hn hs (h2 _ rfl)
 ·simp at hs
theorem FG {rs:List ah} {f:FuncId} {ds:List D} {b:Nat} {e:cF} (ef:iD lo rs f ds b=some e):(∃ l,e=.cX l)∨eh e≠none:=by
 unfold iD at ef
 split at ef
 ·simp only [aq] at ef; subst ef; exact .inr (by simp [eh])
 ·rename_i d q el sz n l ho
  rcases mG ho with ⟨is,q',n',aG,pM,cQ,l',hi,hc,hq,hp,hd,hws⟩|⟨is,q',n',aG,pM,cQ,get',hi,hc,hq,hd,hws⟩
  case inr=>simp at hws
  subst hd
  cases zm:fB l with
  | true=>rw [zm] at ef; simp only [aq] at ef; subst ef; exact .inr (by simp [eh])
  | false=>
    rw [zm] at ef
    rcases fh (show jQ rs ds _=some e from ef) with hc'|⟨rfl,hc'⟩
    ·exact .inl hc'
    ·exact .inr (by simp [eh])
 ·rename_i d q el sz n get ho
  rcases mG ho with ⟨is,q',n',aG,pM,cQ,l',hi,hc,hq,hp,hd,hws⟩|⟨is,q',n',aG,pM,cQ,get',hi,hc,hq,hd,hws⟩
  case inl=>simp at hws
  subst hd
  rcases fh (show jQ rs ds _=some e from ef) with hc'|⟨rfl,hc'⟩
  ·exact .inl hc'
  ·exact .inr (by simp [eh])
 ·simp at ef
theorem wP {rs:List ah} {f:FuncId} {ds:List D} {e:cF} (ef:ie lo rs f ds=some e):(∃ l,e=.cX l)∨eh e≠none:=by
 unfold ie at ef
 split at ef
 case h_2=>simp at ef
 rename_i d hd
 cases hp:iG d with
 | true=>rw [hp] at ef; simp only [aq] at ef; subst ef; exact .inr (by simp [eh])
 | false=>
   rw [hp] at ef
   obtain ⟨h1,ef⟩:=Bool.au (show (Bool.rec none (jQ rs ds (.val d)) (kr d):Option cF)=some e from ef)
   rcases fh ef with hc|⟨rfl,hc⟩
   ·exact .inl hc
   ·exact .inr (by simp [eh])
theorem ED {rs:List ah} {f:FuncId} {ds:List D} {e:cF} (ef:tn lo rs f ds=some e):eh e≠none:=by
 unfold tn at ef
 split at ef
 ·simp only [aq] at ef; subst ef; simp [eh]
 ·simp at ef
theorem Di {b:Nat} {dst:Option Tmp} {op:Op} {e:cF} (ef:gk T lo hi b s dst op=some e):(∃ l,e=.cX l)∨eh e≠none∨dst=none:=by
 unfold gk at ef
 split at ef
 ·simp only [aq] at ef; subst ef; exact .inr (.inl (by simp [eh]))
 ·cases op with
  | box t x=>
    have ef:uR b s x=some e:=ef
    unfold uR at ef
    split at ef
    ·split at ef
     ·simp only [aq] at ef; subst ef; exact .inr (.inl (by simp [eh]))
     ·simp at ef
    ·simp at ef
  | alloc t=>
    have ef:kW T b t=some e:=ef
    unfold kW at ef
    split at ef
    ·split at ef
     ·simp only [aq] at ef; subst ef; exact .inr (.inl (by simp [eh]))
     ·simp at ef
    ·simp at ef
  | store t x v=>
    have ef:ij T s dst t x v=some e:=ef
    unfold ij at ef
    split at ef
    ·simp at ef
    ·exact .inr (.inr rfl)
  | mapUpdate t m k v=>
    have ef:mQ T s dst t m k v=some e:=ef
    unfold mQ at ef
    split at ef
    ·simp at ef
    ·exact .inr (.inr rfl)
  | makeMap t r=>
    have ef:kV T b t r=some e:=ef
    unfold kV at ef
    split at ef
    ·simp only [aq] at ef; subst ef; exact .inr (.inl (by simp [eh]))
    ·simp at ef
  | makeSlice t l c=>
    have ef:mB T b s t l c=some e:=ef
    unfold mB at ef
    split at ef
    case h_2=>simp at ef
    split at ef
    case h_2=>simp at ef
    split at ef
    case h_2=>simp at ef
    split at ef
    case h_2=>simp at ef
    split at ef
    case h_2=>simp at ef
    obtain ⟨_,ef⟩:=Bool.au ef
    obtain ⟨_,ef⟩:=Bool.au ef
    obtain ⟨_,ef⟩:=Bool.au ef
    simp only [aq] at ef; subst ef; exact .inr (.inl (by simp [eh]))
  | buildSlice t n ps=>
    have ef:LM T b s (sw hi dst) t n ps.toList=some e:=ef
    unfold LM at ef
    split at ef
    case h_2=>simp at ef
    split at ef
    case h_2=>simp at ef
    split at ef
    case h_2=>simp at ef
    split at ef
    case h_2=>simp at ef
    obtain ⟨_,ef⟩:=Bool.au ef
    simp only [aq] at ef; subst ef; exact .inr (.inl (by rcases jX (sw hi dst) b _ _ n _ with hc|⟨_,_,hc⟩|⟨_,hc⟩<;>rw [hc]<;>simp [eh]))
  | call c=>
    have ef:gI T lo hi b s c=some e:=ef
    unfold gI at ef
    split at ef
    ·unfold pw at ef
     split at ef
     case h_2=>simp at ef
     replace ef:=(Bool.au ef).2
     split at ef
     case h_2=>simp at ef
     split at ef
     ·rename_i e' he'
      subst ef
      have fin2:∀ {el sz k:Nat} {l':Nat→Nat→I} {Pk:Nat} {c:C},qx el sz k l' Pk b s.rs c=some e→eh e≠none:=by
       intro el sz k l' Pk c q
       unfold qx at q
       split at q
       ·replace q:=(Bool.au q).2
        simp only [aq] at q; subst q; simp [eh]
       ·split at q
        ·replace q:=(Bool.au q).2
         replace q:=(Bool.au q).2
         replace q:=(Bool.au q).2
         simp only [aq] at q; subst q; simp [eh]
        ·simp at q
       ·simp at q
      unfold pX at he'
      split at he'
      case h_2=>simp at he'
      split at he'
      case h_2=>simp at he'
      split at he'
      case h_2=>simp at he'
      simp only [aq] at he'
      unfold Bb at he'
      split at he'
      ·exact .inr (.inl (fin2 (Bool.au he').2))
      ·unfold ot at he'
       split at he'
       ·simp only [aq] at he'
        exact .inl ⟨_,he'.symm⟩
       ·simp at he'
     unfold pj at ef
     have fin:∀ {el sz k:Nat} {l':List C} {Pk:Nat} {c:C},C3 el sz k l' Pk b s.rs c=some e→eh e≠none:=by
      intro el sz k l' Pk c q
      unfold C3 at q
      split at q
      ·split at q
       ·simp only [aq] at q; subst q; simp [eh]
       ·replace q:=(Bool.au q).2
        simp only [aq] at q; subst q; simp [eh]
      ·split at q
       ·replace q:=(Bool.au q).2
        replace q:=(Bool.au q).2
        simp only [aq] at q; subst q; simp [eh]
       ·split at q
        ·replace q:=(Bool.au q).2
         replace q:=(Bool.au q).2
         simp only [aq] at q; subst q; simp [eh]
        ·simp at q
       ·simp at q
      ·simp at q
     split at ef
     case h_2=>simp at ef
     split at ef
     case h_2=>simp at ef
     split at ef
     case h_2=>simp at ef
     split at ef
     case h_2=>simp at ef
     split at ef
     ·exact .inr (.inl (fin (Bool.au ef).2))
     ·exact .inr (.inl (fin (Bool.au ef).2))
    ·unfold mo at ef
     split at ef
     case h_2=>simp at ef
     split at ef
     ·unfold Ak at ef
      split at ef
      ·simp only [aq] at ef; subst ef; exact .inr (.inl (by simp [eh]))
      ·simp at ef
     ·split at ef
      case h_2=>simp at ef
      unfold oi at ef
      split at ef
      ·exact (wP ef).imp id .inl
      ·exact .inr (.inl (ED ef))
      ·exact (FG ef).imp id .inl
      ·unfold Qx at ef
       split at ef
       ·replace ef:=(Bool.au ef).2
        simp only [aq] at ef; subst ef; exact .inr (.inl (by simp [eh]))
       ·simp at ef
      ·obtain ⟨is,cs,ob,L,_,_,_,_,rfl⟩:=kD ef
       exact .inr (.inl (by simp [eh]))
      ·rename_i ds _ _ _ _ _ _ _ _ _
       revert ef
       generalize fH _=p
       intro ef
       cases p with
       | true=>exact (wP ef).imp id .inl
       | false=>exact .inr (.inl (ED ef))
    ·simp at ef
  | _=>simp [hJ] at ef
theorem xf {dst:Option Tmp} {l:List Nat} {s':VS}:qc N s dst (.cX l)≠some s':=by simp [qc]
theorem Fh (bQ:dV P T) (hl:ib T P lo) (h:R T N ay w0 sp s a w E) (hn:bN s.sl) {o:Oper} {s':VS} (e:Dw T lo hi N s o.dst o.op=some s')
  {next:Act→World→Prop} (jU:∀ a' w' E',Kept E E'→R T N ay w0 sp s' a' w' E'→bN s'.sl→next a' w'):X7 P true o a w next:=by
 have one:∀ {s:VS},R T N ay w0 sp s a w E→bN s.sl→∀ {ef:cF},gk T lo hi s.rs.length s o.dst o.op=some ef→qc N s o.dst ef=some s'→X7 P true o a w next:=by
  intro s h hn ef h1 h2
  have hd:=Di h1
  rcases rf bQ hl h hn (.inr rfl) h1 (next:=next) (fun v w' E' ha=>by
   obtain ⟨h3,h4⟩:=IC hn h2 ha (fun q=>by
    rcases hd with ⟨l,rfl⟩|hd|hd
    ·exact (xf h2).elim
    ·exact (hd q).elim
    ·exact hd)
   exact jU _ _ _ (Kept.Iz ha.1 (Nat.le_of_eq h.len)) h3 h4) with ⟨l,rfl⟩|h3
  ·exact (xf h2).elim
  ·exact h3
 unfold Dw at e
 split at e
 ·rename_i l _
  unfold M6 at e
  split at e
  case h_2=>simp at e
  rename_i s1 hs1
  obtain ⟨h1,h2⟩:=h.gW hs1
  split at e
  case h_2=>simp at e
  rename_i ef hef
  exact one h1 (h2 hn) hef e
 ·rename_i ef _ hef
  exact one h hn hef e
 ·simp at e
theorem qq (h:R T N ay w0 sp s a w E) (hn:bN s.sl) {ops:Array Oper} {o:Oper} {b:Bool} (e:mA ops.toList s.sl o.guard=some b):Region.wanted o (yielded ops a.tmps)=b:=by
 unfold mA at e
 unfold Region.wanted
 split at e
 ·rename_i hg
  simp only [aq] at e
  subst e
  rw [hg]
 ·rename_i j want hg
  rw [hg]
  split at e
  case h_2=>simp at e
  rename_i p hp
  rw [cl,bp] at hp
  split at e
  case h_2=>simp at e
  rename_i t ht
  have hpo:ops[j]?=some p:=by simpa using hp
  unfold IV at e
  split at e
  ·rename_i hl
   have hl:=gK hn hl
   simp only [aq] at e
   subst e
   obtain ⟨hN,h1,h2⟩:=h.slots t _ _ hl
   obtain ⟨vs,hv,sT⟩:=h1 (bK.nil a)
   have fF:t<a.tmps.size:=by rw [h.size]; exact hN
   have hv':a.tmps[t]?=some (a.tmps.getD t undef):=by simp [fF]
   have hy:yielded ops a.tmps j=none:=by
    unfold yielded
    rw [hpo]
    simp only [Option.bind_some,ht,hv',hv]
   simp [hy]
  ·split at e
   case h_2=>simp at e
   rename_i x hx
   have hl:=gK hn (fi hx)
   simp only [aq] at e
   subst e
   obtain ⟨hN,h1,h2⟩:=h.slots t _ _ hl
   have hv:=(h1 (bK.nil a)).1
   have fF:t<a.tmps.size:=by rw [h.size]; exact hN
   have hv':a.tmps[t]?=some (a.tmps.getD t undef):=by simp [fF]
   have hy:yielded ops a.tmps j=some x:=by
    unfold yielded
    rw [hpo]
    simp only [Option.bind_some,ht,hv',hv]
   simp only [hy]
   cases x<;>cases want<;>rfl
theorem zr {E:Env} {av:Nat→Prop} {w:World}:a7 E av w (.t []) undef:=⟨#[],rfl,.nil⟩
theorem ql (bQ:dV P T) (hl:ib T P lo) {ops:Array Oper} {Q:Exit→Act→World→Prop} {sF:VS} {E0:Env} (hQ:∀ a' w' E',Kept E0 E'→R T N ay w0 sp sF a' w' E'→bN sF.sl→Q .normal a' w') :
  ∀ {l:List Oper} {s:VS} {a:Act} {w:World} {E:Env},K2 T lo hi N ops.toList l s=some sF→Kept E0 E→R T N ay w0 sp s a w E→bN s.sl→wpListIn (Fr ρ) 0 P ops Q l a w
 | [],s,a,w,E,e,hk,h,hn=>by
   have e:some s=some sF:=e
   simp only [aq] at e; subst e; exact hQ a w E hk h hn
 | o::l,s,a,w,E,e,hk,h,hn=>by
   have e:(match XZ T lo hi N ops.toList s o with
    | some s'=>K2 T lo hi N ops.toList l s'
    | none=>none)=some sF:=e
   split at e
   case h_2=>simp at e
   rename_i s' hs
   unfold XZ at hs
   unfold wpListIn
   split at hs
   ·rename_i hw
    rw [if_pos (qq h hn hw)]
    exact (Fh bQ hl h hn hs fun a' w' E' kZ h' xY=>ql bQ hl hQ e (hk.trans kZ) h' xY).wpIn
   ·rename_i hw
    rw [if_neg (by rw [qq h hn hw]; simp)]
    obtain ⟨h1,h2⟩:=qV h hn hs zr
    exact ⟨fun _ _=>trivial,ql bQ hl hQ e hk h1 h2⟩
   ·simp at hs
end
section
variable {T:dY} {lo:Lo} {hi:Hint} {sl gy:aN} {rs aG:List ah} {df C2:List Nat}
theorem tN:∀ {l:List Operand},(∀ x∈l,cA sl x=cA gy x)→yL sl l=yL gy l
 | [],_=>rfl
 | x::l,h=>by
   have e1:=h x (eS ..)
   have e2:=tN (l:=l) fun y hy=>h y (fe _ hy)
   show (match cA sl x with
    | some d=>match yL sl l with
      | some r=>some (d::r)
      | none=>none
    | none=>none)=_
   rw [e1,e2]; rfl
theorem we {qm:List (Nat×Nat)}:∀ {ps:List (Nat×Operand)},(∀ p∈ps,cA sl p.2=cA gy p.2)→uE qm sl ps=uE qm gy ps
 | [],_=>rfl
 | p::ps,h=>by
   have e1:=h p (eS ..)
   have e2:=we (qm:=qm) (ps:=ps) fun y hy=>h y (fe _ hy)
   funext l
   show (match aV qm p.1 with
    | some o=>match cA sl p.2 with
      | some d=>match d.cells with
        | some cs=>(Bool.rec none (match put l o.1 cs with
          | some l'=>uE qm sl ps l'
          | none=>none) (Nat.beq cs.length o.2&&Nat.blt 0 o.2):Option (List C))
        | none=>none
      | none=>none
    | none=>none)=_
   rw [e1,e2]; rfl
theorem uq {sz:Nat}:∀ {ps:List (Nat×Operand)},(∀ p∈ps,cA sl p.2=cA gy p.2)→oV sz sl ps=oV sz gy ps
 | [],_=>rfl
 | p::ps,h=>by
   have e1:=h p (eS ..)
   have e2:=uq (sz:=sz) (ps:=ps) fun y hy=>h y (fe _ hy)
   funext l
   show (match cA sl p.2 with
    | some d=>match d.cells with
      | some cs=>(Bool.rec none (match put l (p.1*sz) cs with
        | some l'=>oV sz sl ps l'
        | none=>none) (Nat.beq cs.length sz&&Nat.blt 0 sz):Option (List C))
      | none=>none
    | none=>none)=_
   rw [e1,e2]; rfl
theorem Kf {ts:List TypeId} {xs:List Operand} (h:∀ x∈xs,cA sl x=cA gy x):MC T ⟨sl,rs,df⟩ ts xs=MC T ⟨gy,rs,C2⟩ ts xs:=by
 unfold MC
 split
 ·simp only [h _ (eS ..)]
 ·rfl
theorem Lv {xs:List Operand} (h:∀ x∈xs,cA sl x=cA gy x):Qj ⟨sl,rs,df⟩ xs=Qj ⟨gy,rs,C2⟩ xs:=by
 unfold Qj
 split
 ·simp only [h _ (eS ..),h _ (fe _ (eS ..))]
 ·rfl
theorem KJ {xs:List Operand} (h:∀ x∈xs,cA sl x=cA gy x):M7 ⟨sl,rs,df⟩ xs=M7 ⟨gy,rs,C2⟩ xs:=by
 unfold M7
 split
 ·simp only [h _ (eS ..),h _ (fe _ (eS ..))]
 ·rfl
theorem Fa {t:Nat} {x:Operand} {l m k:Option Operand} (h0:cA sl x=cA gy x) (hl:∀ y,l=some y→cA sl y=cA gy y) (h:∀ y,m=some y→cA sl y=cA gy y):lr T ⟨sl,rs,df⟩ t x l m k=lr T ⟨gy,rs,C2⟩ t x l m k:=by
 unfold lr
 split
 ·simp only [h0,h _ rfl]
 ·simp only [h0,hl _ rfl]
 ·rfl
theorem GF {op:Op} (h:∀ x∈op.operands.toList,cA sl x=cA gy x):fL T ⟨sl,rs,df⟩ op=fL T ⟨gy,rs,C2⟩ op:=by
 cases op with
 | move x=>exact h x (by simp [Op.operands])
 | assign x=>exact h x (by simp [Op.operands])
 | pick c x y=>simp only [fL,zH,h c (by simp [Op.operands]),h x (by simp [Op.operands]),h y (by simp [Op.operands])]
 | binOp o t x y t2=>simp only [fL,vP,uz,JQ,h x (by simp [Op.operands]),h y (by simp [Op.operands])]
 | unOp o t x=>simp only [fL,unF,h x (by simp [Op.operands])]
 | nilCheck x=>simp only [fL,vB,h x (by simp [Op.operands])]
 | fieldAddr t x f=>simp only [fL,BF,h x (by simp [Op.operands])]
 | indexAddr t x i=>simp only [fL,nG,h x (by simp [Op.operands]),h i (by simp [Op.operands])]
 | load t x=>simp only [fL,kN,h x (by simp [Op.operands])]
 | extract x k=>simp only [fL,sm,h x (by simp [Op.operands])]
 | build t ps=>
   simp only [fL,Cp]
   have e:∀ fs,uE fs sl ps.toList=uE fs gy ps.toList:=fun fs=>we fun p hp=>h p.2 (by simp only [Op.operands,List.mem_map]; exact ⟨p,hp,rfl⟩)
   simp only [e]
 | makeFunc fn first eJ=>
   have e:yL sl eJ.toList=yL gy eJ.toList:=tN fun p hp=>h p (by simp only [Op.operands,Array.toList_append,List.mem_append]; exact .inr hp)
   simp only [fL,Jc,e]
 | call c=>
   have e:∀ x∈c.args.toList,cA sl x=cA gy x:=fun x hx=>h x (by simp only [Op.operands,Call.operands,Array.toList_append,List.mem_append]; exact .inr hx)
   simp only [fL,FQ]
   split
   ·rename_i b _
    unfold GU
    split
    ·exact Kf e
    ·exact Lv e
    ·exact KJ e
    ·rfl
   ·rfl
 | lookup t x i ok=>simp only [fL,nn,fmF,h x (by simp [Op.operands]),h i (by simp [Op.operands])]
 | slice t x l m k=>exact Fa (h x (by simp [Op.operands])) (fun y hy=>h y (by simp [Op.operands,hy])) fun y hy=>h y (by simp [Op.operands,hy])
 | _=>rfl
theorem KW {b:Nat} {ts:List TypeId} {xs:List Operand} (h:∀ x∈xs,cA sl x=cA gy x):pw T b ⟨sl,rs,df⟩ ts xs=pw T b ⟨gy,rs,C2⟩ ts xs:=by
 unfold pw
 split
 ·simp only [h _ (eS ..),h _ (fe _ (eS ..))]
 ·rfl
theorem GY {b:Nat} {dst:Option Tmp} {op:Op} (h:∀ x∈op.operands.toList,cA sl x=cA gy x):hJ T lo hi b ⟨sl,rs,df⟩ dst op=hJ T lo hi b ⟨gy,rs,C2⟩ dst op:=by
 cases op with
 | box t x=>simp only [hJ,uR,h x (by simp [Op.operands])]
 | alloc t=>rfl
 | store t x v=>simp only [hJ,ij,h x (by simp [Op.operands]),h v (by simp [Op.operands])]
 | buildSlice t n ps=>
   simp only [hJ,LM]
   have e:∀ sz,oV sz sl ps.toList=oV sz gy ps.toList:=fun sz=>uq fun p hp=>h p.2 (by simp only [Op.operands,List.mem_map]; exact ⟨p,hp,rfl⟩)
   simp only [e]
 | call c=>
   have e:∀ x∈c.args.toList,cA sl x=cA gy x:=fun x hx=>h x (by simp only [Op.operands,Call.operands,Array.toList_append,List.mem_append]; exact .inr hx)
   simp only [hJ,gI]
   split
   ·exact KW e
   ·rename_i f hf
    have e2:cA sl f=cA gy f:=h f (by simp only [Op.operands,Call.operands,hf]; simp)
    simp only [mo,e2,tN e]
   ·rfl
 | makeMap t r=>rfl
 | makeSlice t l c=>simp only [hJ,mB,h l (by simp [Op.operands]),h c (by simp [Op.operands])]
 | mapUpdate t m k v=>simp only [hJ,mQ,h m (by simp [Op.operands]),h k (by simp [Op.operands]),h v (by simp [Op.operands])]
 | _=>rfl
theorem LD {b:Nat} {dst:Option Tmp} {op:Op} (h:∀ x∈op.operands.toList,cA sl x=cA gy x):gk T lo hi b ⟨sl,rs,df⟩ dst op=gk T lo hi b ⟨gy,rs,C2⟩ dst op:=by
 unfold gk
 rw [GF (C2:=C2) h,GY (C2:=C2) h]
def pJ (rs aG:List ah):Prop:=∀ (q:Nat) (x:ah),aV rs q=some x→x.live→aV aG q=some x
theorem pJ.nth (h:pJ rs aG) {q:Nat} {x:ah} (e:Go.V.nth rs q=some x) (hx:x.live):Go.V.nth aG q=some x:=by
 rw [← cl]; exact h q x (by rw [cl]; exact e) hx
theorem R6 (hr:pJ rs aG) {c:C} {b:Bool} (e:KB rs c=some b):KB aG c=some b:=by
 unfold KB at e ⊢
 split at e
 ·exact e
 ·split at e
  ·rename_i hq; rw [hr _ _ hq trivial]; exact e
  ·rename_i hq; rw [hr _ _ hq trivial]; exact e
  ·rename_i hq; rw [hr _ _ hq trivial]; exact e
  ·simp at e
 ·simp at e
theorem MT (hr:pJ rs aG) {op:BinOp} {t:Nat} {x:Operand} {d:D} (e:uz T ⟨sl,rs,df⟩ op t x=some d):uz T ⟨sl,aG,df⟩ op t x=some d:=by
 unfold uz at e ⊢
 split at e
 case h_2=>simp at e
 rename_i h1
 split at e
 case h_2=>simp at e
 rename_i h2
 split at e
 case h_2=>simp at e
 rename_i h3
 have h3:=R6 hr h3
 simp only [h2,h3]
 exact e
theorem K5 (hr:pJ rs aG) {sz:Nat} {i:Int} {c:C} {d:D} (e:qz rs sz i c=some d):qz aG sz i c=some d:=by
 unfold qz at e ⊢
 split at e
 ·exact e
 ·split at e
  ·rename_i hq; rw [hr _ _ hq trivial]; exact e
  ·rename_i hq; rw [hr _ _ hq trivial]; exact e
  ·rename_i hq; rw [hr _ _ hq trivial]; exact e
  ·simp at e
 ·simp at e
theorem Po (hr:pJ rs aG) {y:Ty} {c:C} {d:D} (e:rU T rs y c=some d):rU T aG y c=some d:=by
 unfold rU at e ⊢
 split at e
 ·rename_i r i j
  unfold xS at e ⊢
  split at e
  ·rename_i hq; rw [hr _ _ hq trivial]; exact e
  ·rename_i hq; rw [hr _ _ hq trivial]; exact e
  ·rename_i hq; rw [hr _ _ hq trivial]; exact e
  ·rename_i hq; rw [hr _ _ hq trivial]; exact e
  ·simp at e
 ·exact e
 ·exact e
 ·simp at e
theorem RE (hr:pJ rs aG) {c:C} {l:List Int} (e:OS rs c=some l):OS aG c=some l:=by
 unfold OS at e ⊢
 split at e
 ·split at e
  ·rename_i hq; rw [hr _ _ hq trivial]; exact e
  ·simp at e
 ·exact e
 ·simp at e
theorem Kh (hr:pJ rs aG) {c:C} {n:Int} {d:D} (e:nb rs c n=some d):nb aG c n=some d:=by
 unfold nb at e ⊢
 split at e
 ·exact e
 ·split at e
  ·rename_i hq; rw [hr _ _ hq trivial]; exact e
  ·rename_i hq; rw [hr _ _ hq trivial]; exact e
  ·rename_i hq; rw [hr _ _ hq trivial]; exact e
  ·simp at e
 ·exact e
 ·simp at e
theorem Nc (hr:pJ rs aG) {op:Op} {d:D} (e:fL T ⟨sl,rs,df⟩ op=some d):fL T ⟨sl,aG,df⟩ op=some d:=by
 cases op with
 | binOp o t x y t2=>
   have e:vP T ⟨sl,rs,df⟩ o t x y=some d:=e
   show vP T ⟨sl,aG,df⟩ o t x y=some d
   unfold vP at e ⊢
   split at e
   ·exact MT hr e
   ·exact e
 | indexAddr t x i=>
   have e:nG T ⟨sl,rs,df⟩ t x i=some d:=e
   show nG T ⟨sl,aG,df⟩ t x i=some d
   unfold nG at e ⊢
   split at e
   ·exact e
   ·split at e
    case h_2=>simp at e
    split at e
    case h_2=>simp at e
    split at e
    case h_2=>simp at e
    rename_i h1 _ _ h2 _ _ h3
    simp only at h2 h3 ⊢
    simp only [h2,h3]
    exact K5 hr e
 | load t x=>
   have e:kN T ⟨sl,rs,df⟩ t x=some d:=e
   show kN T ⟨sl,aG,df⟩ t x=some d
   unfold kN at e ⊢
   split at e
   case h_2=>simp at e
   split at e
   case h_2=>simp at e
   rename_i h1 _ _ h2
   simp only at h2 ⊢
   simp only [h2]
   exact Po hr e
 | lookup t x i ok=>
   have e:nn T ⟨sl,rs,df⟩ t x i ok=some d:=e
   show nn T ⟨sl,aG,df⟩ t x i ok=some d
   unfold nn at e ⊢
   split at e
   ·exact e
   ·cases h0:Lq T t with
    | false=>rw [h0] at e; exact e
    | true=>
    rw [h0] at e
    simp only at e ⊢
    split at e
    case h_2=>simp at e
    rename_i h2 h3
    split at e
    case h_2=>simp at e
    rename_i h4
    have h4:=RE hr h4
    try simp only at h2 h3
    simp only [h4]
    exact e
 | slice t x l m k=>
   have e:lr T ⟨sl,rs,df⟩ t x l m k=some d:=e
   show lr T ⟨sl,aG,df⟩ t x l m k=some d
   unfold lr at e ⊢
   split at e
   case h_3=>simp at e
   case h_2=>exact e
   split at e
   case h_2=>simp at e
   rename_i h1
   split at e
   case h_2=>simp at e
   rename_i h2 h3
   simp only at h2 h3 ⊢
   simp only [h2,h3]
   exact Kh hr e
 | _=>exact e
end
end Go.V
