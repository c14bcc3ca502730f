/- A root in a place kept free; what the relation says of rows. -/
import Derived.Test.YtghfgcfabbbbbaaDoorQ1
set_option linter.unusedSimpArgs false
set_option linter.unusedVariables false
namespace Go.V
open Go.RowKit
section
variable {P:Program} {T:dn} {N:Nat} {aw:Nat→Prop} {w0:Kp} {sp:List (D×Value)} {s:VS} {a:Act} {w:World} {E:Env}
theorem Je {E:Env} {b r k z:Nat} {e:gr} (h:di (E.set b e) r k z):(r≠b∧di E r k z)∨(r=b∧e.has k):=by
 obtain ⟨hh,h,h2,h3⟩:=h
 rw [fb] at h
 split at h
 ·rename_i hq
  subst hq
  split at h
  ·simp only [ak] at h; subst h; exact .inr ⟨rfl,h3⟩
  ·simp at h
 ·rename_i hq; exact .inl ⟨fun e=>hq e.symm,hh,h,h2,h3⟩
theorem R.Ql (h:R T N aw w0 sp s a w E) (n:Nat):R T N aw w0 sp { s with rs:=s.rs++List.replicate n .dead } a w (E++List.replicate n hole):=by
 have hE:=Env.eo E (List.replicate n hole)
 have key:∀ (r:Nat) (y:ae),(s.rs++List.replicate n .dead)[r]?=some y→y.live→s.rs[r]?=some y:=by
  intro r y h1 h2
  rcases Nat.lt_or_ge r s.rs.length with hr|hr
  ·rwa [dQ hr] at h1
  ·rw [gG hr,List.getElem?_replicate] at h1
   split at h1
   ·simp only [ak] at h1; subst h1; exact h2.elim
   ·simp at h1
 have keyE:∀ (r b sz:Nat),di (E++List.replicate n hole) r b sz→di E r b sz:=by
  rintro r b sz ⟨hh,h1,h2⟩
  rcases Nat.lt_or_ge r E.length with hr|hr
  ·rw [dQ hr] at h1; exact ⟨hh,h1,h2⟩
  ·rw [gG hr,List.getElem?_replicate] at h1
   split at h1
   ·simp only [ak] at h1
    subst h1
    exact (FG h2.2).elim
   ·simp at h1
 have eY:∀ b,b<w.heap.size→AV aw (s.rs++List.replicate n .dead) (E++List.replicate n hole) b→AV aw s.rs E b:=
  kg fun r y b sz h1 h2 h3 _=>.inr ⟨r,y,sz,key r y h1 h2,h2,keyE _ _ _ h3⟩
 refine h.zz hE (aZ.refl _ w) h.below eY (by simp [h.len]) ?_ ?_ ?_
 ·intro r x e h1 h2
  rcases Nat.lt_or_ge r s.rs.length with hr|hr
  ·rw [dQ hr] at h1
   rw [dQ (by rw [h.len]; exact hr)] at h2
   exact aM.mono hE (aZ.refl _ w) eY (fun _ _ _=>rfl) (h.roots r x e h1 h2)
  ·rw [gG hr,List.getElem?_replicate] at h1
   split at h1
   ·simp only [ak] at h1; subst h1; trivial
   ·simp at h1
 ·intro r x b sz h1 h2 h3
  exact h.cT r x b sz (key r x h1 h2) h2 (keyE _ _ _ h3)
 ·intro r r' x x' b sz cj h1 lX h2 jf h3 l9
  exact h.eP r r' x x' b sz cj (key r x h1 h2) (key r' x' lX jf) h2 jf (keyE _ _ _ h3) (keyE _ _ _ l9)
theorem R.at (h:R T N aw w0 sp s a w E) {b:Nat} {dead:Option Nat} {x:ae} {e:gr} {w':World} {row:Option Nat}
  (hb:s.rs[b]?=some .dead) (hE:E[b]?=some hole) (hg:w.grownBy w' row)
  (lN:∀ k,row=some k→∃ r y q,dead=some r∧s.rs[r]?=some y∧y.live∧a7 E r k q)
  (ik:∀ k,e.1=some k→some k=row∨w.heap.size≤k) (dp:∀ k,e.1=some k→k<w'.heap.size)
  (hx:(∀ k,k<w.heap.size→AV aw ((kill dead s.rs).set b x) (E.set b e) k→AV aw s.rs E k)→(∀ k,AV aw ((kill dead s.rs).set b x) (E.set b e) k→AV aw s.rs E k∨e.has k)→aZ (AV aw s.rs E) w w'→aM (E.set b e) (AV aw ((kill dead s.rs).set b x) (E.set b e)) w0.base w' e x)
  (qa:∀ k,e.2.1.2 k→(∃ r y q,dead=some r∧s.rs[r]?=some y∧y.live∧di E r k q)∨(w.heap.size≤k∧k<w'.heap.size):=by intro k hk; exact hk.elim) :
  R T N aw w0 sp { s with rs:=(kill dead s.rs).set b x } a w' (E.set b e)∧(∀ k,k<w.heap.size→AV aw ((kill dead s.rs).set b x) (E.set b e) k→AV aw s.rs E k)∧∀ k,AV aw ((kill dead s.rs).set b x) (E.set b e) k→AV aw s.rs E k∨e.has k:=by
 have hle:=h.size_le
 have hEle:=Env.tU e hE
 let fx:=kill dead s.rs
 have hlen1:fx.length=s.rs.length:=by
  simp only [fx]; cases dead<;>simp [kill]
 have hrow':∀ k,row=some k→w0.In k:=by
  intro k hk
  obtain ⟨r,y,q,_,h2,h3,h4⟩:=lN k hk
  exact (h.Wd r y k q h2 h3 h4).1
 have old:∀ (q:Nat) (y:ae),fx[q]?=some y→y.live→s.rs[q]?=some y∧dead≠some q:=by
  intro q y h1 h2
  simp only [fx] at h1
  cases dead with
  | some r=>
    simp only [kill] at h1
    rw [fb] at h1
    split at h1
    ·rename_i hq
     subst hq
     split at h1
     ·cases h1; exact h2.elim
     ·simp at h1
    ·rename_i hq
     exact ⟨h1,fun e=>hq (by simpa using e)⟩
  | none=>exact ⟨h1,by simp⟩
 have hk:aZ (AV aw s.rs E) w w':=⟨hg.size,fun k hk hn=>hg.block k hk fun e=>by
  obtain ⟨r,x,q,_,h2,h3,h4⟩:=lN k e.symm
  exact hn (.inr ⟨r,x,q,h2,h3,h4.own⟩)⟩
 have key:∀ (q:Nat) (y:ae) (k z:Nat),(fx.set b x)[q]?=some y→y.live→di (E.set b e) q k z→
   (s.rs[q]?=some y∧dead≠some q∧q≠b∧di E q k z)∨(q=b∧e.has k):=by
  intro q y k z h1 h2 h3
  rcases Je h3 with ⟨h4,h5⟩|h4
  ·rw [fb,if_neg (fun e=>h4 e.symm)] at h1
   obtain ⟨h6,h7⟩:=old q y h1 h2
   exact .inl ⟨h6,h7,h4,h5⟩
  ·exact .inr h4
 have eY:∀ k,k<w.heap.size→AV aw (fx.set b x) (E.set b e) k→AV aw s.rs E k:=by
  refine kg fun q y k z h1 h2 h3 h4=>?_
  rcases key q y k z h1 h2 h3 with ⟨h5,_,_,h6⟩|⟨_,h6⟩
  ·exact .inr ⟨q,y,z,h5,h2,h6⟩
  ·rcases h6 with h6|h6
   ·rcases ik k h6 with h7|h7
    ·obtain ⟨r,x,q,_,h8,h9,Ar⟩:=lN k h7.symm
     exact .inr ⟨r,x,q,h8,h9,Ar.own⟩
    ·omega
   ·rcases qa k h6 with ⟨r,x,q,_,h8,h9,Ar⟩|h7
    ·exact .inr ⟨r,x,q,h8,h9,Ar⟩
    ·omega
 have pM:∀ k,AV aw (fx.set b x) (E.set b e) k→AV aw s.rs E k∨e.has k:=by
  rintro k (q|⟨q,y,z,h1,h2,h3⟩)
  ·exact .inl (.inl q)
  ·rcases key q y k z h1 h2 h3 with ⟨h5,_,_,h6⟩|⟨_,h6⟩
   ·exact .inl (.inr ⟨q,y,z,h5,h2,h6⟩)
   ·exact .inr h6
 have hx:=hx eY pM hk
 have apart:∀ (q:Nat) (y:ae) (k z:Nat),s.rs[q]?=some y→y.live→dead≠some q→di E q k z→¬ e.has k∧row≠some k:=by
  intro q y k z h1 h2 h3 h4
  have hb:=h.cT q y k z h1 h2 h4
  have hr:row≠some k:=by
   intro e
   obtain ⟨r,x,q',h5,h6,h7,h8⟩:=lN k e
   have:=h.eP q r y x k z q' h1 h6 h2 h7 h4 h8.own
   subst this
   exact h3 h5
  refine ⟨fun e=>?_,hr⟩
  rcases e with e|e
  ·rcases ik k e with h5|h5
   ·exact hr h5.symm
   ·omega
  ·rcases qa k e with ⟨r,x,q',h5,h6,h7,h8⟩|h7
   ·have:=h.eP q r y x k z q' h1 h6 h2 h7 h4 h8
    subst this
    exact h3 h5
   ·omega
 refine ⟨h.zz (aE:=fx.set b x) hEle hk (h.below.grown hg.os hg.tape hg.output hg.size fun k jN hn=>hg.block k jN fun e=>hn (hrow' k e.symm)) eY (by simp [hlen1,h.len]) ?_ ?_ ?_,eY,pM⟩
 ·intro q y e' h1 h2
  by_cases hq:q=b
  ·subst hq
   have hlb:q<fx.length:=by rw [hlen1]; exact (List.getElem?_eq_some_iff.1 hb).1
   have hlE:q<E.length:=(List.getElem?_eq_some_iff.1 hE).1
   rw [fb,if_pos rfl,if_pos hlb] at h1
   rw [fb,if_pos rfl,if_pos hlE] at h2
   simp only [ak] at h1 h2
   subst h1 h2
   exact hx
  ·rw [fb,if_neg (fun e=>hq e.symm)] at h1 h2
   by_cases hl:y.live
   ·obtain ⟨h3,h4⟩:=old q y h1 hl
    refine aM.mono (av:=AV aw s.rs E) hEle hk eY (fun hl k jN=>?_) (h.roots q y e' h3 h2)
    have ir:di E q k e'.2.2:=⟨e',h2,rfl,jN⟩
    exact hg.block k (h.cT q y k _ h3 hl ir).2 fun e=>(apart q y k _ h3 hl h4 ir).2 e.symm
   ·cases y with
    | dead=>trivial
    | _=>exact (hl trivial).elim
 ·intro q y k z h1 h2 h3
  rcases key q y k z h1 h2 h3 with ⟨h5,_,_,h6⟩|⟨_,h6⟩
  ·have q7:=h.cT q y k z h5 h2 h6; have:=hg.size; exact ⟨q7.1,by omega⟩
  ·rcases h6 with h6|h6
   ·have:=dp k h6
    rcases ik k h6 with h7|h7
    ·exact ⟨hrow' k h7.symm,this⟩
    ·exact ⟨h.below.fresh h7,this⟩
   ·rcases qa k h6 with ⟨r,x,q',_,h8,h9,Ar⟩|h7
    ·have q7:=h.cT r x k q' h8 h9 Ar; have:=hg.size; exact ⟨q7.1,by omega⟩
    ·exact ⟨h.below.fresh h7.1,h7.2⟩
 ·intro q q' y y' k z z' h1 lX h2 jf h3 l9
  rcases key q y k z h1 h2 h3 with ⟨h5,h6,_,h7⟩|⟨h6,h7⟩<;>rcases key q' y' k z' lX jf l9 with ⟨h5',h6',_,h7'⟩|⟨h6',h7'⟩
  ·exact h.eP q q' y y' k z z' h5 h5' h2 jf h7 h7'
  ·exact ((apart q y k z h5 h2 h6 h7).1 h7').elim
  ·exact ((apart q' y' k z' h5' jf h6' h7').1 h7).elim
  ·omega
end
open Go.RowKit
theorem Bool.aq {α:Type} {x:Option α} {b:Bool} {y:α} (h:(Bool.rec none x b:Option α)=some y):b=true∧x=some y:=by
 cases b with
 | false=>simp at h
 | true=>exact ⟨rfl,h⟩
def bA (sl:aG):Prop:=∀ x∈sl,x.2.2=[]
theorem bA.cons {sl:aG} (h:bA sl) (t:Tmp) (d:D):bA ((t,d,[])::sl):=fun x hx=>by
 cases hx with
 | head=>rfl
 | tail _ hx=>exact h x hx
theorem bI {α:Type}:∀ (l:List α) (i:Nat),aY l i=nth l i
 | [],_=>rfl
 | _::_,0=>rfl
 | _::l,i+1=>bI l i
theorem fq:∀ {sl:aG} {t:Tmp} {d:D},bA sl→eb sl t=some d→look sl t=some (d,[])
 | [],t,d,_,h=>by simp [eb] at h
 | x::sl,t,d,hn,h=>by
   have hs:bA sl:=fun y hy=>hn y (er _ hy)
   obtain ⟨k,e,c⟩:=x
   have hc:c=[]:=hn _ (dZ ..)
   subst hc
   simp only [look]
   have h:(Bool.rec (eb sl t) (some e) (Nat.beq k t):Option D)=some d:=h
   cases hk:Nat.beq k t with
   | true=>rw [hk] at h; simp only [ak] at h; subst h; rfl
   | false=>rw [hk] at h; exact fq hs h
section
variable {P:Program} {T:dn} {N:Nat} {aw:Nat→Prop} {w0:Kp} {sp:List (D×Value)} {s:VS} {a:Act} {w:World} {E:Env}
theorem dm (hn:bA s.sl) {x:Operand} {d:D} (e:bO s.sl x=some d):s.ev [] x=some d:=by
 cases x with
 | tmp t=>simp only [bO] at e; simp [VS.ev,fq hn e,sub]
 | const v=>exact e
 | func f=>exact e
 | global g=>exact e
theorem bt.nil (a:Act):bt a []:=fun p hp=>by cases hp
theorem R.bO (h:R T N aw w0 sp s a w E) (hn:bA s.sl) {x:Operand} {d:D} (e:bO s.sl x=some d):aJ E (AV aw s.rs E) w d (a.eval x):=
 h.ev (bt.nil a) (dm hn e)
theorem kT (hn:bA s.sl):∀ {l:List Operand} {ds:List D},vV s.sl l=some ds→CM s [] l=some ds
 | [],ds,e=>e
 | x::l,ds,e=>by
   have e:(match Go.V.bO s.sl x with
    | some d=>match vV s.sl l with
      | some r=>some (d::r)
      | none=>none
    | none=>none)=some ds:=e
   split at e
   ·rename_i d hd
    split at e
    ·rename_i r hr
     simp only [CM,dm hn hd,kT hn hr]
     exact e
    ·simp at e
   ·simp at e
theorem kZ {d:Option D} {v:Value} (e:B5 d=some v):d=some (.c (.im (.v v))):=by
 unfold B5 at e
 split at e
 ·rename_i x
  unfold QG at e
  split at e
  ·rename_i i
   unfold P2 at e
   split at e
   ·simp only [ak] at e; subst e; rfl
   ·simp at e
  ·simp at e
 ·simp at e
theorem dB {d:Option D} {n:Int} (e:gO d=some n):d=some (int n):=by
 unfold gO at e
 split at e
 ·rename_i v hv
  unfold Du at e
  split at e
  ·simp only [ak] at e; subst e; exact kZ hv
  ·simp at e
 ·simp at e
theorem eu {d:Option D} {b:Bool} (e:iz d=some b):d=some (bool b):=by
 unfold iz at e
 split at e
 ·rename_i v hv
  unfold wJ at e
  split at e
  ·simp only [ak] at e; subst e; exact kZ hv
  ·simp at e
 ·simp at e
theorem bL {d:Option D} {c:C} (e:cO d=some c):d=some (.c c):=by
 unfold cO at e
 split at e
 ·simp only [ak] at e; subst e; rfl
 ·simp at e
theorem wX {d:Option D} {l:List C} (e:Oy d=some l):d=some (.a l):=by
 unfold Oy at e
 split at e
 ·simp only [ak] at e; subst e; rfl
 ·simp at e
theorem GY {d:Option D} {l:List (Bool×List C)} (e:Rw d=some l):d=some (.t l):=by
 unfold Rw at e
 split at e
 ·simp only [ak] at e; subst e; rfl
 ·simp at e
def Looks (P:Program) (aw:Nat→Prop) (s:VS) (a:Act) (w:World) (E:Env) (o:Oper) (d:D):Prop:=
 ∃ v,(execOp a.eval o).run P w=.ok (.value v) w∧aJ E (AV aw s.rs E) w d v
theorem Looks.cu (bz:dk P T) (h:R T N aw w0 sp s a w E) {o:Oper} {p:Option Prop} {d:D} (e:aV T s [] o.op=some (p,d)) (hp:need p):Looks P aw s a w E o d:=by
 obtain ⟨v,h1,h2⟩:=xU bz h (bt.nil a) e hp
 exact ⟨v,h1 w (Below.refl _ _),h2⟩
theorem Bp (h:R T N aw w0 sp s a w E) (hn:bA s.sl) {o:Oper} {c x y:Operand} (ho:o.op=.pick c x y) {d:D} (e:xo s c x y=some d):Looks P aw s a w E o d:=by
 unfold xo at e
 split at e
 case h_2=>simp at e
 rename_i b hb
 have hb:=eu hb
 split at e
 case h_2=>simp at e
 rename_i z hz
 simp only [ak] at e
 subst e
 have hb:=(h.bO hn hb).1
 cases b with
 | true=>
   have hz:iz (bO s.sl x)=some z:=hz
   have hx:=(h.bO hn (eu hz)).1
   exact ⟨.bool z,by simp [execOp,ho,hb,asBool,hx],rfl,rfl⟩
 | false=>
   have hz:iz (bO s.sl y)=some z:=hz
   have hx:=(h.bO hn (eu hz)).1
   exact ⟨.bool z,by simp [execOp,ho,hb,asBool,hx],rfl,rfl⟩
theorem C7 (h:R T N aw w0 sp s a w E) {c:C} {v:Value} {b:Bool} (hc:aU E (AV aw s.rs E) w c v) (e:GS s.rs c=some b) :
  (b=true∧∃ n k,v=.slice none n k)∨(b=false∧∃ ad n k,v=.slice (some ad) n k):=by
 unfold GS at e
 split at e
 ·rename_i x
  unfold gX at e
  split at e
  ·obtain ⟨rfl,_⟩:=hc
   simp only [ak] at e
   exact .inl ⟨e.symm,_,_,rfl⟩
  ·obtain ⟨rfl,_⟩:=hc
   simp only [ak] at e
   exact .inr ⟨e.symm,_,_,_,rfl⟩
  ·rename_i sz n get
   simp only [ak] at e
   obtain ⟨ao,cap,rfl,_,_,h3⟩:=hc
   obtain ⟨ad,rfl,_⟩:=h3 (by omega)
   exact .inr ⟨e.symm,_,_,_,rfl⟩
  ·simp at e
 ·rename_i r m
  split at e
  case h_4=>simp at e
  ·rename_i el sz n l hl
   simp only [ak] at e
   rw [bI,bc] at hl
   obtain ⟨e',ao,n',cap,h1,h2,h3,rfl⟩:=hc
   obtain ⟨q1,q2,xs,⟨_,q3⟩,q4⟩:=h.roots r _ _ hl h1
   rcases q3 with ⟨q3,_⟩|⟨g',cap',cur,q3,_⟩
   ·rw [h2] at q3
    simp at q3
    omega
   ·rw [h2] at q3
    simp only [dz] at q3
    obtain ⟨rfl,_,_⟩:=q3
    exact .inr ⟨e.symm,_,_,_,rfl⟩
  ·rename_i el sz n l hl
   simp only [ak] at e
   rw [bI,bc] at hl
   obtain ⟨e',ao,n',cap,h1,h2,h3,rfl⟩:=hc
   obtain ⟨q1,q2,xs,⟨_,q3⟩,q4⟩:=h.roots r _ _ hl h1
   rcases q3 with ⟨q3,_⟩|⟨g',cap',cur,q3,_⟩
   ·rw [h2] at q3
    simp at q3
    omega
   ·rw [h2] at q3
    simp only [dz] at q3
    obtain ⟨rfl,_,_⟩:=q3
    exact .inr ⟨e.symm,_,_,_,rfl⟩
  ·rename_i el sz n get dK hl
   simp only [ak] at e
   rw [bI,bc] at hl
   obtain ⟨e',ao,n',cap,h1,h2,h3,rfl⟩:=hc
   obtain ⟨q1,q2,xs,⟨_,q3⟩,q4⟩:=h.roots r _ _ hl h1
   rcases q3 with ⟨q3,_⟩|⟨g',cap',cur,q3,_⟩
   ·rw [h2] at q3
    simp at q3
    omega
   ·rw [h2] at q3
    simp only [dz] at q3
    obtain ⟨rfl,_,_⟩:=q3
    exact .inr ⟨e.symm,_,_,_,rfl⟩
 ·simp at e
theorem Ob {t el:TypeId} (hu:P.underlying t=some (.slice el)) (b:Bool) {ao:Option Addr} {n k:Nat} (hb:ao.isNone=b) (x y:Operand) :
  (do eqGuard .eql t x y (.slice ao n k) (.slice none 0 0); binOp .eql t (.slice ao n k) (.slice none 0 0)).run P w=.ok (.bool b) w∧
  (do eqGuard .neq t x y (.slice ao n k) (.slice none 0 0); binOp .neq t (.slice ao n k) (.slice none 0 0)).run P w=.ok (.bool (!b)) w:=by
 have he:∀ d,(Op.equalIn (d+1) t (.slice ao n k) (.slice none 0 0)).run P w=.ok b w:=fun d=>by
  unfold Op.equalIn
  cases ao<;>simp [run_underlying hu,← hb]
 have h0:(Op.equal t (.slice ao n k) (.slice none 0 0)).run P w=.ok b w:=he 9999
 constructor
 ·show ((do eqGuard .eql t x y (.slice ao n k) (.slice none 0 0); (do pure (.bool (← Op.equal t (.slice ao n k) (.slice none 0 0)))):Sem Value)).run P w=_
  rw [Sem.run_bind]
  simp [eqGuard,h0]
 ·show ((do eqGuard .neq t x y (.slice ao n k) (.slice none 0 0); (do pure (.bool !(← Op.equal t (.slice ao n k) (.slice none 0 0)))):Sem Value)).run P w=_
  rw [Sem.run_bind]
  simp [eqGuard,h0]
theorem Cy (bz:dk P T) (h:R T N aw w0 sp s a w E) (hn:bA s.sl) {o:Oper} {op:BinOp} {t t2:TypeId} {x y:Operand} (ho:o.op=.binOp op t x y t2) (hy:isNil y=true) {d:D} (e:sE T s op t x=some d):Looks P aw s a w E o d:=by
 have hy':y=.const (.slice none 0 0):=by
  unfold isNil at hy
  split at hy
  ·rfl
  ·simp at hy
 subst hy'
 unfold sE at e
 split at e
 case h_2=>simp at e
 rename_i ub uA z0 el lu
 have hu:=(bz.ty _ _ lu).slice rfl
 split at e
 case h_2=>simp at e
 rename_i c hc
 have hc:=h.bO hn (bL hc)
 split at e
 case h_2=>simp at e
 rename_i b hb
 have hv:∃ ao n k,a.eval x=.slice ao n k∧ao.isNone=b:=by
  rcases C7 h hc hb with ⟨rfl,n,k,hv⟩|⟨rfl,ad,n,k,hv⟩
  ·exact ⟨none,n,k,hv,rfl⟩
  ·exact ⟨some ad,n,k,hv,rfl⟩
 obtain ⟨ao,n,k,hv,hb⟩:=hv
 have hr:=Ob (P:=P) (w:=w) hu b (n:=n) (k:=k) hb x (.const (.slice none 0 0))
 have hce:a.eval (.const (.slice none 0 0))=.slice none 0 0:=rfl
 split at e
 ·simp only [ak] at e
  subst e
  exact ⟨.bool b,by simp only [execOp,ho,hv,hce]; exact bH hr.1,rfl,rfl⟩
 ·simp only [ak] at e
  subst e
  exact ⟨.bool (!b),by simp only [execOp,ho,hv,hce]; exact bH hr.2,rfl,rfl⟩
 ·simp at e
theorem cr.ptr {P:Program} {t:TypeId} {y:Ty} (h:cr P t y) {e:Nat} (hk:y.kd=.ptr e):∃ e',P.underlying t=some (.pointer e'):=by
 have:=h.kd
 rw [hk] at this
 unfold uu at this
 split at this
 case h_1=>split at this<;>simp_all
 all_goals simp_all
theorem JR {t e:TypeId} (hu:P.underlying t=some (.pointer e)) (b:Bool) {ao:Option Addr} (hb:ao.isNone=b) (x y:Operand) :
  (do eqGuard .eql t x y (.pointer ao) (.pointer none); binOp .eql t (.pointer ao) (.pointer none)).run P w=.ok (.bool b) w∧
  (do eqGuard .neq t x y (.pointer ao) (.pointer none); binOp .neq t (.pointer ao) (.pointer none)).run P w=.ok (.bool (!b)) w:=by
 have he:∀ d,(Op.equalIn (d+1) t (.pointer ao) (.pointer none)).run P w=.ok b w:=fun d=>by
  unfold Op.equalIn
  cases ao<;>simp [run_underlying hu,← hb]
 have h0:(Op.equal t (.pointer ao) (.pointer none)).run P w=.ok b w:=he 9999
 constructor
 ·show ((do eqGuard .eql t x y (.pointer ao) (.pointer none); (do pure (.bool (← Op.equal t (.pointer ao) (.pointer none)))):Sem Value)).run P w=_
  rw [Sem.run_bind]
  simp [eqGuard,h0]
 ·show ((do eqGuard .neq t x y (.pointer ao) (.pointer none); (do pure (.bool !(← Op.equal t (.pointer ao) (.pointer none)))):Sem Value)).run P w=_
  rw [Sem.run_bind]
  simp [eqGuard,h0]
theorem cr.func {P:Program} {t:TypeId} {y:Ty} (h:cr P t y) (hk:y.kd=.func):∃ a b c,P.underlying t=some (.func a b c):=by
 have:=h.kd
 rw [hk] at this
 unfold uu at this
 split at this
 case h_1=>split at this<;>simp_all
 all_goals simp_all
theorem Lp {t:TypeId} (hu:∃ a b c,P.underlying t=some (.func a b c)) (b:Bool) {v:Value} (hv:(b=true∧v=.nilFunc)∨(b=false∧∃ f m vs,v=.func f m vs)) (x y:Operand) :
  (do eqGuard .eql t x y v .nilFunc; binOp .eql t v .nilFunc).run P w=.ok (.bool b) w∧
  (do eqGuard .neq t x y v .nilFunc; binOp .neq t v .nilFunc).run P w=.ok (.bool (!b)) w:=by
 obtain ⟨_,_,_,hu⟩:=hu
 have he:∀ d,(Op.equalIn (d+1) t v .nilFunc).run P w=.ok b w:=fun d=>by
  unfold Op.equalIn
  rcases hv with ⟨rfl,rfl⟩|⟨rfl,f,m,vs,rfl⟩<;>simp [run_underlying hu]
 have h0:(Op.equal t v .nilFunc).run P w=.ok b w:=he 9999
 rcases hv with ⟨_,rfl⟩|⟨_,f,m,vs,rfl⟩
 ·constructor
  ·show ((do eqGuard .eql t x y .nilFunc .nilFunc; (do pure (.bool (← Op.equal t .nilFunc .nilFunc))):Sem Value)).run P w=_
   rw [Sem.run_bind]
   simp [eqGuard,h0]
  ·show ((do eqGuard .neq t x y .nilFunc .nilFunc; (do pure (.bool !(← Op.equal t .nilFunc .nilFunc))):Sem Value)).run P w=_
   rw [Sem.run_bind]
   simp [eqGuard,h0]
 ·constructor
  ·show ((do eqGuard .eql t x y (.func f m vs) .nilFunc; (do pure (.bool (← Op.equal t (.func f m vs) .nilFunc))):Sem Value)).run P w=_
   rw [Sem.run_bind]
   simp [eqGuard,h0]
  ·show ((do eqGuard .neq t x y (.func f m vs) .nilFunc; (do pure (.bool !(← Op.equal t (.func f m vs) .nilFunc))):Sem Value)).run P w=_
   rw [Sem.run_bind]
   simp [eqGuard,h0]
theorem CE (bz:dk P T) (h:R T N aw w0 sp s a w E) (hn:bA s.sl) {o:Oper} {op:BinOp} {t t2:TypeId} {x y:Operand} (ho:o.op=.binOp op t x y t2) {d:D} (e:Gv T s op t x y=some d):Looks P aw s a w E o d:=by
 unfold Gv at e
 split at e
 case h_2=>simp at e
 rename_i ty lu
 have lu:=bz.ty _ _ lu
 split at e
 case h_2=>simp at e
 rename_i c hc
 have hc:=h.bO hn (bL hc)
 split at e
 case h_2=>simp at e
 rename_i b hb
 unfold VT at hb
 split at hb
 ·split at hb
  case h_2=>simp at hb
  rename_i el hk
  obtain ⟨e',hu⟩:=lu.ptr hk
  have hv:∃ ao,a.eval x=.pointer ao∧ao.isNone=b:=by
   unfold Va at hb
   split at hb
   ·simp only [ak] at hb
    obtain ⟨_,_,_,q⟩:=hc
    exact ⟨_,q,by rw [← hb]; rfl⟩
   ·simp only [ak] at hb
    obtain ⟨_,q,_⟩:=hc
    exact ⟨_,q,by rw [← hb]; rfl⟩
   ·simp only [ak] at hb
    obtain ⟨q,_⟩:=hc
    exact ⟨_,q,by rw [← hb]; rfl⟩
   ·simp at hb
  obtain ⟨ao,hv,hb⟩:=hv
  have hr:=JR (P:=P) (w:=w) hu b hb x (.const (.pointer none))
  have hce:a.eval (.const (.pointer none))=.pointer none:=rfl
  split at e
  ·simp only [ak] at e
   subst e
   exact ⟨.bool b,by simp only [execOp,ho,hv,hce]; exact bH hr.1,rfl,rfl⟩
  ·simp only [ak] at e
   subst e
   exact ⟨.bool (!b),by simp only [execOp,ho,hv,hce]; exact bH hr.2,rfl,rfl⟩
  ·simp at e
 ·split at hb
  case h_2=>simp at hb
  rename_i hk
  have hu:=lu.func hk
  have hv:(b=true∧a.eval x=.nilFunc)∨(b=false∧∃ f m vs,a.eval x=.func f m vs):=by
   unfold PM at hb
   split at hb
   ·simp only [ak] at hb
    obtain ⟨vs,q,_⟩:=hc
    exact .inr ⟨hb.symm,_,_,_,q⟩
   ·simp only [ak] at hb
    obtain ⟨vs,q,_⟩:=hc
    exact .inr ⟨hb.symm,_,_,_,q⟩
   ·simp only [ak] at hb
    obtain ⟨q,_⟩:=hc
    exact .inl ⟨hb.symm,q⟩
   ·simp at hb
  have hr:=Lp (P:=P) (w:=w) hu b hv x (.const .nilFunc)
  have hce:a.eval (.const .nilFunc)=.nilFunc:=rfl
  split at e
  ·simp only [ak] at e
   subst e
   exact ⟨.bool b,by simp only [execOp,ho,hce]; exact bH hr.1,rfl,rfl⟩
  ·simp only [ak] at e
   subst e
   exact ⟨.bool (!b),by simp only [execOp,ho,hce]; exact bH hr.2,rfl,rfl⟩
  ·simp at e
 ·simp at hb
theorem AJ {b:Int} (h:Wp b=true):0≤b:=by
 cases b with
 | ofNat k=>exact Int.natCast_nonneg k
 | negSucc k=>simp [Wp] at h
theorem GV {op:BinOp} {a b:Int} {z:Value} (e:sJ op a b=some z):xC op (.int .i64 a) (.int .i64 b)=some z∨(xC op (.int .i64 a) (.int .i64 b)=none∧∃ p,wg op (.int .i64 a) (.int .i64 b)=some (p,z)∧p):=by
 cases op
 case quo=>
  right
  refine ⟨rfl,b≠0,?_,?_⟩<;>(simp only [sJ] at e; cases hb:b==0<;>rw [hb] at e<;>simp_all [wg])
 case rem=>
  right
  refine ⟨rfl,b≠0,?_,?_⟩<;>(simp only [sJ] at e; cases hb:b==0<;>rw [hb] at e<;>simp_all [wg])
 case shl=>
  right
  simp only [sJ] at e
  obtain ⟨h1,e⟩:=Bool.aq e
  exact ⟨rfl,0≤b,by simp only [wg,ak] at e ⊢; rw [e],AJ h1⟩
 case shr=>
  right
  simp only [sJ] at e
  obtain ⟨h1,e⟩:=Bool.aq e
  exact ⟨rfl,0≤b,by simp only [wg,ak] at e ⊢; rw [e],AJ h1⟩
 case and=>left; exact e
 case andNot=>left; exact e
 all_goals first|(simp [sJ] at e; done)|(left; simpa [sJ,xC] using e)
theorem wL {v:Value} {n:Int} (e:Du v=some n):v=.int .i64 n:=by
 unfold Du at e
 split at e
 ·simp only [ak] at e; subst e; rfl
 ·simp at e
theorem tM {v:Value} {b:Bool} (e:wJ v=some b):v=.bool b:=by
 unfold wJ at e
 split at e
 ·simp only [ak] at e; subst e; rfl
 ·simp at e
theorem Dq (bz:dk P T) (h:R T N aw w0 sp s a w E) (hn:bA s.sl) {o:Oper} {op:BinOp} {t t2:TypeId} {x y:Operand} (ho:o.op=.binOp op t x y t2) {d:D} (e:vP T s op t x y=some d):Looks P aw s a w E o d:=by
 unfold vP at e
 split at e
 ·rename_i hy; exact Cy bz h hn ho hy e
 split at e
 ·exact CE bz h hn ho e
 rename_i hy
 split at e
 ·rename_i u v hu hv
  have hu:=dm hn (kZ hu)
  have hv:=dm hn (kZ hv)
  split at e
  case h_2=>simp at e
  rename_i z hz
  simp only [ak] at e
  subst e
  unfold Db at hz
  split at hz
  ·rename_i n m sq hm'
   have sq:=wL sq
   have hm':=wL hm'
   subst sq hm'
   rcases GV hz with hz|⟨hz,p,hz2,hp⟩
   ·exact Looks.cu (p:=none) bz h (by simp only [ho,aV,hu,hv,hz]) trivial
   ·exact Looks.cu (p:=some p) bz h (by simp only [ho,aV,hu,hv,hz,hz2]) hp
  ·split at hz
   ·rename_i b c hb hc
    have hb:=tM hb
    have hc:=tM hc
    subst hb hc
    unfold TV at hz
    split at hz
    case h_2=>simp at hz
    rename_i ub uA z0 lu
    split at hz
    ·simp only [ak] at hz; subst hz
     exact Looks.cu (p:=none) bz h (by simp only [ho,aV,hu,hv,lu]) trivial
    ·simp only [ak] at hz; subst hz
     exact Looks.cu (p:=none) bz h (by simp only [ho,aV,hu,hv,lu]) trivial
    ·simp at hz
   ·rename_i hnb
    refine Looks.cu (p:=none) bz h ?_ trivial
    simp only [ho,aV,hu,hv]
    split
    ·rename_i b c hb hc
     simp only [ak,D.c.injEq,C.im.injEq,I.v.injEq] at hb hc
     subst hb hc
     exact (hnb _ _ rfl rfl).elim
    ·rename_i u' v' _ hb hc
     simp only [ak,D.c.injEq,C.im.injEq,I.v.injEq] at hb hc
     subst hb hc
     simp only [hz]
    ·rename_i hb hc; simp at hb
    ·rename_i hb hc _; exact (hc _ _ rfl rfl).elim
 ·split at e
  case h_2=>simp at e
  rename_i l m hl hm
  have hl:=dm hn (wX hl)
  have hm:=dm hn (wX hm)
  unfold YT at e
  split at e
  case h_2=>simp at e
  rename_i ks hks
  split at e
  case h_2=>simp at e
  rename_i b hb
  split at e
  ·simp only [ak] at e; subst e
   exact Looks.cu (p:=none) bz h (by simp only [ho,aV,hl,hm,hks,hb]) trivial
  ·simp only [ak] at e; subst e
   exact Looks.cu (p:=none) bz h (by simp only [ho,aV,hl,hm,hks,hb]) trivial
  ·simp at e
theorem Hc (bz:dk P T) (h:R T N aw w0 sp s a w E) (hn:bA s.sl) {o:Oper} {op:UnOp} {t:TypeId} {x:Operand} (ho:o.op=.unOp op t x) {d:D} (e:Wm s op x=some d):Looks P aw s a w E o d:=by
 unfold Wm at e
 split at e
 ·split at e
  case h_2=>simp at e
  rename_i b hb
  simp only [ak] at e; subst e
  exact Looks.cu (p:=none) bz h (by simp only [ho,aV,dm hn (eu hb)]) trivial
 ·split at e
  case h_2=>simp at e
  rename_i b hb
  simp only [ak] at e; subst e
  exact Looks.cu (p:=none) bz h (by simp only [ho,aV,dm hn (dB hb)]) trivial
 ·simp at e
theorem wm (bz:dk P T) (h:R T N aw w0 sp s a w E) (hn:bA s.sl) {o:Oper} {x:Operand} (ho:o.op=.nilCheck x) {d:D} (e:sW s x=some d):Looks P aw s a w E o d:=by
 unfold sW at e
 split at e
 case h_2=>simp at e
 rename_i c hc
 have hc:=dm hn (bL hc)
 split at e<;>first|(simp at e; done)|(simp only [ak] at e; subst e; exact Looks.cu (p:=none) bz h (by simp only [ho,aV,hc]) trivial)
theorem yM (bz:dk P T) (h:R T N aw w0 sp s a w E) (hn:bA s.sl) {o:Oper} {t:TypeId} {x:Operand} {f:Nat} (ho:o.op=.fieldAddr t x f) {d:D} (e:yS T s t x f=some d):Looks P aw s a w E o d:=by
 unfold yS at e
 split at e
 case h_2=>simp at e
 rename_i ub uA z0 fs hy
 split at e
 case h_2=>simp at e
 rename_i p hp
 rw [bI] at hp
 obtain ⟨o1,sz⟩:=p
 split at e
 case h_2=>simp at e
 rename_i c hc
 have hc:=dm hn (bL hc)
 obtain ⟨fg,e⟩:=Bool.aq e
 unfold Jz at e
 split at e
 ·simp only [ak] at e; subst e
  exact Looks.cu (p:=none) bz h (by simp only [ho,aV,hy,hp,fg,hc]) trivial
 ·obtain ⟨hle,e⟩:=Bool.aq e
  simp only [ak] at e; subst e
  exact Looks.cu (p:=none) bz h (by simp only [ho,aV,hy,hp,fg,hc,hle]) trivial
 ·simp at e
theorem ql {i:Int} {n:Nat} (h:cC i n=true):0≤i∧i<(n:Int):=by
 unfold cC at h
 split at h
 ·have:=aF h; exact ⟨Int.natCast_nonneg _,Int.ofNat_lt.2 this⟩
 ·simp at h
theorem uZ {i:Int} {n:Nat} (h:Ia i n=true):0≤i∧i≤(n:Int):=by
 unfold Ia at h
 split at h
 ·have:=dL h; exact ⟨Int.natCast_nonneg _,Int.ofNat_le.2 this⟩
 ·simp at h
theorem oQ {t:Nat} {y:Ty} (e:pW T t=some y):∃ ub uA z0 el,T.ty t=some ⟨ub,uA,z0,.slice el⟩∧T.ty el=some y:=by
 unfold pW at e
 split at e
 ·rename_i ub uA z0 el hy; exact ⟨ub,uA,z0,el,hy,e⟩
 ·simp at e
theorem cr.array {P:Program} {t:TypeId} {y:Ty} (h:cr P t y) {n e:Nat} (hk:y.kd=.array n e):P.underlying t=some (.array n e):=by
 have:=h.kd
 rw [hk] at this
 unfold uu at this
 split at this<;>(try split at this)<;>simp_all
theorem wK {t:Nat} {n:Nat} {y:Ty} (e:G9 T t=some (n,y)):∃ ub uA z0 el,T.ty t=some ⟨ub,uA,z0,.array n el⟩∧T.ty el=some y:=by
 unfold G9 at e
 split at e
 ·rename_i ub uA z0 n' el hy
  split at e
  ·rename_i y' hy'
   simp only [ak,a8] at e
   obtain ⟨rfl,rfl⟩:=e
   exact ⟨ub,uA,z0,el,hy,hy'⟩
  ·simp at e
 ·simp at e
theorem zi (bz:dk P T) (h:R T N aw w0 sp s a w E) (hn:bA s.sl) {o:Oper} {t:TypeId} {x ix:Operand} (ho:o.op=.indexAddr t x ix) {n:Nat} {y:Ty} (hy:G9 T t=some (n,y)) {i:Int} (hi:gO (bO s.sl ix)=some i) {c:C} (hc:cO (bO s.sl x)=some c) {d:D} (e:zh n y.size i c=some d):Looks P aw s a w E o d:=by
 obtain ⟨ub,uA,z0,el,hy1,hy2⟩:=wK hy
 have hu:=(bz.ty _ _ hy1).array rfl
 have hye:=bz.ty _ _ hy2
 replace hi:=(h.bO hn (dB hi)).1
 replace hc:=h.bO hn (bL hc)
 unfold zh at e
 split at e
 ·rename_i r k j
  obtain ⟨h1,e⟩:=Bool.aq e
  simp only [ak] at e
  subst e
  obtain ⟨h2,h3⟩:=ql h1
  obtain ⟨b,sz,ir,hv⟩:=hc
  refine ⟨.pointer (some ((⟨b,k*sz+j,none⟩:Addr).add (i.toNat*y.size))),?_,b,sz,ir,?_⟩
  ·simp only [execOp,ho,hv,hi]
   refine bH ?_
   simp [Instr.indexAt,run_underlying hu,asIntOf,Instr.sureAddr,h2,h3,run_sizeOf hye.sz]
  ·rw [Addr.add_mid]
   simp only [Value.pointer.injEq,ak,Addr.mk.injEq,and_true,true_and]
   omega
 ·simp at e
theorem yP (bz:dk P T) (h:R T N aw w0 sp s a w E) (hn:bA s.sl) {o:Oper} {t:TypeId} {x ix:Operand} (ho:o.op=.indexAddr t x ix) {n:Nat} {y:Ty} (hy:G9 T t=some (n,y)) {i:Int} (hi:gO (bO s.sl ix)=some i) {c:C} (hc:cO (bO s.sl x)=some c) {d:D} (e:tl T n y.size i c=some d):Looks P aw s a w E o d:=by
 unfold tl at e
 split at e
 case h_2=>exact zi bz h hn ho hy hi hc e
 rename_i q
 obtain ⟨ub,uA,z0,el,hy1,hy2⟩:=wK hy
 have hu:=(bz.ty _ _ hy1).array rfl
 have hye:=bz.ty _ _ hy2
 replace hi:=(h.bO hn (dB hi)).1
 replace hc:=h.bO hn (bL hc)
 unfold Ey at e
 split at e
 case h_2=>simp at e
 rename_i g hg
 obtain ⟨h0,e⟩:=Bool.aq e
 obtain ⟨h1,e⟩:=Bool.aq e
 simp only [ak] at e
 subst e
 have h0:=bs h0
 obtain ⟨h2,h3⟩:=ql h1
 obtain ⟨ad,g1,g2,g3,g4,g5⟩:=h.fL q g hg
 simp only [Value.pointer.injEq,ak] at g1
 subst g1
 have hv:a.eval x=.pointer (some ⟨q,0,none⟩):=hc
 have dp:i.toNat*y.size+y.size≤n*y.size:=by
  have:i.toNat+1≤n:=by omega
  have:=fA y.size this
  rw [Nat.add_mul,Nat.one_mul] at this
  exact this
 refine ⟨.pointer (some ((⟨q,0,none⟩:Addr).add (i.toNat*y.size))),?_,_,rfl,?_,?_,?_,fun j hj=>?_⟩
 ·simp only [execOp,ho,hv,hi]
  refine bH ?_
  simp [Instr.indexAt,run_underlying hu,asIntOf,Instr.sureAddr,h2,h3,run_sizeOf hye.sz]
 ·rw [Addr.add_mid]
 ·rw [Addr.add_mid]; exact g3
 ·rw [Addr.add_mid]; exact g4
 ·obtain ⟨z,q1,q2⟩:=g5 (i.toNat*y.size+j) (by rw [← h0]; omega)
  refine ⟨z,?_,q2⟩
  rw [Addr.add_mid] at q1 ⊢
  rw [Addr.add_mid]
  simpa [Nat.add_assoc] using q1
theorem zR (bz:dk P T) (h:R T N aw w0 sp s a w E) (hn:bA s.sl) {o:Oper} {t:TypeId} {x ix:Operand} (ho:o.op=.indexAddr t x ix) {d:D} (e:lz T s t x ix=some d):Looks P aw s a w E o d:=by
 unfold lz at e
 split at e
 ·rename_i a' ha
  obtain ⟨n,y⟩:=a'
  split at e
  case h_2=>simp at e
  rename_i i hi
  split at e
  case h_2=>simp at e
  rename_i c hc
  exact yP bz h hn ho ha hi hc e
 split at e
 case h_2=>simp at e
 rename_i y hy
 obtain ⟨ub,uA,z0,el,hy1,hy2⟩:=oQ hy
 split at e
 case h_2=>simp at e
 rename_i i hi
 have hi:=dm hn (dB hi)
 split at e
 case h_2=>simp at e
 rename_i c hc
 have hc:=dm hn (bL hc)
 unfold po at e
 split at e
 ·obtain ⟨h1,e⟩:=Bool.aq e
  obtain ⟨h2,e⟩:=Bool.aq e
  simp only [ak] at e; subst e
  refine Looks.cu (p:=some _) bz h (by simp only [ho,aV,hy1,hy2,hi,hc,h1]) (ql h2)
 ·split at e
  case h_4=>simp at e
  all_goals
   rename_i hl
   rw [bI] at hl
   obtain ⟨h1,e⟩:=Bool.aq e
   obtain ⟨h2,e⟩:=Bool.aq e
   simp only [ak] at e; subst e
   refine Looks.cu (p:=some _) bz h (by simp only [ho,aV,hy1,hy2,hi,hc,hl,h1]) (ql h2)
 ·simp at e
theorem pJ (hn:bA s.sl) {t:TypeId} {x:Operand} {d:D} (e:jS T s t x=some d):∃ p,aV T s [] (.load t x)=some (p,d)∧need p:=by
 unfold jS at e
 split at e
 case h_2=>simp at e
 rename_i y hy
 split at e
 case h_2=>simp at e
 rename_i c hc
 have hc:=dm hn (bL hc)
 have box:∀ {l:List C} {j:Nat},pS y l j=some d→(match y.kd.agg with
   | true=>match takeN y.size (tw j l) with
     | some cs=>some (none,D.a cs)
     | none=>none
   | false=>match nth l j with
     | some c=>some (none,.c c)
     | none=>none)=some ((none:Option Prop),d):=by
  intro l j e
  unfold pS at e
  split at e
  ·rename_i hagg
   split at e
   case h_2=>simp at e
   rename_i cs hcs
   simp only [ak] at e; subst e
   simp only [hagg,hcs]
  ·rename_i hagg
   split at e
   case h_2=>simp at e
   rename_i cs hcs
   rw [bI] at hcs
   simp only [ak] at e; subst e
   simp only [hagg,hcs]
 unfold qG at e
 split at e
 ·rename_i r i j
  unfold vu at e
  split at e
  ·rename_i l hl
   rw [bI] at hl
   split at e
   ·simp only [aV,hy,hc,hl]
    exact ⟨_,box e,trivial⟩
   ·simp at e
  ·rename_i sz n l hl
   rw [bI] at hl
   simp only [aV,hy,hc,hl]
   exact ⟨_,box e,trivial⟩
  ·rename_i el sz n get hl
   rw [bI] at hl
   unfold Gz at e
   split at e
   ·rename_i hagg
    obtain ⟨h1,e⟩:=Bool.aq e
    obtain ⟨h2,e⟩:=Bool.aq e
    simp only [ak] at e; subst e
    exact ⟨some (_<n),by simp only [aV,hy,hc,hl,hagg,h1],aF h2⟩
   ·rename_i hagg
    obtain ⟨h1,e⟩:=Bool.aq e
    obtain ⟨h2,e⟩:=Bool.aq e
    simp only [ak] at e; subst e
    exact ⟨some (_<n),by simp only [aV,hy,hc,hl,hagg,h1],aF h2⟩
  ·rename_i el sz n get dK hl
   rw [bI] at hl
   unfold AY at e
   split at e
   ·rename_i hagg
    obtain ⟨h1,e⟩:=Bool.aq e
    obtain ⟨h2,e⟩:=Bool.aq e
    split at e
    case h_2=>simp at e
    rename_i hg
    simp only [ak] at e; subst e
    exact ⟨some (_<n),by simp only [aV,hy,hc,hl,hagg,h1,hg],aF h2⟩
   ·rename_i hagg
    obtain ⟨h1,e⟩:=Bool.aq e
    obtain ⟨h2,e⟩:=Bool.aq e
    split at e
    case h_2=>simp at e
    rename_i hg
    simp only [ak] at e; subst e
    exact ⟨some (_<n),by simp only [aV,hy,hc,hl,hagg,h1,hg],aF h2⟩
  ·simp at e
 ·rename_i q
  unfold Qq at e
  split at e
  case h_2=>simp at e
  rename_i z hz
  split at e
  ·simp at e
  ·rename_i hagg
   simp only [ak] at e; subst e
   exact ⟨none,by simp only [aV,hy,hc,hagg,hz],trivial⟩
 ·rename_i n get
  unfold Lh at e
  split at e
  ·rename_i hagg
   obtain ⟨h1,e⟩:=Bool.aq e
   simp only [ak] at e; subst e
   exact ⟨none,by simp only [aV,hy,hc,hagg,h1],trivial⟩
  ·rename_i hagg
   obtain ⟨h1,e⟩:=Bool.aq e
   simp only [ak] at e; subst e
   exact ⟨none,by simp only [aV,hy,hc,hagg,h1],trivial⟩
 ·simp at e
theorem vF (bz:dk P T) (h:R T N aw w0 sp s a w E) (hn:bA s.sl) {o:Oper} {x:Operand} {k:Nat} (ho:o.op=.extract x k) {d:D} (e:qJ s x k=some d):Looks P aw s a w E o d:=by
 unfold qJ at e
 split at e
 case h_2=>simp at e
 rename_i l hl
 have hl:=dm hn (GY hl)
 rw [bI] at e
 split at e
 ·rename_i cs hc
  simp only [ak] at e; subst e
  exact Looks.cu (p:=none) bz h (by simp only [ho,aV,hl,hc]) trivial
 ·rename_i cs hc
  simp only [ak] at e; subst e
  exact Looks.cu (p:=none) bz h (by simp only [ho,aV,hl,hc]) trivial
 ·simp at e
theorem sA (hn:bA s.sl) {fs:List (Nat×Nat)}:∀ {ps:List (Nat×Operand)} {l r:List C},sc fs s.sl ps l=some r→vK fs s [] ps l=some r
 | [],l,r,e=>e
 | p::ps,l,r,e=>by
   obtain ⟨k,x⟩:=p
   have e:(match aY fs k with
    | some o=>match Go.V.bO s.sl x with
      | some d=>match d.cells with
        | some cs=>(Bool.rec none (match put l o.1 cs with
          | some l'=>sc fs s.sl ps l'
          | none=>none) (Nat.beq cs.length o.2&&Nat.blt 0 o.2):Option (List C))
        | none=>none
      | none=>none
    | none=>none)=some r:=e
   split at e
   case h_2=>simp at e
   rename_i o ho
   rw [bI] at ho
   obtain ⟨o1,o2⟩:=o
   split at e
   case h_2=>simp at e
   rename_i d hd
   split at e
   case h_2=>simp at e
   rename_i cs hcs
   obtain ⟨h1,e⟩:=Bool.aq e
   split at e
   case h_2=>simp at e
   rename_i l' sR
   simp only at h1 sR
   simp only [vK,ho,dm hn hd,hcs,h1,sR]
   exact sA hn e
theorem yE (bz:dk P T) (h:R T N aw w0 sp s a w E) (hn:bA s.sl) {o:Oper} {t:TypeId} {ps:Array (Nat×Operand)} (ho:o.op=.build t ps) {d:D} (e:z8 T s t ps.toList=some d):Looks P aw s a w E o d:=by
 unfold z8 at e
 split at e
 case h_2=>simp at e
 rename_i y hy
 split at e
 case h_2=>simp at e
 rename_i fs hk
 split at e
 case h_2=>simp at e
 rename_i z hz
 split at e
 case h_2=>simp at e
 rename_i l hl
 simp only [ak] at e; subst e
 exact Looks.cu (p:=none) bz h (by simp only [ho,aV,hy,hk,hz,sA hn hl]) trivial
theorem B1 (bz:dk P T) (h:R T N aw w0 sp s a w E) (hn:bA s.sl) {o:Oper} {fn:Fn} {first dR:Array Operand} (ho:o.op=.makeFunc fn first dR) {d:D} (e:E4 s fn first.toList dR.toList=some d):Looks P aw s a w E o d:=by
 unfold E4 at e
 split at e
 case h_2=>simp at e
 split at e
 case h_2=>simp at e
 rename_i hf
 split at e
 ·rename_i hc
  simp only [ak] at e; subst e
  exact Looks.cu (p:=none) bz h (by simp only [ho,aV,hf,kT hn hc]) trivial
 ·rename_i hc
  simp only [ak] at e; subst e
  exact Looks.cu (p:=none) bz h (by simp only [ho,aV,hf,kT hn hc]) trivial
 ·rename_i hc
  simp only [ak] at e; subst e
  exact Looks.cu (p:=none) bz h (by simp only [ho,aV,hf,kT hn hc]) trivial
 ·rename_i hc
  simp only [ak] at e; subst e
  exact Looks.cu (p:=none) bz h (by simp only [ho,aV,hf,kT hn hc]) trivial
 ·simp at e
theorem Dx (bz:dk P T) (h:R T N aw w0 sp s a w E) (hn:bA s.sl) {o:Oper} {c:Call} (ho:o.op=.call c) {d:D} (e:CR T s c=some d):Looks P aw s a w E o d:=by
 unfold CR at e
 split at e
 case h_2=>simp at e
 rename_i b hb
 have go:fS T b c.argTypes.toList (CM s [] c.args.toList)=some (none,d)→Looks P aw s a w E o d:=fun q=>
  Looks.cu (p:=none) bz h (by simp only [ho,aV,hb]; exact q) trivial
 unfold DB at e
 split at e
 ·apply go
  unfold K3 at e
  split at e
  case h_2=>simp at e
  rename_i t x hts hxs
  rw [hts,hxs]
  split at e
  ·rename_i hy
   split at e
   case h_2=>simp at e
   rename_i cc hc
   have hc:=dm hn (bL hc)
   unfold Vl at e
   split at e<;>first|(simp at e; done)|(simp only [ak] at e; subst e; simp only [fS,CM,hc,hy])
  ·rename_i hy
   split at e
   case h_2=>simp at e
   rename_i b hc
   have hc:=dm hn (kZ hc)
   simp only [ak] at e; subst e
   simp only [fS,CM,hc,hy]
  ·simp at e
 ·apply go
  unfold LM at e
  split at e
  case h_2=>simp at e
  rename_i x y hxs
  split at e
  case h_2=>simp at e
  rename_i n m h1 h2
  simp only [ak] at e; subst e
  rw [hxs]
  simp only [fS,CM,dm hn (dB h1),dm hn (dB h2)]
 ·apply go
  unfold KK at e
  split at e
  case h_2=>simp at e
  rename_i x y hxs
  split at e
  case h_2=>simp at e
  rename_i n m h1 h2
  simp only [ak] at e; subst e
  rw [hxs]
  simp only [fS,CM,dm hn (dB h1),dm hn (dB h2)]
 ·simp at e
theorem Bd (n:Int):∀ l:List (Int×FuncId),J5 n l=w5 n l
 | []=>rfl
 | x::l=>by
   show (Bool.rec (J5 n l) (some x.2) (n==x.1):Option FuncId)=w5 n (x::l)
   unfold w5
   cases n==x.1 with
   | true=>rfl
   | false=>exact Bd n l
theorem xj (bz:dk P T) (h:R T N aw w0 sp s a w E) (hn:bA s.sl) {o:Oper} {t:TypeId} {x i:Operand} {ok:Bool} (ho:o.op=.lookup t x i ok) {d:D} (e:V0 T s t x i ok=some d):Looks P aw s a w E o d:=by
 unfold V0 at e
 obtain ⟨hk,e⟩:=Bool.aq e
 unfold YL at hk
 split at hk
 case h_2=>simp at hk
 rename_i k el lu
 split at hk
 case h_2=>simp at hk
 rename_i wB hye
 have lu:=(bz.ty _ _ lu).map rfl
 have wB:=(bz.ty _ _ wB).int rfl
 have hye:=bz.ty _ _ hye
 obtain ⟨inf,hin,_,_,hz⟩:=hye.full
 split at e
 case h_2=>simp at e
 rename_i l n hx hi
 simp only [ak] at e
 subst e
 obtain ⟨b,es,clock,hx,_,h2,h3⟩:=h.bO hn (bL hx)
 have hi:=(h.bO hn (dB hi)).1
 rw [Bd]
 have hu:(Go.underlying t).run P w=.ok (.map k el) w:=by simp [Go.underlying,Go.program,Sem.run,lu]
 have huk:(Go.underlying k).run P w=.ok (.int .i64) w:=by simp [Go.underlying,Go.program,Sem.run,wB]
 have hg':(getObj b).run P w=.ok (.map es clock) w:=by simp [getObj,Sem.run,h2]
 have hz0:(zeroValue el).run P w=.ok .nilFunc w:=by simp [zeroValue,typeInfo,hin,hz]
 rcases h3 n with ⟨h4,h5⟩|⟨q,f,h4,h5⟩
 ·have hf:(Instr.findKey k (.int .i64 n) es.toList).run P w=.ok none w:=by simp [Instr.findKey,huk,h4]
  rw [h5]
  cases ok with
  | true=>
    refine ⟨.tuple #[.nilFunc,.bool false],?_,_,rfl,.cons ⟨_,rfl,rfl,rfl⟩ (.cons ⟨_,rfl,rfl,rfl⟩ .nil)⟩
    simp only [execOp,ho,hx,hi]
    refine bH ?_
    unfold Instr.lookup
    simp [Sem.run_bind,hu,hg',Result.andThen_ok,fw wB,hf,hz0]
  | false=>
    refine ⟨.nilFunc,?_,rfl,rfl⟩
    simp only [execOp,ho,hx,hi]
    refine bH ?_
    unfold Instr.lookup
    simp [Sem.run_bind,hu,hg',Result.andThen_ok,fw wB,hf,hz0]
 ·have hf:(Instr.findKey k (.int .i64 n) es.toList).run P w=.ok (some (q,.func (.func f) #[] #[])) w:=by simp [Instr.findKey,huk,h4]
  rw [h5]
  have hrel:cA (AV aw s.rs E) w (.fn f 0 fun _=>.v (.bool false)) (.func (.func f) #[] #[]):=⟨#[],rfl,rfl,fun j hj=>by omega⟩
  cases ok with
  | true=>
    refine ⟨.tuple #[.func (.func f) #[] #[],.bool true],?_,_,rfl,.cons ⟨_,rfl,hrel⟩ (.cons ⟨_,rfl,rfl,rfl⟩ .nil)⟩
    simp only [execOp,ho,hx,hi]
    refine bH ?_
    unfold Instr.lookup
    simp [Sem.run_bind,hu,hg',Result.andThen_ok,fw wB,hf]
  | false=>
    refine ⟨.func (.func f) #[] #[],?_,hrel⟩
    simp only [execOp,ho,hx,hi]
    refine bH ?_
    unfold Instr.lookup
    simp [Sem.run_bind,hu,hg',Result.andThen_ok,fw wB,hf]
theorem vZ (bz:dk P T) (h:R T N aw w0 sp s a w E) (hn:bA s.sl) {o:Oper} {t:TypeId} {x i:Operand} {ok:Bool} (ho:o.op=.lookup t x i ok) {d:D} (e:lT T s t x i ok=some d):Looks P aw s a w E o d:=by
 unfold lT at e
 split at e
 ·exact xj bz h hn ho e
 cases hk:H7 T t with
 | false=>rw [hk] at e; exact xj bz h hn ho e
 | true=>
 rw [hk] at e
 simp only at e
 unfold H7 at hk
 split at hk
 case h_2=>simp at hk
 rename_i hy
 split at hk
 case h_2=>simp at hk
 rename_i hy1 hy2
 split at e
 case h_2=>simp at e
 rename_i c n hc hi
 have hc:=dm hn (bL hc)
 have hi:=dm hn (dB hi)
 split at e
 case h_2=>simp at e
 rename_i l hl
 simp only [ak] at e; subst e
 unfold I7 at hl
 split at hl
 ·split at hl
  case h_2=>simp at hl
  rename_i hr
  rw [bI] at hr
  simp only [ak] at hl; subst hl
  exact Looks.cu (p:=none) bz h (by simp only [ho,aV,hy,hy1,hy2,hc,hi,hr]) trivial
 ·simp only [ak] at hl; subst hl
  exact Looks.cu (p:=none) bz h (by simp only [ho,aV,hy,hy1,hy2,hc,hi]) trivial
 ·simp at hl
theorem xO (bz:dk P T) (h:R T N aw w0 sp s a w E) (hn:bA s.sl) {o:Oper} {t:TypeId} {x l:Operand} (ho:o.op=.slice t x (some l) none none) {y:Ty} (hy:pW T t=some y) {c:C} (hc:cO (bO s.sl x)=some c) {q:Int} (hl:gO (bO s.sl l)=some q) {d:D} (e:uH y.size c q=some d):Looks P aw s a w E o d:=by
 obtain ⟨ub,uA,z0,el,hy1,hy2⟩:=oQ hy
 have lu:=(bz.ty _ _ hy1).slice rfl
 replace hc:=h.bO hn (bL hc)
 replace hl:=(h.bO hn (dB hl)).1
 unfold uH at e
 split at e
 case h_2=>simp at e
 rename_i sz n get
 obtain ⟨h1,e⟩:=Bool.aq e
 simp only [cG] at h1
 obtain ⟨h2,h3⟩:=uZ h1.1
 have h4:=bs h1.2
 subst h4
 simp only [ak] at e
 subst e
 obtain ⟨ao,cap,hv,g1,g2,g3⟩:=hc
 have he:P.elem t=el:=by simp [Program.elem,lu]
 have ht:P.underlying t=some (.slice (P.elem t)):=by rw [he]; exact lu
 have hqn:q.toNat≤n:=by omega
 have e1:n-q.toNat≤cap-q.toNat:=Nat.sub_le_sub_right g1 _
 have e2:n-q.toNat≤maxLen:=bU (Nat.sub_le _ _) g2
 have e3:0<n-q.toNat→0<n∧cap≠q.toNat:=fun h0=>⟨by omega,by omega⟩
 have e4:∀ i,i<n-q.toNat→q.toNat+i<n:=fun i hi=>by omega
 refine ⟨sliced ao q.toNat n cap y.size,?_,_,_,rfl,e1,e2,fun h0=>?_⟩
 ·simp only [execOp,ho,hv,hl,Option.map_some,Option.map_none]
  refine bH ?_
  rw [run_sliceAt_slice w t _ _ _ _ ht,run_slice_l w t ao n cap ht .i64 q h2 h3,he,run_sizeOf (bz.ty _ _ hy2).sz,Result.andThen_ok]
 ·obtain ⟨ad,rfl,k1,k2,k3,k4⟩:=g3 (e3 h0).1
  refine ⟨ad.add (q.toNat*y.size),?_,vm _ k1 _,by rw [block_add]; exact k2,by rw [block_add]; exact k3,fun i hi j hj=>?_⟩
  ·rw [if_neg (e3 h0).2]; rfl
  ·obtain ⟨v,m1,m2⟩:=k4 (q.toNat+i) (e4 i hi) j hj
   refine ⟨v,?_,m2⟩
   rw [add_add _ k1,← m1]
   congr 2
   rw [Nat.add_mul,Nat.add_assoc]
theorem z6 (bz:dk P T) (h:R T N aw w0 sp s a w E) (hn:bA s.sl) {o:Oper} {t:TypeId} {x:Operand} {lo hi mx:Option Operand} (ho:o.op=.slice t x lo hi mx) {d:D} (e:jI T s t x lo hi mx=some d):Looks P aw s a w E o d:=by
 unfold jI at e
 split at e
 case h_3=>simp at e
 case h_2=>
  split at e
  case h_2=>simp at e
  rename_i y hy
  split at e
  case h_2=>simp at e
  rename_i c n hc hh
  exact xO bz h hn ho hy hc hh e
 rename_i hi
 split at e
 case h_2=>simp at e
 rename_i y hy
 obtain ⟨ub,uA,z0,el,hy1,hy2⟩:=oQ hy
 split at e
 case h_2=>simp at e
 rename_i c n hc hh
 have hc:=dm hn (bL hc)
 have hh:=dm hn (dB hh)
 unfold lx at e
 split at e
 ·obtain ⟨h1,e⟩:=Bool.aq e
  simp only [ak] at e; subst e
  exact Looks.cu (p:=some _) bz h (by simp only [ho,aV,hy1,hy2,hc,hh]) (uZ h1)
 ·split at e
  case h_4=>simp at e
  all_goals
   rename_i hl
   rw [bI] at hl
   obtain ⟨h1,e⟩:=Bool.aq e
   simp only [ak] at e; subst e
   exact Looks.cu (p:=some _) bz h (by simp only [ho,aV,hy1,hy2,hc,hh,hl]) (uZ h1)
 ·obtain ⟨h1,e⟩:=Bool.aq e
  simp only [ak] at e; subst e
  exact Looks.cu (p:=some _) bz h (by simp only [ho,aV,hy1,hy2,hc,hh]) (show n=0 by simpa using h1)
 ·simp at e
theorem Dl (bz:dk P T) (h:R T N aw w0 sp s a w E) (hn:bA s.sl) {o:Oper} {t t':TypeId} {x:Operand} (ho:o.op=.convert t t' x) {d:D} (e:NK T s t t' x=some d):Looks P aw s a w E o d:=by
 unfold NK at e
 split at e
 case h_2=>simp at e
 rename_i y z b v hy hz
 split at e
 case h_2=>simp at e
 rename_i n hx
 simp only [ak] at e
 subst e
 have hx:=(h.bO hn (bL hx)).1
 obtain ⟨u,hu,_⟩:=(bz.ty _ _ hy).WD
 have hu':=(bz.ty _ _ hz).int rfl
 refine ⟨.int .i64 (IntKind.i64.wrap n),?_,rfl,rfl⟩
 simp only [execOp,ho,hx]
 simp [convert,run_underlying hu,run_underlying hu',Sem.run_bind,Conv.intToInt]
theorem B9 (bz:dk P T) (h:R T N aw w0 sp s a w E) (hn:bA s.sl) {o:Oper} {d:D} (e:eK T s o.op=some d):Looks P aw s a w E o d:=by
 generalize hop:o.op=op at e
 cases op with
 | move x=>exact Looks.cu (p:=none) bz h (by simp only [hop,aV,dm hn (show Go.V.bO s.sl x=some d from e)]) trivial
 | assign x=>exact Looks.cu (p:=none) bz h (by simp only [hop,aV,dm hn (show Go.V.bO s.sl x=some d from e)]) trivial
 | pick c x y=>exact Bp h hn hop e
 | binOp op t x y t2=>exact Dq bz h hn hop e
 | unOp op t x=>exact Hc bz h hn hop e
 | nilCheck x=>exact wm bz h hn hop e
 | fieldAddr t x f=>exact yM bz h hn hop e
 | indexAddr t x i=>exact zR bz h hn hop e
 | load t x=>
   obtain ⟨p,h1,h2⟩:=pJ hn e
   exact Looks.cu (p:=p) bz h (by rw [hop]; exact h1) h2
 | extract x k=>exact vF bz h hn hop e
 | build t ps=>exact yE bz h hn hop e
 | makeFunc fn first dR=>exact B1 bz h hn hop e
 | call c=>exact Dx bz h hn hop e
 | lookup t x i ok=>exact vZ bz h hn hop e
 | slice t x lo hi mx=>exact z6 bz h hn hop e
 | convert t t2 x=>exact Dl bz h hn hop e
 | _=>exact absurd e (by simp [eK])
end
open Go.RowKit
theorem G5 (x:ae) (rs:List ae):place rs.length x rs=rs++[x]:=by simp [place,cB]
theorem gz {b:Nat} (x:ae) {rs:List ae} (h:b<rs.length):place b x rs=rs.set b x:=by
 have:Nat.beq b rs.length=false:=by
  cases hb:Nat.beq b rs.length with
  | false=>rfl
  | true=>have:=Nat.eq_of_beq_eq_true hb; omega
 simp [place,this,bm]
section
variable {P:Program} {T:dn} {N:Nat} {aw:Nat→Prop} {w0:Kp} {sp:List (D×Value)} {s:VS} {a:Act} {w:World} {E:Env}
def j9 (s:VS) (E:Env) (b:Nat):Prop:=(s.rs[b]?=some .dead∧E[b]?=some hole)∨b=s.rs.length
structure kX (b:Nat) (E E':Env):Prop where
 le:Env.le E E'
 free:∀ q,q≠b→E[q]?=some hole→E'[q]?=some hole
theorem kX.refl (b:Nat) (E:Env):kX b E E:=⟨Env.le_refl E,fun _ _ h=>h⟩
theorem R.make (h:R T N aw w0 sp s a w E) {b:Nat} (hf:j9 s E b) {dead:Option Nat} {x:ae} {e:gr} {w':World} {row:Option Nat}
  (hg:w.grownBy w' row)
  (lN:∀ k,row=some k→∃ r y q,dead=some r∧s.rs[r]?=some y∧y.live∧a7 E r k q)
  (ik:∀ k,e.1=some k→some k=row∨w.heap.size≤k) (dp:∀ k,e.1=some k→k<w'.heap.size)
  (hx:∀ E' cF,Env.le E E'→(∀ k,k<w.heap.size→cF k→AV aw s.rs E k)→(∀ k,cF k→AV aw s.rs E k∨e.has k)→aZ (AV aw s.rs E) w w'→aM E' cF w0.base w' e x)
  (qa:∀ k,e.2.1.2 k→(∃ r y q,dead=some r∧s.rs[r]?=some y∧y.live∧di E r k q)∨(w.heap.size≤k∧k<w'.heap.size):=by intro k hk; exact hk.elim) :
  ∃ E',R T N aw w0 sp { s with rs:=place b x (kill dead s.rs) } a w' E'∧E'[b]?=some e∧kX b E E'∧(∀ k,k<w.heap.size→AV aw (place b x (kill dead s.rs)) E' k→AV aw s.rs E k)∧∀ k,AV aw (place b x (kill dead s.rs)) E' k→AV aw s.rs E k∨e.has k:=by
 have hkl:(kill dead s.rs).length=s.rs.length:=by cases dead<;>simp [kill]
 rcases hf with ⟨hb,hE⟩|rfl
 ·have hbl:b<(kill dead s.rs).length:=by rw [hkl]; exact (List.getElem?_eq_some_iff.1 hb).1
  have hbE:b<E.length:=(List.getElem?_eq_some_iff.1 hE).1
  obtain ⟨h1,h2,jf⟩:=h.at (b:=b) (dead:=dead) (x:=x) (e:=e) (w':=w') (row:=row) hb hE hg lN ik dp (fun eY pM hk=>hx _ _ (Env.tU e hE) eY pM hk) qa
  rw [gz x hbl]
  refine ⟨_,h1,by rw [fb]; simp [hbE],⟨Env.tU e hE,fun q hq h3=>?_⟩,h2,jf⟩
  rw [fb,if_neg (fun e=>hq e.symm)]; exact h3
 ·have h0:=h.Ql 1
  have hle:Env.le E (E++List.replicate 1 hole):=Env.eo _ _
  have Il:(s.rs++List.replicate 1 ae.dead)[s.rs.length]?=some .dead:=by simp
  have hEs:(E++List.replicate 1 hole)[s.rs.length]?=some hole:=by rw [← h.len]; simp
  have hav0:∀ k,AV aw (s.rs++List.replicate 1 .dead) (E++List.replicate 1 hole) k→AV aw s.rs E k:=by
   rintro k (q|⟨r,y,sz,h1,h2,hh,h3⟩)
   ·exact .inl q
   ·rcases Nat.lt_or_ge r s.rs.length with hr|hr
    ·rw [dQ hr] at h1
     rw [dQ (by rw [h.len]; exact hr)] at h3
     exact .inr ⟨r,y,sz,h1,h2,hh,h3⟩
    ·rw [gG hr,List.getElem?_replicate] at h1
     split at h1
     ·simp only [ak] at h1; subst h1; exact h2.elim
     ·simp at h1
  have hav1:∀ k,AV aw s.rs E k→AV aw (s.rs++List.replicate 1 .dead) (E++List.replicate 1 hole) k:=by
   rintro k (q|⟨r,y,sz,h1,h2,h3⟩)
   ·exact .inl q
   ·exact .inr ⟨r,y,sz,by rw [dQ (List.getElem?_eq_some_iff.1 h1).1]; exact h1,h2,Cn _ h3⟩
  obtain ⟨h1,h2,jf⟩:=h0.at (b:=s.rs.length) (dead:=dead) (x:=x) (e:=e) (w':=w') (row:=row) Il hEs hg (fun k hk=>by
   obtain ⟨r,y,q,h3,h4,h5,h6⟩:=lN k hk
   exact ⟨r,y,q,h3,by rw [dQ (List.getElem?_eq_some_iff.1 h4).1]; exact h4,h5,hle.at_ h6⟩) ik dp
   (fun eY pM hk=>hx _ _ (hle.trans (Env.tU e hEs)) (fun k jN q=>hav0 k (eY k jN q)) (fun k q=>(pM k q).imp (hav0 k) id) ⟨hk.size,fun k jN hn=>hk.same k jN fun q=>hn (hav0 k q)⟩) (fun k hk=>by
   rcases qa k hk with ⟨r,y,q,h3,h4,h5,h6⟩|h7
   ·exact .inl ⟨r,y,q,h3,by rw [dQ (List.getElem?_eq_some_iff.1 h4).1]; exact h4,h5,Cn _ h6⟩
   ·exact .inr h7)
  have hk2:(kill dead (s.rs++List.replicate 1 .dead)).set s.rs.length x=place s.rs.length x (kill dead s.rs):=by
   rw [← hkl,G5]
   cases dead with
   | none=>simp [kill]
   | some r=>
     simp only [kill]
     rw [List.set_append]
     split
     ·rename_i hr
      have:(s.rs.set r ae.dead++List.replicate 1 ae.dead).set (s.rs.set r ae.dead).length x=s.rs.set r ae.dead++[x]:=by
       rw [List.set_append]; simp
      exact this
     ·rename_i hr
      have h3:s.rs.set r ae.dead=s.rs:=List.set_eq_of_length_le (by omega)
      have h4:(List.replicate 1 ae.dead).set (r-s.rs.length) ae.dead=List.replicate 1 ae.dead:=by
       cases r-s.rs.length<;>rfl
      rw [h3,h4,List.set_append]
      simp
  simp only at h1 h2 jf
  rw [hk2] at h1 h2 jf
  refine ⟨_,h1,?_,⟨hle.trans (Env.tU e hEs),fun q hq h3=>?_⟩,fun k hk q=>hav0 k (h2 k hk q),fun k q=>(jf k q).imp (hav0 k) id⟩
  ·rw [fb,if_pos rfl]
   simp [h.len]
  ·rw [fb,if_neg (fun e=>hq e.symm),dQ (List.getElem?_eq_some_iff.1 h3).1]
   exact h3
def dt (e:bP):Option D:=match e with
 | .val d=>some d
 | .wr d _=>d
 | .all d _=>some d
 | .cp _=>none
def hJ (T:dn) (N:Nat) (aw:Nat→Prop) (w0:Kp) (sp:List (D×Value)) (s:VS) (a:Act) (w:World) (E:Env) (b:Nat) (e:bP) (v:Value) (w':World) (E':Env):Prop:=
 kX b E E'∧R T N aw w0 sp { s with rs:=B3 e s.rs } a w' E'∧∀ d,dt e=some d→aJ E' (AV aw (B3 e s.rs) E') w' d v
theorem K9 {α:Type} (l m:List α) (o k n:Nat) (hm:m.length=k) (h:o+k≤n) (hn:n≤l.length):(l.take o++m++l.drop (o+k)).take n=(l.take n).take o++m++(l.take n).drop (o+k):=by
 apply List.ext_getElem?
 intro i
 have h1:(l.take o).length=o:=by simp; omega
 have h2:((l.take n).take o).length=o:=by simp; omega
 rw [cN]
 rcases Nat.lt_or_ge i o with hi|hi
 ·rw [if_pos (by omega),List.append_assoc,List.append_assoc,dQ (by omega),dQ (by omega)]
  rw [cN,cN,cN,if_pos hi,if_pos hi,if_pos (by omega)]
 ·rcases Nat.lt_or_ge i (o+k) with hk|hk
  ·have A:∀ l1 l3:List α,l1.length=o→(l1++m++l3)[i]?=m[i-o]?:=fun l1 l3 hl=>by
    rw [List.append_assoc,gG (by omega),hl,dQ (by omega)]
   rw [if_pos (by omega),A _ _ h1,A _ _ h2]
  ·rw [gG (by simp; omega),gG (by simp; omega),List.getElem?_drop,List.getElem?_drop,cN]
   simp only [List.length_append,h1,h2,hm]
   rw [show o+k+(i-(o+k))=i by omega]
theorem nZ (get:Nat→I):∀ (n o q:Nat),q<n→(dr get o n)[q]?=some (.im (get (o+q)))
 | 0,_,_,h=>by omega
 | n+1,o,0,_=>by simp [dr]
 | n+1,o,q+1,h=>by
   simp only [dr,List.getElem?_cons_succ]
   rw [nZ get n (o+1) q (by omega)]
   congr 3; omega
theorem gC (get:Nat→I):∀ (n o:Nat),(dr get o n).length=n
 | 0,_=>rfl
 | n+1,o=>by simp [dr,gC get n]
theorem rE (get:Nat→Nat→I) (sz i n:Nat):sN get sz i (n+1)=dr (get i) 0 sz++sN get sz (i+1) n:=rfl
theorem lg (get:Nat→Nat→I) (sz:Nat):∀ (n i:Nat),(sN get sz i n).length=n*sz
 | 0,_=>by simp; rfl
 | n+1,i=>by rw [rE,List.length_append,gC,lg get sz n,Nat.add_mul,Nat.one_mul]; omega
theorem kN (get:Nat→Nat→I) (sz:Nat):∀ (n i k j:Nat),k<n→j<sz→(sN get sz i n)[k*sz+j]?=some (.im (get (i+k) j))
 | 0,_,_,_,h,_=>by omega
 | n+1,i,0,j,_,hj=>by
   rw [rE,dQ (by rw [gC]; omega),nZ _ _ _ _ (by omega)]
   simp
 | n+1,i,k+1,j,h,hj=>by
   have:(k+1)*sz+j=sz+(k*sz+j):=by rw [Nat.add_mul,Nat.one_mul]; omega
   rw [rE,gG (by rw [gC]; omega),gC,show (k+1)*sz+j-sz=k*sz+j by omega,kN get sz n (i+1) k j (by omega) hj]
   congr 3; omega
theorem az.C8 {α β:Type} {Rr:α→β→Prop}:∀ {l:List α} {m:List β},l.length=m.length→(∀ (i:Nat) (x:α),l[i]?=some x→∃ y,m[i]?=some y∧Rr x y)→az Rr l m
 | [],[],_,_=>.nil
 | x::l,y::m,h,k=>by
   obtain ⟨y',h1,h2⟩:=k 0 x rfl
   simp only [List.getElem?_cons_zero,ak] at h1
   subst h1
   exact .cons h2 (az.C8 (by simpa using h) fun i x hx=>by simpa using k (i+1) x (by simpa using hx))
 | [],_::_,h,_=>by simp at h
 | _::_,[],h,_=>by simp at h
theorem R.swap (h:R T N aw w0 sp s a w E) {r:Nat} {x y:ae} (hr:s.rs[r]?=some x) (hl:y.live→x.live)
  (hx:∀ e av,aM E av w0.base w e x→(∀ b,av b→AV aw s.rs E b)→aM E av w0.base w e y):R T N aw w0 sp { s with rs:=s.rs.set r y } a w E:=by
 have dp:r<s.rs.length:=(List.getElem?_eq_some_iff.1 hr).1
 have key:∀ (q:Nat) (z:ae),(s.rs.set r y)[q]?=some z→z.live→∃ z',s.rs[q]?=some z'∧z'.live∧(z=z'∨(q=r∧z=y∧z'=x)):=by
  intro q z h1 h2
  rw [fb] at h1
  simp only [dp,if_true] at h1
  split at h1
  ·rename_i hq
   subst hq
   simp only [ak] at h1
   subst h1
   exact ⟨x,hr,hl h2,.inr ⟨rfl,rfl,rfl⟩⟩
  ·exact ⟨z,h1,h2,.inl rfl⟩
 have eY:∀ b,AV aw (s.rs.set r y) E b→AV aw s.rs E b:=by
  rintro b (q|⟨q,z,sz,h1,h2,h3⟩)
  ·exact .inl q
  ·obtain ⟨z',h4,h5,_⟩:=key q z h1 h2
   exact .inr ⟨q,z',sz,h4,h5,h3⟩
 refine h.zz (aE:=s.rs.set r y) (Env.le_refl E) (aZ.refl _ w) h.below (fun b _ q=>eY b q) (by simpa using h.len) ?_ ?_ ?_
 ·intro q z e h1 h2
  by_cases hz:z.live
  ·obtain ⟨z',h4,h5,h6⟩:=key q z h1 hz
   have h7:=aM.mono (Env.le_refl E) (aZ.refl _ w) (fun b _ q=>eY b q) (fun _ _ _=>rfl) (h.roots q z' e h4 h2)
   rcases h6 with rfl|⟨rfl,rfl,rfl⟩
   ·exact h7
   ·exact hx e _ h7 eY
  ·cases z with
   | dead=>trivial
   | _=>exact (hz trivial).elim
 ·intro q z b sz h1 h2 h3
  obtain ⟨z',h4,h5,_⟩:=key q z h1 h2
  exact h.cT q z' b sz h4 h5 h3
 ·intro q q' z z' b sz cj h1 lX h2 jf h3 l9
  obtain ⟨u,h4,h5,_⟩:=key q z h1 h2
  obtain ⟨u',h4',h5',_⟩:=key q' z' lX jf
  exact h.eP q q' u u' b sz cj h4 h4' h5 h5' h3 l9
theorem PB {E:Env} {av:Nat→Prop} {base:Nat} {w:World} {e:gr} {el sz n:Nat} {get:Nat→Nat→I} (h:aM E av base w e (.arr el sz n get)):aM E av base w e (.row el sz n (sN get sz 0 n)):=by
 obtain ⟨h1,h2,xs,h3,h4⟩:=h
 refine ⟨h1,h2,xs,h3,az.C8 (by rw [lg,h3.1]) fun q x hx=>?_⟩
 have hq:q<n*sz:=by have:=(List.getElem?_eq_some_iff.1 hx).1; rwa [lg] at this
 have hz:0<sz:=by
  rcases Nat.eq_zero_or_pos sz with e|e
  ·subst e; simp at hq
  ·exact e
 have e1:q/sz*sz+q%sz=q:=by rw [Nat.mul_comm]; exact Nat.div_add_mod q sz
 have hk:q/sz<n:=Nat.div_lt_of_lt_mul (by rw [Nat.mul_comm]; exact hq)
 have hm:q%sz<sz:=Nat.mod_lt _ hz
 obtain ⟨y,h7,h8⟩:=h4 (q/sz) hk (q%sz) hm
 have h9:=kN get sz n 0 (q/sz) (q%sz) hk hm
 rw [e1] at h7 h9
 rw [hx] at h9
 simp only [Nat.zero_add,ak] at h9
 subst h9
 exact ⟨y,h7,h8⟩
theorem OX {E:Env} {av:Nat→Prop} {base:Nat} {w:World} {e:gr} {el sz n:Nat} {l:List C} {get:Nat→Nat→I} (h:aM E av base w e (.row el sz n l)) (hl:∀ i,i<n→∀ j,j<sz→l[i*sz+j]?=some (.im (get i j))):aM E av base w e (.arr el sz n get):=by
 obtain ⟨h1,h2,xs,h3,h4⟩:=h
 refine ⟨h1,h2,xs,h3,fun i hi j hj=>?_⟩
 obtain ⟨y,h5,h6⟩:=h4.nth (i:=i*sz+j) (x:=.im (get i j)) (by rw [bc]; exact hl i hi j hj)
 exact ⟨y,h5,h6⟩
theorem MY (get:Nat→Nat→I) (i j:Nat) (ys:List I):fE get i j ys=zz get i j ys:=by
 funext i' j'
 unfold fE zz
 by_cases h:i'=i∧j≤j'∧j'<j+ys.length
 ·rw [if_pos h]
  obtain ⟨rfl,h2,h3⟩:=h
  have e1:Nat.beq i' i'=true:=cB i'
  have e2:Nat.ble j j'=true:=Nat.ble_eq▸h2
  have e3:Nat.blt j' (j+ys.length)=true:=by simpa [cX] using h3
  rw [e1,e2,e3]; rfl
 ·rw [if_neg h]
  cases hb:(Nat.beq i' i&&(Nat.ble j j'&&Nat.blt j' (j+ys.length))) with
  | false=>rfl
  | true=>
    simp only [cG] at hb
    exact (h ⟨bs hb.1,dL hb.2.1,aF hb.2.2⟩).elim
theorem Pr (n:Nat) (get get':Nat→Nat→I):j0 n get get'=app n get get':=by
 funext i j
 unfold j0 app
 by_cases h:i<n
 ·rw [if_pos h,(by simpa [cX] using h:Nat.blt i n=true)]
 ·rw [if_neg h]
  cases hb:Nat.blt i n with
  | false=>rfl
  | true=>exact (h (aF hb)).elim
theorem kl:∀ ys:List I,(lift ys).length=ys.length
 | []=>rfl
 | y::ys=>by simp [lift,kl ys]
theorem nE:∀ {ys:List I} {j:Nat},j<ys.length→(lift ys)[j]?=some (.im (bu ys j))
 | [],j,h=>by simp at h
 | y::ys,0,h=>rfl
 | y::ys,j+1,h=>by
   have:=nE (ys:=ys) (j:=j) (by simpa using h)
   simpa [lift,bu,nth] using this
structure YZ (get:Nat→Nat→O) (dK:Option (Nat×List Fc)) (get':Nat→Nat→O) (jw:Option (Nat×List Fc)) (i j:Nat) (cs:List C):Prop where
 out:∀ i' j',¬ (i'=i∧j≤j'∧j'<j+cs.length)→iL get' jw i' j'=iL get dK i' j'
 Zm:∀ k,k<cs.length→∃ c x,cs[k]?=some x∧iL get' jw i (j+k)=some c∧(c=.c x∨∃ y,x=.im y∧c=.o (.im y))
 dK:∀ {n sz:Nat},(∀ x,dK=some x→x.1<n∧x.2.length=sz)→∀ x,jw=some x→x.1<n∧x.2.length=sz
theorem xy:∀ {ys:List C} {l r:List Fc} {o:Nat},G2 ys l o=some r→r.length=l.length∧(∀ q,¬ (o≤q∧q<o+ys.length)→r[q]?=l[q]?)∧∀ (k:Nat) (y:C),ys[k]?=some y→r[o+k]?=some (.c y)
 | [],l,r,o,h=>by
   have h:some l=some r:=h
   simp only [ak] at h; subst h
   exact ⟨rfl,fun _ _=>rfl,fun k y hk=>by simp at hk⟩
 | y::ys,l,r,o,h=>by
   have h:(match aY l o with
    | some _=>G2 ys (setAt l o (.c y)) (o+1)
    | none=>none)=some r:=h
   split at h
   case h_2=>simp at h
   rename_i z hz
   rw [bI,bc] at hz
   have ho:o<l.length:=(List.getElem?_eq_some_iff.1 hz).1
   obtain ⟨h1,h2,h3⟩:=xy h
   rw [bm] at h1 h2
   refine ⟨by simpa using h1,fun q hq=>?_,fun k y' hk=>?_⟩
   ·rw [h2 q (by simp at hq; omega),fb,if_neg (by simp at hq; omega)]
   ·cases k with
    | zero=>
      simp only [List.getElem?_cons_zero,ak] at hk
      subst hk
      rw [Nat.add_zero,h2 o (by omega),fb,if_pos rfl,if_pos ho]
    | succ k=>
      have:=h3 k y' (by simpa using hk)
      rw [show o+(k+1)=o+1+k by omega]; exact this
theorem Ny (get:Nat→Nat→O) (i j k:Nat) (ys:List I) (h:k<ys.length):G3 get i j ys i (j+k)=.im (bu ys k):=by
 have h1:(Nat.beq i i&&(Nat.ble j (j+k)&&Nat.blt (j+k) (j+ys.length)))=true:=by
  simp only [cG]
  exact ⟨cB i,by rw [Nat.ble_eq]; omega,by unfold Nat.blt; rw [Nat.ble_eq]; omega⟩
 unfold G3
 rw [h1]
 show O.im (bu ys (j+k-j))=_
 rw [Nat.add_sub_cancel_left]
theorem JP (get:Nat→Nat→O) (i j i' j':Nat) (ys:List I) (h:¬ (i'=i∧j≤j'∧j'<j+ys.length)):G3 get i j ys i' j'=get i' j':=by
 have h1:(Nat.beq i' i&&(Nat.ble j j'&&Nat.blt j' (j+ys.length)))=false:=by
  rw [Bool.eq_false_iff]
  intro q
  simp only [cG] at q
  exact h ⟨Nat.eq_of_beq_eq_true q.1,Nat.le_of_ble_eq_true q.2.1,aF q.2.2⟩
 unfold G3
 rw [h1]
theorem sv {el sz n size r i j:Nat} {get:Nat→Nat→O} {dK:Option (Nat×List Fc)} {cs:List C} {e:bP} (eT:cs.length=size) (hf:∀ x,dK=some x→Nat.beq i x.1=false) (h:mr el sz n get dK size r i j cs=some e) :
  ∃ get' jw,e=.wr none [(r,.gy el sz n get' jw)]∧j+size≤sz∧i<n∧YZ get dK get' jw i j cs:=by
 unfold mr at h
 split at h
 case h_2=>simp at h
 rename_i ys hys
 obtain ⟨h1,h⟩:=Bool.aq h
 obtain ⟨h2,h⟩:=Bool.aq h
 simp only [ak] at h; subst h
 have him:=o6 hys
 have hl:ys.length=cs.length:=by rw [him,kl]
 have nf:∀ (g:Nat→Nat→O) (j:Nat),iL g dK i j=some (.o (g i j)):=fun g j=>by
  unfold iL
  cases dK with
  | none=>rfl
  | some x=>simp only [hf x rfl]
 refine ⟨_,dK,rfl,dL h1,aF h2,⟨fun i' j' hn=>?_,fun k hk=>?_,fun hq=>hq⟩⟩
 ·rw [← hl] at hn
  unfold iL
  rw [JP get i j i' j' ys hn]
 ·have hk2:k<ys.length:=by omega
  refine ⟨_,_,gj hk,nf _ _,.inr ⟨bu ys k,?_,by rw [Ny _ _ _ _ _ hk2]⟩⟩
  have:(lift ys)[k]?=some (.im (bu ys k)):=by
   have:=nE (ys:=ys) (j:=k) hk2
   exact this
  rw [← him,gj hk] at this
  simpa using this
theorem Cq {el sz n size r i j:Nat} {get:Nat→Nat→O} {dK:Option (Nat×List Fc)} {cs:List C} {e:bP} (eT:cs.length=size) (h:oE el sz n get dK size r i j cs=some e) :
  ∃ get' jw,e=.wr none [(r,.gy el sz n get' jw)]∧j+size≤sz∧(i<n∨∃ x,dK=some x∧i=x.1)∧YZ get dK get' jw i j cs:=by
 unfold oE at h
 split at h
 ·obtain ⟨get',jw,h1,h2,h3,h4⟩:=sv eT (fun x hx=>by cases hx) h
  exact ⟨get',jw,h1,h2,.inl h3,h4⟩
 ·rename_i x
  cases hb:Nat.beq i x.1 with
  | false=>
    rw [hb] at h
    obtain ⟨get',jw,h1,h2,h3,h4⟩:=sv eT (fun y hy=>by simp only [ak] at hy; subst hy; exact hb) h
    exact ⟨get',jw,h1,h2,.inl h3,h4⟩
  | true=>
    rw [hb] at h
    have h:(match G2 cs x.2 j with
     | some l=>(Bool.rec none (some (.wr none [(r,.gy el sz n get (some (x.1,l)))])) (Nat.ble (j+size) sz):Option bP)
     | none=>none)=some e:=h
    split at h
    case h_2=>simp at h
    rename_i l hl
    obtain ⟨h1,h⟩:=Bool.aq h
    simp only [ak] at h; subst h
    obtain ⟨p1,p2,p3⟩:=xy hl
    have hi:=Nat.eq_of_beq_eq_true hb
    refine ⟨get,_,rfl,dL h1,.inr ⟨x,rfl,hi⟩,⟨fun i' j' hn=>?_,fun k hk=>?_,fun hq y hy=>?_⟩⟩
    ·unfold iL
     cases hb2:Nat.beq i' x.1 with
     | false=>simp only [hb2]
     | true=>
       have iq:=Nat.eq_of_beq_eq_true hb2
       simp only [hb2,bc]
       exact p2 j' (fun q=>hn ⟨by rw [iq,hi],q.1,q.2⟩)
    ·refine ⟨.c cs[k],cs[k],gj hk,?_,.inl rfl⟩
     unfold iL
     simp only [hb,bc]
     exact p3 k _ (gj hk)
    ·simp only [ak] at hy; subst hy
     obtain ⟨q1,q2⟩:=hq x rfl
     exact ⟨q1,p1.trans q2⟩
theorem xH (bz:dk P T) (h:R T N aw w0 sp s a w E) (hn:bA s.sl) {dst:Option Tmp} {t:TypeId} {x v:Operand} {e:bP} (ef:gh T s dst t x v=some e) (b:Nat) :
  (∃ l,e=.cp l)∨dst=none∧∃ w',(Instr.storeAt t (a.eval x) (a.eval v)).run P w=.ok () w'∧hJ T N aw w0 sp s a w E b e undef w' E:=by
 unfold gh at ef
 split at ef
 ·simp at ef
 split at ef
 case h_2=>simp at ef
 rename_i y d hy hd
 have hv:=h.bO hn hd
 split at ef
 case h_2=>simp at ef
 rename_i cs hcs
 obtain ⟨eT,ef⟩:=Bool.aq ef
 split at ef
 case h_2=>simp at ef
 rename_i r i j hx
 have hx:=h.bO hn (bL hx)
 have hcv:=kJ hv hcs
 unfold kB at ef
 split at ef
 ·rename_i l hl
  refine .inr ⟨rfl,?_⟩
  rw [bI] at hl
  split at ef
  case h_2=>simp at ef
  split at ef
  case h_2=>simp at ef
  rename_i l' sR
  simp only [ak] at ef
  subst ef
  have hr:r<s.rs.length:=by rw [bc] at hl; exact (List.getElem?_eq_some_iff.1 hl).1
  obtain ⟨s',w',h1,h2,h3⟩:=sh (t:=t) bz h hx hv (K:=fun s'=>s'={ s with rs:=setAt s.rs r (.box l') }) (by
   simp only [yc,hy,hcs,eT,hl,sR])
  subst h3
  refine ⟨w',h1,kX.refl _ _,?_,fun d hd=>by simp [dt] at hd⟩
  show R T N aw w0 sp { s with rs:=place r (.box l') s.rs } a w' E
  rw [gz _ hr,← bm]
  exact h2
 ·rename_i el asz n l hl
  refine .inr ⟨rfl,?_⟩
  rw [bI,bc] at hl
  split at ef
  case h_2=>simp at ef
  rename_i l' sR
  simp only [ak] at ef
  subst ef
  have hy:=bz.ty _ _ hy
  simp only [cG] at eT
  obtain ⟨eT,fg⟩:=eT
  have eT:=bs eT
  have fg:=aF fg
  have sP:(a.eval v).cells.size=y.size:=by have:=hcv.length; rw [eT] at this; simpa using this.symm
  have hr:r<s.rs.length:=(List.getElem?_eq_some_iff.1 hl).1
  obtain ⟨b',sz,⟨nW,hE⟩,hpx⟩:=hx
  obtain ⟨q1,q2,xs,q3,q4⟩:=h.roots r _ _ hl hE
  have q1:sz=asz:=q1
  have q2:some b'=nW.1.ownBlock:=q2
  subst q1
  obtain ⟨q5,q6⟩:=q3
  have q6:(nW.1=.slice none 0 0∧n=0)∨∃ g cap cur,nW.1=.slice (some ⟨g,0,none⟩) n cap∧w0.base≤g∧w.heap[g]?=some (.cells cur el (0,0))∧n≤cap∧cap≤maxLen∧cur.size=cap*sz∧cur.toList.take (n*sz)=xs:=q6
  rcases q6 with ⟨q6,_⟩|⟨g',cap,cur,q6,q7,q8,q9,q10,q11,q12⟩
  ·rw [q6] at q2; simp [Value.ownBlock] at q2
  rw [q6] at q2
  simp only [Value.ownBlock,ak] at q2
  subst q2
  have hfit0:i*sz+j+y.size≤n*sz:=by
   have hlen:=q4.length
   rcases qq sR with h1|h1
   ·rw [eT] at h1; omega
   ·subst h1; simp at eT; omega
  have hcap:n*sz≤cap*sz:=fA _ q9
  have hrun:=gH (w:=w) hy (o:=i*sz+j) q8 sP (by omega) (hcv.qB)
  rw [hpx]
  refine ⟨_,hrun,kX.refl _ _,?_,fun d hd=>by simp [dt] at hd⟩
  show R T N aw w0 sp { s with rs:=place r _ s.rs } a _ E
  rw [gz _ hr]
  have hl2:(a.eval v).cells.toList.length=y.size:=by simpa using sP
  have hk:aZ (AV aw s.rs E) w (w.setRow b' (cur.toList.take (i*sz+j)++(a.eval v).cells.toList++cur.toList.drop (i*sz+j+y.size)).toArray):=
    ⟨by simp,fun k hk hn=>setRow_other w _ k _ fun e=>by subst e; exact hn (.inr ⟨r,_,sz,hl,trivial,a7.own ⟨nW,hE⟩⟩)⟩
  have hp:=VC sR q4 hcv
  rw [hl2,← q12,← K9 cur.toList _ (i*sz+j) y.size (n*sz) hl2 hfit0 (by simp; omega)] at hp
  refine h.turn hl trivial hE (by simp) (fun k hk=>setRow_other w _ k _ hk) ⟨rfl,rfl,rfl⟩ ⟨rfl,by rw [q6]; rfl,_,⟨?_,.inr ⟨b',cap,_,q6,q7,setRow_heap w b' cur _ el (0,0) q8,q9,q10,?_,rfl⟩⟩,?_⟩
  ·simp [hl2]
   omega
  ·simp [hl2]
   omega
  ·exact hp.mono fun _ _ q=>aU.mono (Env.le_refl E) hk (fun _ _ q=>q) q
 ·rename_i el asz n get hl
  rw [bI] at hl
  split at ef
  ·rename_i ys hys
   refine .inr ⟨rfl,?_⟩
   obtain ⟨h1,ef⟩:=Bool.aq ef
   obtain ⟨h2,ef⟩:=Bool.aq ef
   simp only [ak] at ef
   subst ef
   have hr:r<s.rs.length:=by rw [bc] at hl; exact (List.getElem?_eq_some_iff.1 hl).1
   obtain ⟨s',w',h3,h4,h5⟩:=sh (t:=t) bz h hx hv (K:=fun s'=>s'={ s with rs:=setAt s.rs r (.arr el asz n (zz get i j ys)) }) (by
    simp only [yc,hy,hcs,eT,hl,hys,h1]
    exact ⟨aF h2,trivial⟩)
   subst h5
   refine ⟨w',h3,kX.refl _ _,?_,fun d hd=>by simp [dt] at hd⟩
   show R T N aw w0 sp { s with rs:=place r (.arr el asz n (fE get i j ys)) s.rs } a w' E
   rw [gz _ hr,← bm,MY]
   exact h4
  ·unfold mB at ef
   split at ef
   ·simp only [ak] at ef
    exact .inl ⟨_,ef.symm⟩
   ·simp at ef
 ·rename_i el asz n get dK hl
  refine .inr ⟨rfl,?_⟩
  rw [bI,bc] at hl
  have hy:=bz.ty _ _ hy
  simp only [cG] at eT
  obtain ⟨eT,fg⟩:=eT
  have eT:=bs eT
  obtain ⟨get',jw,rfl,hjs,hin,mg⟩:=Cq eT ef
  have hr:r<s.rs.length:=(List.getElem?_eq_some_iff.1 hl).1
  obtain ⟨b',sz,⟨nW,hE⟩,hpx⟩:=hx
  obtain ⟨q1,q2,xs,q3,Ks,hK,hf,q4⟩:=h.roots r _ _ hl hE
  have q1:sz=asz:=q1
  have q2:some b'=nW.1.ownBlock:=q2
  have hK:GJ nW.2 nW.1.ownBlock Ks:=hK
  subst q1
  have sP:(a.eval v).cells.size=y.size:=by have:=hcv.length; rw [eT] at this; simpa using this.symm
  obtain ⟨q5,q6⟩:=q3
  have q6:(nW.1=.slice none 0 0∧n=0)∨∃ g cap cur,nW.1=.slice (some ⟨g,0,none⟩) n cap∧w0.base≤g∧w.heap[g]?=some (.cells cur el (0,0))∧n≤cap∧cap≤maxLen∧cur.size=cap*sz∧cur.toList.take (n*sz)=xs:=q6
  rcases q6 with ⟨q6,_⟩|⟨g',cap,cur,q6,q7,q8,q9,q10,q11,q12⟩
  ·rw [q6] at q2; simp [Value.ownBlock] at q2
  have HO:nW.1.ownBlock=some b':=q2.symm
  rw [q6] at q2
  simp only [Value.ownBlock,ak] at q2
  subst q2
  have hi:i<n:=hin.elim id fun ⟨x,g1,g2⟩=>g2▸(hf x g1).1
  have hjs:j+y.size≤sz:=hjs
  have hfit0:i*sz+j+y.size≤n*sz:=by
   have:=fA sz (show i+1≤n by omega)
   rw [Nat.add_mul,Nat.one_mul] at this
   omega
  have hcap:n*sz≤cap*sz:=fA _ q9
  have hrun:=gH (w:=w) hy (o:=i*sz+j) q8 sP (by omega) (hcv.qB)
  rw [hpx]
  refine ⟨_,hrun,kX.refl _ _,?_,fun d hd=>by simp [dt] at hd⟩
  show R T N aw w0 sp { s with rs:=place r _ s.rs } a _ E
  rw [gz _ hr]
  have hl2:(a.eval v).cells.toList.length=y.size:=by simpa using sP
  have hk:aZ (AV aw s.rs E) w (w.setRow b' (cur.toList.take (i*sz+j)++(a.eval v).cells.toList++cur.toList.drop (i*sz+j+y.size)).toArray):=
    ⟨by simp,fun k hk hn=>setRow_other w _ k _ fun e=>by subst e; exact hn (.inr ⟨r,_,sz,hl,trivial,a7.own ⟨nW,hE⟩⟩)⟩
  refine h.turn hl trivial hE (by simp) (fun k hk=>setRow_other w _ k _ hk) ⟨rfl,rfl,rfl⟩ ⟨rfl,by rw [q6]; rfl,_,⟨?_,.inr ⟨b',cap,_,q6,q7,setRow_heap w b' cur _ el (0,0) q8,q9,q10,?_,rfl⟩⟩,Ks,hK,mg.dK hf,?_⟩
  ·simp [hl2]
   omega
  ·simp [hl2]
   omega
  ·intro i' iq j' hj'
   have hq:i'*sz+j'<n*sz:=by
    have:=fA sz (show i'+1≤n by omega)
    rw [Nat.add_mul,Nat.one_mul] at this
    omega
   have hxs:∀ q,q<n*sz→((cur.toList.take (i*sz+j)++(a.eval v).cells.toList++cur.toList.drop (i*sz+j+y.size)).toArray.toList.take (n*sz))[q]?=if i*sz+j≤q∧q<i*sz+j+y.size then (a.eval v).cells.toList[q-(i*sz+j)]? else xs[q]?:=by
    intro q hq
    rw [cN,if_pos hq,← q12,cN,if_pos hq]
    have h1:(cur.toList.take (i*sz+j)).length=i*sz+j:=by rw [List.length_take,Array.length_toList,q11]; omega
    split
    ·rename_i hc
     rw [dQ (by rw [List.length_append,h1,hl2]; exact hc.2),gG (by rw [h1]; exact hc.1),h1]
    ·rename_i hc
     rcases Nat.lt_or_ge q (i*sz+j) with dp|hge
     ·rw [dQ (by rw [List.length_append,h1]; omega),dQ (by rw [h1]; exact dp),cN,if_pos dp]
     ·have hge2:i*sz+j+y.size≤q:=by omega
      rw [gG (by rw [List.length_append,h1,hl2]; exact hge2),List.getElem?_drop,List.length_append,h1,hl2]
      congr 1; omega
   have hs:∀ b,Ks i' j' b→(w.setRow b' (cur.toList.take (i*sz+j)++(a.eval v).cells.toList++cur.toList.drop (i*sz+j+y.size)).toArray).heap[b]?=w.heap[b]?:=fun b hb=>setRow_other w _ b _ fun e=>by
    subst e
    exact hK.ne _ _ _ hb HO
   by_cases hc:i'=i∧j≤j'∧j'<j+y.size
   ·obtain ⟨rfl,h2,h3⟩:=hc
    obtain ⟨c,x,g1,g2,g3⟩:=mg.Zm (j'-j) (by rw [eT]; omega)
    obtain ⟨u,g4,g5⟩:=hcv.nth (i:=j'-j) (x:=x) (by rw [bc]; exact g1)
    refine ⟨u,c,?_,by rw [show j+(j'-j)=j' by omega] at g2; exact g2,?_⟩
    ·rw [hxs _ hq,if_pos (by omega),show i'*sz+j'-(i'*sz+j)=j'-j by omega]; exact g4
    ·have g6:=aU.mono (Env.le_refl E) hk (fun _ _ q=>q) g5
     rcases g3 with rfl|⟨z,rfl,rfl⟩
     ·exact g6
     ·exact g6
   ·obtain ⟨u,c,g1,g2,g3⟩:=q4 i' iq j' hj'
    refine ⟨u,c,?_,by rw [mg.out i' j' (by rw [eT]; exact hc)]; exact g2,ja.mono (Env.le_refl E) hk (fun _ _ q=>q) hs g3⟩
    rw [hxs _ hq,if_neg]
    ·exact g1
    ·rintro ⟨h1,h2⟩
     refine hc ?_
     have hii:i'=i:=by
      rcases Nat.lt_trichotomy i' i with h3|h3|h3
      ·have:=fA sz (show i'+1≤i by omega)
       rw [Nat.add_mul,Nat.one_mul] at this
       omega
      ·exact h3
      ·have:=fA sz (show i+1≤i' by omega)
       rw [Nat.add_mul,Nat.one_mul] at this
       omega
     subst hii
     omega
 ·simp at ef
theorem R.GO (h:R T N aw w0 sp s a w E) {b:Nat} (hf:j9 s E b) {l:List C} {cs:Array Value} (hl:az (aU E (AV aw s.rs E) w) l cs.toList) (t:TypeId) :
  ∃ E',hJ T N aw w0 sp s a w E b (.wr (some (.c (.rt b 0 0))) [(b,.box l)]) (.pointer (some ⟨w.heap.size,0,none⟩)) (w.alloc (.cells cs t)) E':=by
 obtain ⟨E',h1,h2,h3,h4⟩:=h.make hf (dead:=none) (x:=.box l) (e:=(some w.heap.size,kF,l.length)) (w':=w.alloc (.cells cs t)) (row:=none) (World.grownBy_alloc w _ none) (fun k hk=>by cases hk)
  (fun k hk=>by simp at hk; omega) (fun k hk=>by simp at hk ⊢; omega) (fun E' cF hE eY _ hk=>⟨w.heap.size,cs,t,rfl,rfl,heap_alloc_new w _,hl.mono fun _ _ q=>aU.mono hE hk eY q⟩)
 refine ⟨E',h3,h1,fun d hd=>?_⟩
 simp only [dt,ak] at hd
 subst hd
 exact ⟨w.heap.size,l.length,⟨kF,h2⟩,by simp⟩
theorem EI (h:R T N aw w0 sp s a w E) (hn:bA s.sl) {b:Nat} (hf:j9 s E b) {x:Operand} (t:TypeId) {e:bP} (ef:sQ b s x=some e) :
  ∃ E',hJ T N aw w0 sp s a w E b e (.pointer (some ⟨w.heap.size,0,none⟩)) (w.alloc (.cells (a.eval x).cells t)) E':=by
 unfold sQ at ef
 split at ef
 case h_2=>simp at ef
 rename_i d hd
 split at ef
 case h_2=>simp at ef
 rename_i l hl
 simp only [ak] at ef
 subst ef
 exact h.GO hf (kJ (h.bO hn hd) hl) t
theorem Aa (bz:dk P T) (h:R T N aw w0 sp s a w E) {b:Nat} (hf:j9 s E b) {t:TypeId} {e:bP} (ef:jR T b t=some e) :
  ∃ v w' E',(∀ o:Oper,o.op=.alloc t→(execOp a.eval o).run P w=.ok (.value v) w')∧hJ T N aw w0 sp s a w E b e v w' E':=by
 unfold jR at ef
 split at ef
 case h_2=>simp at ef
 rename_i y hy
 have hy:=bz.ty _ _ hy
 split at ef
 case h_2=>simp at ef
 rename_i l hl
 simp only [ak] at ef
 subst ef
 obtain ⟨i,hi,_,_,hz⟩:=hy.full
 obtain ⟨E',h1⟩:=h.GO hf (cs:=y.zero.cells) (jO hl) t
 refine ⟨_,_,E',fun o ho=>?_,h1⟩
 have hz0:(zeroValue t).run P w=.ok y.zero w:=by simp [zeroValue,typeInfo,hi,hz]
 simp only [execOp,ho,Instr.alloc,Sem.run_bind,hz0,Result.andThen_ok]
 rfl
theorem yh (h:R T N aw w0 sp s a w E) {b:Nat} (hf:j9 s E b) {t:TypeId} {r:Option Operand} {e:bP} (ef:jP T b t r=some e) :
  r=none∧∃ E',hJ T N aw w0 sp s a w E b e (.map (some w.heap.size)) (w.alloc (.map #[] 0)) E':=by
 unfold jP at ef
 split at ef
 case h_2=>simp at ef
 simp only [ak] at ef
 subst ef
 refine ⟨rfl,?_⟩
 obtain ⟨E',h1,h2,h3,h4⟩:=h.make hf (dead:=none) (x:=.set []) (e:=(some w.heap.size,kF,0)) (w':=w.alloc (.map #[] 0)) (row:=none) (World.grownBy_alloc w _ none) (fun k hk=>by cases hk)
  (fun k hk=>by simp at hk; omega) (fun k hk=>by simp at hk ⊢; omega) (fun E' cF hE eY _ hk=>⟨w.heap.size,#[],0,rfl,heap_alloc_new w _,.nil⟩)
 refine ⟨E',h3,h1,fun d hd=>?_⟩
 simp only [dt,ak] at hd
 subst hd
 exact ⟨w.heap.size,0,⟨kF,h2⟩,rfl⟩
theorem A5 (bz:dk P T) (h:R T N aw w0 sp s a w E) (hn:bA s.sl) {dst:Option Tmp} {t:TypeId} {m k v:Operand} {e:bP} (ef:kO T s dst t m k v=some e) (b:Nat) :
  dst=none∧∃ w',(Instr.mapUpdate t (a.eval m) (a.eval k) (a.eval v)).run P w=.ok () w'∧hJ T N aw w0 sp s a w E b e undef w' E:=by
 unfold kO at ef
 split at ef
 ·simp at ef
 refine ⟨rfl,?_⟩
 obtain ⟨hk,ef⟩:=Bool.aq ef
 unfold H7 at hk
 split at hk
 case h_2=>simp at hk
 rename_i lu
 have lu:=(bz.ty _ _ lu).map rfl
 split at hk
 case h_2=>simp at hk
 rename_i wB _
 have wB:=(bz.ty _ _ wB).int rfl
 split at ef
 case h_2=>simp at ef
 rename_i r n hm hk hv
 obtain ⟨b',sz,⟨hh,hE⟩,hm⟩:=h.bO hn (bL hm)
 have hk:=(h.bO hn (dB hk)).1
 have hv:=(h.bO hn (eu hv)).1
 split at ef
 case h_2=>simp at ef
 rename_i l hl
 rw [bI,bc] at hl
 simp only [ak] at ef
 subst ef
 obtain ⟨w',h1,h2⟩:=GW h hl hE lu wB
 rw [hm,hk,hv]
 refine ⟨w',h1,kX.refl _ _,?_,fun d hd=>by simp [dt] at hd⟩
 show R T N aw w0 sp { s with rs:=place r _ s.rs } a _ E
 rw [gz _ (List.getElem?_eq_some_iff.1 hl).1]
 exact h2
theorem R.Ad (h:R T N aw w0 sp s a w E) {b:Nat} (hf:j9 s E b) {el sz n:Nat} {l:List C} {w':World} {hd:Value} {xs:List Value} {row:Option Nat} {dead:Option Nat}
  (hg:w.grownBy w' row) (eU:w'.ownsRow w0.base el sz hd n xs)
  (lN:∀ k,row=some k→∃ r x q,dead=some r∧s.rs[r]?=some x∧x.live∧a7 E r k q)
  (ik:∀ k,hd.ownBlock=some k→some k=row∨w.heap.size≤k)
  (hl:az (aU E (AV aw s.rs E) w) l xs) :
  ∃ E',R T N aw w0 sp { s with rs:=place b (.row el sz n l) (kill dead s.rs) } a w' E'∧kX b E E'∧aJ E' (AV aw (place b (.row el sz n l) (kill dead s.rs)) E') w' (.c (.sa b n)) hd:=by
 obtain ⟨E',h1,h2,h3,h4⟩:=h.make hf (dead:=dead) (x:=.row el sz n l) (e:=(hd.ownBlock,lS hd,sz)) (w':=w') (row:=row) hg lN ik (fun k hk=>by
   rcases eU.2 with ⟨h1,_⟩|⟨g,cap,cur,h1,h2,h3,_⟩
   ·have hk:hd.ownBlock=some k:=hk
    rw [h1] at hk; simp [Value.ownBlock] at hk
   ·have hk:hd.ownBlock=some k:=hk
    rw [h1] at hk
    simp only [Value.ownBlock,ak] at hk
    subst hk
    exact (Array.getElem?_eq_some_iff.1 h3).1)
  (fun E' cF hE eY _ hk=>⟨rfl,rfl,xs,eU,hl.mono fun _ _ q=>aU.mono hE hk eY q⟩)
 refine ⟨E',h1,h3,?_⟩
 rcases eU.2 with ⟨q5,q6⟩|⟨g,cap,cur,q5,_⟩
 ·exact ⟨_,none,0,0,h2,q5,by omega,by rw [q5,q6]⟩
 ·exact ⟨_,_,n,cap,h2,q5,bf _,q5⟩
theorem R.sY (h:R T N aw w0 sp s a w E) {b:Nat} (hf:j9 s E b) {el sz n:Nat} {get:Nat→Nat→I} {w':World} {hd:Value} {xs:List Value} {row:Option Nat} {dead:Option Nat}
  (hg:w.grownBy w' row) (eU:w'.ownsRow w0.base el sz hd n xs)
  (lN:∀ k,row=some k→∃ r x q,dead=some r∧s.rs[r]?=some x∧x.live∧a7 E r k q)
  (ik:∀ k,hd.ownBlock=some k→some k=row∨w.heap.size≤k)
  (hl:∀ i,i<n→∀ j,j<sz→∃ x,xs[i*sz+j]?=some x∧cA (AV aw s.rs E) w (get i j) x) :
  ∃ E',R T N aw w0 sp { s with rs:=place b (.arr el sz n get) (kill dead s.rs) } a w' E'∧kX b E E'∧aJ E' (AV aw (place b (.arr el sz n get) (kill dead s.rs)) E') w' (.c (.sa b n)) hd:=by
 obtain ⟨E',h1,h2,h3,h4⟩:=h.make hf (dead:=dead) (x:=.arr el sz n get) (e:=(hd.ownBlock,lS hd,sz)) (w':=w') (row:=row) hg lN ik (fun k hk=>by
   rcases eU.2 with ⟨h1,_⟩|⟨g,cap,cur,h1,h2,h3,_⟩
   ·have hk:hd.ownBlock=some k:=hk
    rw [h1] at hk; simp [Value.ownBlock] at hk
   ·have hk:hd.ownBlock=some k:=hk
    rw [h1] at hk
    simp only [Value.ownBlock,ak] at hk
    subst hk
    exact (Array.getElem?_eq_some_iff.1 h3).1)
  (fun E' cF hE eY _ hk=>⟨rfl,rfl,xs,eU,fun i hi j hj=>by
   obtain ⟨x,q1,q2⟩:=hl i hi j hj
   exact ⟨x,q1,cA.mono hk eY q2⟩⟩)
 refine ⟨E',h1,h3,?_⟩
 rcases eU.2 with ⟨q5,q6⟩|⟨g,cap,cur,q5,_⟩
 ·exact ⟨_,none,0,0,h2,q5,by omega,by rw [q5,q6]⟩
 ·exact ⟨_,_,n,cap,h2,q5,bf _,q5⟩
theorem R.Oc (h:R T N aw w0 sp s a w E) {b:Nat} (hf:j9 s E b) {el sz n:Nat} {get:Nat→Nat→O} {dK:Option (Nat×List Fc)} {w':World} {hd:Value} {xs:List Value} {row:Option Nat} {dead:Option Nat} {K:Nat→Prop} {Ks:Nat→Nat→Nat→Prop}
  (hg:w.grownBy w' row) (eU:w'.ownsRow w0.base el sz hd n xs)
  (lN:∀ k,row=some k→∃ r x q,dead=some r∧s.rs[r]?=some x∧x.live∧a7 E r k q)
  (ik:∀ k,hd.ownBlock=some k→some k=row∨w.heap.size≤k)
  (hK:∀ k,K k→∃ r x q,dead=some r∧s.rs[r]?=some x∧x.live∧di E r k q)
  (hP:GJ K hd.ownBlock Ks) (YY:∀ x,dK=some x→x.1<n∧x.2.length=sz) (tn:∀ i j b,Ks i j b→w'.heap[b]?=w.heap[b]?)
  (hl:∀ i,i<n→∀ j,j<sz→∃ x c,xs[i*sz+j]?=some x∧iL get dK i j=some c∧ja E (AV aw s.rs E) w0.base w c (Ks i j) x) :
  ∃ E',R T N aw w0 sp { s with rs:=place b (.gy el sz n get dK) (kill dead s.rs) } a w' E'∧kX b E E'∧aJ E' (AV aw (place b (.gy el sz n get dK) (kill dead s.rs)) E') w' (.c (.sa b n)) hd:=by
 obtain ⟨E',h1,h2,h3,h4⟩:=h.make hf (dead:=dead) (x:=.gy el sz n get dK) (e:=(hd.ownBlock,(hd,K),sz)) (w':=w') (row:=row) hg lN ik (fun k hk=>by
   rcases eU.2 with ⟨h1,_⟩|⟨g,cap,cur,h1,h2,h3,_⟩
   ·have hk:hd.ownBlock=some k:=hk
    rw [h1] at hk; simp [Value.ownBlock] at hk
   ·have hk:hd.ownBlock=some k:=hk
    rw [h1] at hk
    simp only [Value.ownBlock,ak] at hk
    subst hk
    exact (Array.getElem?_eq_some_iff.1 h3).1)
  (fun E' cF hE eY _ hk=>⟨rfl,rfl,xs,eU,Ks,hP,YY,fun i hi j hj=>by
   obtain ⟨x,c,q1,q2,q3⟩:=hl i hi j hj
   exact ⟨x,c,q1,q2,ja.mono hE hk eY (tn i j) q3⟩⟩) (fun k q=>.inl (hK k q))
 refine ⟨E',h1,h3,?_⟩
 rcases eU.2 with ⟨q5,q6⟩|⟨g,cap,cur,q5,_⟩
 ·exact ⟨_,none,0,0,h2,q5,by omega,by rw [q5,q6]⟩
 ·exact ⟨_,_,n,cap,h2,q5,bf _,q5⟩
theorem qx (hn:bA s.sl) {sz:Nat}:∀ {ps:List (Nat×Operand)} {l r:List C},mh sz s.sl ps l=some r→vn sz s [] ps l=some r
 | [],l,r,e=>e
 | p::ps,l,r,e=>by
   obtain ⟨k,x⟩:=p
   have e:(match Go.V.bO s.sl x with
    | some d=>match d.cells with
      | some cs=>(Bool.rec none (match put l (k*sz) cs with
        | some l'=>mh sz s.sl ps l'
        | none=>none) (Nat.beq cs.length sz&&Nat.blt 0 sz):Option (List C))
      | none=>none
    | none=>none)=some r:=e
   split at e
   case h_2=>simp at e
   rename_i d hd
   split at e
   case h_2=>simp at e
   rename_i cs hcs
   obtain ⟨h1,e⟩:=Bool.aq e
   split at e
   case h_2=>simp at e
   rename_i l' sR
   simp only [vn,dm hn hd,hcs,h1,sR]
   exact qx hn e
theorem Hx (bz:dk P T) (h:R T N aw w0 sp s a w E) (hn:bA s.sl) {b:Nat} (hf:j9 s E b) {t n:Nat} {ps:Array (Nat×Operand)} {e:bP} {cp:Bool} (ef:H9 T b s cp t n ps.toList=some e) :
  ∃ v w' E',(Instr.buildSlice t n (ps.map fun (i,x)=>(i,a.eval x))).run P w=.ok v w'∧hJ T N aw w0 sp s a w E b e v w' E':=by
 unfold H9 at ef
 split at ef
 case h_2=>simp at ef
 rename_i ub uA z0 el qE
 have qE:=bz.ty _ _ qE
 split at ef
 case h_2=>simp at ef
 rename_i y hy
 have hy:=bz.ty _ _ hy
 split at ef
 case h_2=>simp at ef
 rename_i z hz
 split at ef
 case h_2=>simp at ef
 rename_i l hl
 obtain ⟨hb,ef⟩:=Bool.aq ef
 simp only [ak] at ef
 subst ef
 simp only [cG] at hb
 have fg:=aF hb.1
 have D4:=dL hb.2
 have th:z.length=y.size:=by
  have:=(jO (E:=E) (av:=AV aw s.rs E) (w:=w) hz).length
  rw [this]
  simpa using hy.zs
 obtain ⟨cs,h1,h2,h3⟩:=uQ bz h (bt.nil a) qE rfl hy hz (qx hn hl) th fg D4
 have hm:n≤maxLen:=by
  have:n≤n*y.size:=Nat.le_mul_of_pos_right _ fg
  simp only [maxLen]; omega
 have eU:=World.ownsRow_lit (e:=el) (size:=y.size) (base:=w0.base) w cs n h.size_le hm (by rw [← h3,h2.length]; simp)
 rcases iV cp b el y.size n l with hc|⟨is,hi,hc⟩|⟨vR,hc⟩
 case inr.inr=>
  rw [hc]
  subst vR
  obtain ⟨E',h4,h5,h6⟩:=h.sY hf (dead:=none) (row:=none) (n:=0) (get:=lJ) (World.grownBy_alloc w _ none) eU (fun k hk=>by cases hk) (fun k hk=>by simp [Value.ownBlock] at hk; right; omega) (fun i hi=>by omega)
  refine ⟨_,_,E',h1,h5,h4,fun d hd=>?_⟩
  simp only [dt,ak] at hd
  subst hd
  exact h6
 case inr.inl=>
  rw [hc]
  have hb:=gU w (.cells cs el)
  refine ⟨_,_,E,h1,kX.refl _ _,h.grown hb,fun d hd=>?_⟩
  simp only [dt,ak] at hd
  subst hd
  have him:=o6 hi
  subst him
  have hx:=td h2
  have hxl:=hx.length
  have hE:=(h.grown hb)
  refine ⟨_,n,rfl,bf _,hm,fun h0=>⟨_,rfl,rfl,fun q=>?_,by rw [World.size_alloc]; exact Nat.lt_succ_self _,fun i iq j hj=>?_⟩⟩
  ·have:w.heap.size<w.heap.size:=by
    rcases q with q|⟨r,x,sz,g1,g2,g3⟩
    ·exact h.iQ q
    ·exact (h.cT r x _ sz g1 g2 g3).2
   omega
  ·have dp:i*y.size+j<n*y.size:=by
    have:=fA y.size (show i+1≤n by omega)
    rw [Nat.add_mul,Nat.one_mul] at this
    omega
   obtain ⟨x,h5,h6⟩:=nk hx (q:=i*y.size+j) (by rw [hxl,← h2.length,h3]; exact dp)
   refine ⟨x,?_,cA.mono (aZ.kW hb) (fun _ _ q=>q) h6⟩
   rw [Addr.add_mid,cy (heap_alloc_new w _)]
   simpa using h5
 rw [hc]
 obtain ⟨E',h4,h5,h6⟩:=h.Ad hf (dead:=none) (row:=none) (n:=n) (l:=l) (World.grownBy_alloc w _ none) eU (fun k hk=>by cases hk) (fun k hk=>by simp [Value.ownBlock] at hk; right; omega) h2
 refine ⟨_,_,E',h1,h5,h4,fun d hd=>?_⟩
 simp only [dt,ak] at hd
 subst hd
 exact h6
theorem Cj (bz:dk P T) (h:R T N aw w0 sp s a w E) (hn:bA s.sl) {b:Nat} (hf:j9 s E b) {t:TypeId} {l c:Operand} {e:bP} (ef:kY T b s t l c=some e) :
  ∃ v w' E',(Instr.makeSlice t (a.eval l) (a.eval c)).run P w=.ok v w'∧hJ T N aw w0 sp s a w E b e v w' E':=by
 unfold kY at ef
 split at ef
 case h_2=>simp at ef
 rename_i ub uA z0 el qE
 have hu:=(bz.ty _ _ qE).slice rfl
 split at ef
 case h_2=>simp at ef
 rename_i y hy
 have hy:=bz.ty _ _ hy
 split at ef
 case h_2=>simp at ef
 rename_i z hz
 split at ef
 case h_2=>simp at ef
 rename_i n m hl hc
 split at ef
 case h_2=>simp at ef
 rename_i is his
 obtain ⟨fg,ef⟩:=Bool.aq ef
 obtain ⟨hb,ef⟩:=Bool.aq ef
 obtain ⟨h1,ef⟩:=Bool.aq ef
 simp only [ak] at ef
 subst ef
 simp only [cG] at hb
 have h1:=bs h1
 subst h1
 have fg:=aF fg
 have hm:=dL hb.1
 have hby:=dL hb.2
 have hl:=(h.bO hn (dB hl)).1
 have hc:=(h.bO hn (dB hc)).1
 have hzr:=jO (E:=E) (av:=AV aw s.rs E) (w:=w) hz
 have th:z.length=y.size:=by rw [hzr.length]; simpa using hy.zs
 obtain ⟨inf,hin,eT,hbytes,hzero⟩:=hy.full
 obtain ⟨w',hr,eU,hg⟩:=run_make_full w w0.base t el inf y.zero y.size hu hin hzero eT .i64 .i64 n (by rw [hbytes,Nat.mul_comm]; exact hby) hm h.size_le
 have EM:az (aU E (AV aw s.rs E) w) (LJ z n) (madeCells y.zero.cells (n*y.size)).toList:=by
  refine az.vA (by rw [iE,th]; simp [size_madeCells]) fun i x v hx hv=>?_
  have hi:i<n*z.length:=by
   have:=(List.getElem?_eq_some_iff.1 hx).1
   rwa [iE] at this
  rw [sX z n i hi] at hx
  have iq:i<n*y.size:=by rw [← th]; exact hi
  have hcs:y.zero.cells.size=y.size:=hy.zs
  have hmod:i%y.zero.cells.size<y.zero.cells.size:=Nat.mod_lt _ (by rw [hcs]; exact fg)
  have hv':v=y.zero.cells[i%y.zero.cells.size]'hmod:=by
   have:(madeCells y.zero.cells (n*y.size)).toList[i]?=some (y.zero.cells[i%y.zero.cells.size]!):=by
    simp [madeCells,iq]
   rw [this] at hv
   simp only [ak] at hv
   rw [← hv,getElem!_pos y.zero.cells _ hmod]
  refine az.get hzr hx (i:=i%z.length) ?_
  rw [hv',show i%z.length=i%y.zero.cells.size by rw [th,hcs]]
  simp [hmod]
 have hil:z=lift is:=o6 his
 have hisl:is.length=y.size:=by rw [← th,hil,kl]
 have hcells2:∀ i,i<n→∀ j,j<y.size→∃ x,(madeCells y.zero.cells (n*y.size)).toList[i*y.size+j]?=some x∧cA (AV aw s.rs E) w (bu is j) x:=by
  intro i hi j hj
  have dp:i*y.size+j<n*y.size:=by
   have:=fA y.size (show i+1≤n by omega)
   rw [Nat.add_mul,Nat.one_mul] at this
   omega
  have e1:(LJ z n)[i*y.size+j]?=some (.im (bu is j)):=by
   rw [sX z n _ (by rw [th]; exact dp),th]
   have e2:(i*y.size+j)%y.size=j:=by rw [Nat.mul_comm,Nat.mul_add_mod]; exact Nat.mod_eq_of_lt hj
   rw [e2,hil,nE (by rw [hisl]; exact hj)]
  obtain ⟨x,h7,h8⟩:=EM.nth (i:=i*y.size+j) (x:=.im (bu is j)) (by rw [bc]; exact e1)
  exact ⟨x,h7,h8⟩
 obtain ⟨E',h4,h5,h6⟩:=h.sY hf (dead:=none) (row:=none) (n:=n) (get:=fun _=>bu is) hg eU (fun k hk=>by cases hk) (fun k hk=>by simp [Value.ownBlock] at hk; right; omega) hcells2
 refine ⟨.slice (some ⟨w.heap.size,0,none⟩) n n,w',E',?_,h5,h4,fun d hd=>?_⟩
 ·rw [hl,hc]; exact hr
 ·simp only [dt,ak] at hd
  subst hd
  exact h6
theorem HS (get:Nat→Nat→I) (sz n i k:Nat) (h:k≤n):(sN get sz i n).take (k*sz)=sN get sz i k:=by
 apply List.ext_getElem?
 intro q
 rw [cN]
 split
 ·rename_i hq
  have hz:0<sz:=by
   rcases Nat.eq_zero_or_pos sz with e|e
   ·subst e; simp at hq
   ·exact e
  have e1:q/sz*sz+q%sz=q:=by rw [Nat.mul_comm]; exact Nat.div_add_mod q sz
  have hk:q/sz<k:=Nat.div_lt_of_lt_mul (by rw [Nat.mul_comm]; exact hq)
  have hm:q%sz<sz:=Nat.mod_lt _ hz
  have h1:=kN get sz n i (q/sz) (q%sz) (by omega) hm
  have h2:=kN get sz k i (q/sz) (q%sz) hk hm
  rw [e1] at h1 h2
  rw [h1,h2]
 ·rename_i hq
  rw [List.getElem?_eq_none (by rw [lg]; omega)]
theorem qn {e:gr} {el sz n:Nat} {l:List C} {base:Nat} {av:Nat→Prop} (Zp:aM E av base w e (.row el sz n l)) {ao:Option Addr} {n' cap k:Nat} (h2:e.2.1.1=.slice ao n' cap) (h3:k≤n') (Ij:k≤n) :
  ∃ Yg cap',Value.slice ao k cap=.slice Yg k cap'∧(Yg=none→k=0)∧∃ news:List Value,news.length=k*sz∧(∀ ad,Yg=some ad→∀ j u,news[j]?=some u→w.cell? (ad.add j)=some u)∧(∀ u∈news,u.oneCell'=true)∧
   az (aU E av w) (l.take (k*sz)) news:=by
 obtain ⟨q1,q2,xs,q3,q4⟩:=Zp
 have hxl:=q3.1
 have hks:k*sz≤n*sz:=fA _ Ij
 have hxk:(xs.take (k*sz)).length=k*sz:=by rw [List.length_take]; omega
 rcases q3.2 with ⟨q5,q6⟩|⟨g,cap',cur,q5,q6,q7,q8,q9,q10,q11⟩
 ·rw [h2] at q5
  simp only [dz] at q5
  obtain ⟨rfl,rfl,rfl⟩:=q5
  have:k=0:=by omega
  subst this
  exact ⟨none,0,rfl,fun _=>rfl,[],by simp,fun _ _ j u hj=>(by simp at hj),fun u hu=>(by cases hu),by simp; exact .nil⟩
 ·rw [h2] at q5
  simp only [dz] at q5
  obtain ⟨rfl,rfl,rfl⟩:=q5
  refine ⟨_,cap,rfl,fun e=>(by simp at e),xs.take (k*sz),hxk,?_,?_,q4.take _⟩
  ·intro ad he j u hj
   simp only [ak] at he
   subst he
   rw [Addr.add_mid,cy q7]
   rw [← q11,List.take_take,cN] at hj
   split at hj
   ·simpa using hj
   ·simp at hj
  ·exact az.qB (q4.take _)
theorem tv (h:R T N aw w0 sp s a w E) {c:C} {vs:Value} {sz k:Nat} {l':List C} (hs:tF s.rs c=some (sz,k,l')) (hr:aU E (AV aw s.rs E) w c vs) :
  ∃ ao cap,vs=.slice ao k cap∧(ao=none→k=0)∧∃ news:List Value,news.length=k*sz∧(∀ ad,ao=some ad→∀ j u,news[j]?=some u→w.cell? (ad.add j)=some u)∧(∀ u∈news,u.oneCell'=true)∧
   az (aU E (AV aw s.rs E) w) l' news:=by
 unfold tF at hs
 split at hs
 ·rename_i cj k' get
  simp only [ak,a8] at hs
  obtain ⟨rfl,rfl,rfl⟩:=hs
  obtain ⟨ao,cap,h1,h2,news,h3,h4,h5,h6⟩:=Hf h (src:=.c (.im (.sl cj k' get))) rfl hr
  refine ⟨ao,cap,h1,h2,news,h3,h4,h5,az.C8 (by rw [lg,h3]) fun q x hx=>?_⟩
  have hq:q<k'*cj:=by have:=(List.getElem?_eq_some_iff.1 hx).1; rwa [lg] at this
  have hz:0<cj:=by
   rcases Nat.eq_zero_or_pos cj with e|e
   ·subst e; simp at hq
   ·exact e
  have e1:q/cj*cj+q%cj=q:=by rw [Nat.mul_comm]; exact Nat.div_add_mod q cj
  have hk:q/cj<k':=Nat.div_lt_of_lt_mul (by rw [Nat.mul_comm]; exact hq)
  have hm:q%cj<cj:=Nat.mod_lt _ hz
  obtain ⟨y,h7,h8⟩:=h6 (q/cj) hk (q%cj) hm
  have h9:=kN get cj k' 0 (q/cj) (q%cj) hk hm
  rw [e1] at h7 h9
  rw [hx] at h9
  simp only [Nat.zero_add,ak] at h9
  subst h9
  exact ⟨y,h7,h8⟩
 ·obtain ⟨rfl,_⟩:=hr
  simp only [ak,a8] at hs
  obtain ⟨rfl,rfl,rfl⟩:=hs
  exact ⟨none,0,rfl,fun _=>rfl,[],rfl,fun _ q=>(by cases q),fun _ q=>(by cases q),.nil⟩
 ·rename_i q k'
  split at hs
  case h_3=>simp at hs
  ·rename_i el cj n l hl
   rw [bI,bc] at hl
   obtain ⟨Ij,hs⟩:=Bool.aq hs
   split at hs
   case h_2=>simp at hs
   rename_i l2 hl2
   obtain ⟨rfl,hlen⟩:=kL _ _ _ hl2
   simp only [ak,a8] at hs
   obtain ⟨rfl,rfl,rfl⟩:=hs
   obtain ⟨e,ao,n',cap,h1,h2,h3,rfl⟩:=hr
   exact qn (h.roots q _ _ hl h1) h2 h3 (dL Ij)
  ·rename_i el cj n get hl
   rw [bI,bc] at hl
   obtain ⟨Ij,hs⟩:=Bool.aq hs
   simp only [ak,a8] at hs
   obtain ⟨rfl,rfl,rfl⟩:=hs
   obtain ⟨e,ao,n',cap,h1,h2,h3,rfl⟩:=hr
   have:=qn (PB (h.roots q _ _ hl h1)) h2 h3 (dL Ij)
   rwa [HS _ _ _ _ _ (dL Ij)] at this
 ·simp at hs
theorem Ds (h:R T N aw w0 sp s a w E) {c:C} {vs:Value} {sz k:Nat} {get:Nat→Nat→I} (hs:qF sz s.rs c=some (k,get)) (hr:aU E (AV aw s.rs E) w c vs) :
  ∃ ao cap,vs=.slice ao k cap∧(ao=none→k=0)∧∃ news:List Value,news.length=k*sz∧(∀ ad,ao=some ad→∀ j u,news[j]?=some u→w.cell? (ad.add j)=some u)∧(∀ u∈news,u.oneCell'=true)∧
   (∀ i,i<k→∀ j,j<sz→∃ x,news[i*sz+j]?=some x∧cA (AV aw s.rs E) w (get i j) x):=by
 have fin:∀ {l':List C},tF s.rs c=some (sz,k,l')→(∀ i,i<k→∀ j,j<sz→l'[i*sz+j]?=some (.im (get i j)))→∃ ao cap,vs=.slice ao k cap∧(ao=none→k=0)∧∃ news:List Value,news.length=k*sz∧(∀ ad,ao=some ad→∀ j u,news[j]?=some u→w.cell? (ad.add j)=some u)∧(∀ u∈news,u.oneCell'=true)∧
   (∀ i,i<k→∀ j,j<sz→∃ x,news[i*sz+j]?=some x∧cA (AV aw s.rs E) w (get i j) x):=by
  intro l' h1 h2
  obtain ⟨ao,cap,q1,q2,news,q3,q4,q5,q6⟩:=tv h h1 hr
  refine ⟨ao,cap,q1,q2,news,q3,q4,q5,fun i hi j hj=>?_⟩
  obtain ⟨x,q7,q8⟩:=q6.nth (i:=i*sz+j) (x:=.im (get i j)) (by rw [bc]; exact h2 i hi j hj)
  exact ⟨x,q7,q8⟩
 have mn:∀ (n:Nat) (g:Nat→Nat→I),∀ i,i<n→∀ j,j<sz→(sN g sz 0 n)[i*sz+j]?=some (.im (g i j)):=fun n g i hi j hj=>by
  have:=kN g sz n 0 i j hi hj
  rwa [Nat.zero_add] at this
 unfold qF at hs
 split at hs
 ·rename_i cj k' get'
  replace hs:=Bool.aq hs
  obtain ⟨h1,h2⟩:=hs
  have h1:=bs h1
  subst h1
  simp only [ak,a8] at h2
  obtain ⟨rfl,rfl⟩:=h2
  exact fin (l':=sN get' cj 0 k') rfl (mn _ _)
 ·obtain ⟨rfl,_⟩:=hr
  simp only [ak,a8] at hs
  obtain ⟨rfl,rfl⟩:=hs
  exact ⟨none,0,rfl,fun _=>rfl,[],by simp,fun _ q=>(by cases q),fun _ q=>(by cases q),fun i hi=>by omega⟩
 ·rename_i q k'
  split at hs
  case h_3=>simp at hs
  ·rename_i el cj n l hl
   obtain ⟨h1,hs⟩:=Bool.aq hs
   simp only [cG] at h1
   have h2:=bs h1.2
   subst h2
   split at hs
   case h_2=>simp at hs
   rename_i l2 hl2
   split at hs
   case h_2=>simp at hs
   rename_i is his
   simp only [ak,a8] at hs
   obtain ⟨rfl,rfl⟩:=hs
   refine fin (l':=l2) (by simp only [tF,hl,h1.1,hl2]) fun i hi j hj=>?_
   have him:=o6 his
   obtain ⟨rfl,hlen⟩:=kL _ _ _ hl2
   have dp:i*cj+j<k'*cj:=by
    have:=fA cj (show i+1≤k' by omega)
    rw [Nat.add_mul,Nat.one_mul] at this
    omega
   have hil:is.length=k'*cj:=by rw [← kl,← him,List.length_take]; omega
   rw [him]
   exact nE (by rw [hil]; exact dp)
  ·rename_i el cj n get' hl
   replace hs:=Bool.aq hs
   obtain ⟨h1,h3⟩:=hs
   have h1:=bs h1
   subst h1
   obtain ⟨h2,h4⟩:=Bool.aq h3
   simp only [ak,a8] at h4
   obtain ⟨rfl,rfl⟩:=h4
   exact fin (l':=sN get' cj 0 k') (by simp only [tF,hl,h2]) (mn _ _)
 ·simp at hs
theorem uh {t el:TypeId} {y0 y:Ty} (qE:cr P t y0) (hk:y0.kd=.slice el) (hy:cr P el y) (ao:Option Addr) (cap:Nat) (ty:TypeId) :
  (Builtin.append_ #[t,t] ty #[.slice none 0 0,.slice ao 0 cap]).run P w=.ok (.slice none 0 0) w:=by
 obtain ⟨i,hi,_⟩:=hy.full
 cases ao<;>simp [Builtin.append_,run_underlying (qE.slice hk),sizeOf,typeInfo,hi,Builtin.lenOf,Builtin.firstCells,loadCells,loadCellsFrom]
theorem wV (h:R T N aw w0 sp s a w E) {b:Nat} (hf:j9 s E b) {t el:TypeId} {y0 y:Ty} (qE:cr P t y0) (hk:y0.kd=.slice el) (hy:cr P el y) (fg:0<y.size)
  {k:Nat} {l':List C} {c:C} {v:Value} (hc:aU E (AV aw s.rs E) w c v) {ao:Option Addr} {cap:Nat} (qa:ao=none→k=0) {news:List Value} (hl:news.length=k*y.size)
  (hcell:∀ ad,ao=some ad→∀ j u,news[j]?=some u→w.cell? (ad.add j)=some u) (h1:∀ u∈news,u.oneCell'=true) (hrel:az (aU E (AV aw s.rs E) w) l' news)
  {e:bP} (ef:Am el y.size k l' y.bytes b s.rs c=some e) (ty:TypeId) :
  ∃ v' w' E',(Builtin.append_ #[t,t] ty #[v,.slice ao k cap]).run P w=.ok v' w'∧hJ T N aw w0 sp s a w E b e v' w' E':=by
 unfold Am at ef
 split at ef
 ·obtain ⟨rfl,_⟩:=hc
  split at ef
  ·simp only [ak] at ef
   subst ef
   refine ⟨_,w,E,uh qE hk hy ao cap ty,kX.refl _ _,h,fun d hd=>?_⟩
   simp only [dt,ak] at hd
   subst hd
   exact ⟨rfl,rfl⟩
  ·obtain ⟨hroom,ef⟩:=Bool.aq ef
   simp only [ak] at ef
   subst ef
   rename_i k
   simp only [dX,cG] at hroom
   have hroom:room (k+1) y.bytes:=⟨dL hroom.1,dL hroom.2⟩
   obtain ⟨v',w',q1,q2,q3,q4⟩:=fB qE hk hy fg (w.ownsRow_nil w0.base el y.size) h.size_le qa hl hcell h1 (by simpa using hroom) ty
   simp only [Nat.zero_add,List.nil_append] at q2
   obtain ⟨E',h4,h5,h6⟩:=h.Ad hf (dead:=none) (row:=none) (n:=k+1) (l:=l') q3 q2 (fun k hk=>by cases hk) (fun k hk=>by
    rcases q4 k hk with q5|q5
    ·simp [Value.ownBlock] at q5
    ·exact .inr q5) hrel
   refine ⟨v',w',E',q1,h5,h4,fun d hd=>?_⟩
   simp only [dt,ak] at hd
   subst hd
   exact h6
 ·rename_i r m
  split at ef
  case h_3=>simp at ef
  ·rename_i nL cj n l hlr
   rw [bI,bc] at hlr
   obtain ⟨he,ef⟩:=Bool.aq ef
   obtain ⟨hroom,ef⟩:=Bool.aq ef
   simp only [ak] at ef
   subst ef
   simp only [cG] at he hroom
   have he1:=bs he.1
   have M6:=bs he.2
   subst he1 M6
   have hmn:=bs hroom.1
   subst hmn
   have hroom:=hroom.2
   simp only [dX,cG] at hroom
   have hroom:room (m+k) y.bytes:=⟨dL hroom.1,dL hroom.2⟩
   obtain ⟨e',a',n',cap',h2,h3,h4,rfl⟩:=hc
   obtain ⟨q1,q2,xs,q3,q4⟩:=h.roots r _ _ hlr h2
   have sq:n'=m:=by
    rcases q3.2 with ⟨q5,q6⟩|⟨g,cap2,cur,q5,_⟩
    ·rw [h3] at q5; simp only [dz] at q5; omega
    ·rw [h3] at q5; simp only [dz] at q5; omega
   subst sq
   rw [← h3]
   obtain ⟨v',w',p1,p2,p3,p4⟩:=fB qE hk hy fg q3 h.size_le qa hl hcell h1 hroom ty
   have ir:∀ b,e'.2.1.1.ownBlock=some b→a7 E r b e'.2.2:=by
    intro b hb
    obtain ⟨e1,e2,e3⟩:=e'
    have q2:e1=e2.1.ownBlock:=q2
    have hb:e2.1.ownBlock=some b:=hb
    rw [hb] at q2
    subst q2
    exact ⟨e2,h2⟩
   obtain ⟨E',h5,h6,h7⟩:=h.Ad hf (dead:=some r) (row:=e'.2.1.1.ownBlock) (n:=n'+k) (l:=l++l') p3 p2 (fun b hb=>⟨r,_,_,rfl,hlr,trivial,ir b hb⟩) (fun b hb=>p4 b hb) (q4.append hrel)
   have hkill:kill (some r) s.rs=setAt s.rs r .dead:=by rw [bm]; rfl
   rw [hkill] at h5 h7
   refine ⟨v',w',E',p1,h6,h5,fun d hd=>?_⟩
   simp only [dt,ak] at hd
   subst hd
   exact h7
  ·rename_i nL cj n get hlr
   rw [bI,bc] at hlr
   split at ef
   case h_2=>simp at ef
   obtain ⟨he,ef⟩:=Bool.aq ef
   obtain ⟨hroom,ef⟩:=Bool.aq ef
   simp only [ak] at ef
   subst ef
   simp only [cG] at he hroom
   have he1:=bs he.1
   have M6:=bs he.2
   subst he1 M6
   have hmn:=bs hroom.1
   subst hmn
   have hroom:=hroom.2
   simp only [dX,cG] at hroom
   have hroom:room (m+1) y.bytes:=⟨dL hroom.1,dL hroom.2⟩
   obtain ⟨e',a',n',cap',h2,h3,h4,rfl⟩:=hc
   obtain ⟨q1,q2,xs,q3,Ks,hK,YY,q4⟩:=h.roots r _ _ hlr h2
   have sq:n'=m:=by
    rcases q3.2 with ⟨q5,q6⟩|⟨g,cap2,cur,q5,_⟩
    ·rw [h3] at q5; simp only [dz] at q5; omega
    ·rw [h3] at q5; simp only [dz] at q5; omega
   subst sq
   rw [← h3]
   obtain ⟨v',w',p1,p2,p3,p4⟩:=fB qE hk hy fg q3 h.size_le qa hl hcell h1 hroom ty
   have ir:∀ b,e'.2.1.1.ownBlock=some b→a7 E r b e'.2.2:=by
    intro b hb
    obtain ⟨e1,e2,e3⟩:=e'
    have q2:e1=e2.1.ownBlock:=q2
    have hb:e2.1.ownBlock=some b:=hb
    rw [hb] at q2
    subst q2
    exact ⟨e2,h2⟩
   have hKo:∀ k,e'.2.1.2 k→di E r k e'.2.2:=fun k hk=>⟨e',h2,rfl,.inr hk⟩
   have hxl:=q3.1
   have hl1:l'.length=y.size:=by rw [hrel.length,hl]; omega
   obtain ⟨E',h5,h6,h7⟩:=h.Oc hf (dead:=some r) (row:=e'.2.1.1.ownBlock) (n:=n'+1) (get:=get) (dK:=some (n',l'.map Fc.c)) (K:=e'.2.1.2) (Ks:=Ks) p3 p2 (fun b hb=>⟨r,_,_,rfl,hlr,trivial,ir b hb⟩) (fun b hb=>p4 b hb)
    (fun k hk=>⟨r,_,_,rfl,hlr,trivial,hKo k hk⟩)
    ⟨hK.sub,fun i j b hb e=>by
     rcases p4 b e with p5|p5
     ·exact hK.ne i j b hb p5.symm
     ·have:=(h.cT r _ b _ hlr trivial (hKo b (hK.sub i j b hb))).2
      omega,hK.inj⟩
    (fun x hx=>by simp only [ak] at hx; subst hx; exact ⟨Nat.lt_succ_self _,by simpa using hl1⟩)
    (fun i j b hb=>p3.block b (h.cT r _ b _ hlr trivial (hKo b (hK.sub i j b hb))).2 fun e=>hK.ne i j b hb e.symm)
    (fun i hi j hj=>by
     unfold iL
     cases hb:Nat.beq i n' with
     | true=>
       have iq:=Nat.eq_of_beq_eq_true hb
       subst iq
       simp only [bc]
       have hjl:j<l'.length:=by omega
       have hx:=gj hjl
       obtain ⟨u,g1,g2⟩:=hrel.nth (i:=j) (x:=l'[j]) (by rw [bc]; exact hx)
       exact ⟨u,.c l'[j],by rw [gG (by omega),hxl,Nat.add_sub_cancel_left]; exact g1,by simp only [cB,List.getElem?_map,hx]; rfl,g2⟩
     | false=>
       have CN:i≠n':=fun e=>by rw [e,cB] at hb; cases hb
       obtain ⟨u,c,g1,g2,g3⟩:=q4 i (by omega) j hj
       have dp:i*y.size+j<xs.length:=(List.getElem?_eq_some_iff.1 g1).1
       exact ⟨u,c,by rw [dQ dp]; exact g1,by simp only [hb]; exact g2,g3⟩)
   have hkill:kill (some r) s.rs=setAt s.rs r .dead:=by rw [bm]; rfl
   rw [hkill] at h5 h7
   refine ⟨v',w',E',p1,h6,h5,fun d hd=>?_⟩
   simp only [dt,ak] at hd
   subst hd
   exact h7
 ·simp at ef
theorem DT (h:R T N aw w0 sp s a w E) {b:Nat} (hf:j9 s E b) {t el:TypeId} {y0 y:Ty} (qE:cr P t y0) (hk:y0.kd=.slice el) (hy:cr P el y) (fg:0<y.size)
  {k:Nat} {get':Nat→Nat→I} {c:C} {v:Value} (hc:aU E (AV aw s.rs E) w c v) {ao:Option Addr} {cap:Nat} (qa:ao=none→k=0) {news:List Value} (hl:news.length=k*y.size)
  (hcell:∀ ad,ao=some ad→∀ j u,news[j]?=some u→w.cell? (ad.add j)=some u) (h1:∀ u∈news,u.oneCell'=true) (hrel:∀ i,i<k→∀ j,j<y.size→∃ x,news[i*y.size+j]?=some x∧cA (AV aw s.rs E) w (get' i j) x)
  {e:bP} (ef:pK el y.size k get' y.bytes b s.rs c=some e) (ty:TypeId) :
  ∃ v' w' E',(Builtin.append_ #[t,t] ty #[v,.slice ao k cap]).run P w=.ok v' w'∧hJ T N aw w0 sp s a w E b e v' w' E':=by
 unfold pK at ef
 split at ef
 ·obtain ⟨rfl,_⟩:=hc
  obtain ⟨hroom,ef⟩:=Bool.aq ef
  simp only [ak] at ef
  subst ef
  simp only [dX,cG] at hroom
  have hroom:room k y.bytes:=⟨dL hroom.1,dL hroom.2⟩
  obtain ⟨v',w',q1,q2,q3,q4⟩:=fB qE hk hy fg (w.ownsRow_nil w0.base el y.size) h.size_le qa hl hcell h1 (by simpa using hroom) ty
  simp only [Nat.zero_add,List.nil_append] at q2
  obtain ⟨E',h4,h5,h6⟩:=h.sY hf (dead:=none) (row:=none) (n:=k) (get:=get') q3 q2 (fun k hk=>by cases hk) (fun k hk=>by
   rcases q4 k hk with q5|q5
   ·simp [Value.ownBlock] at q5
   ·exact .inr q5) hrel
  refine ⟨v',w',E',q1,h5,h4,fun d hd=>?_⟩
  simp only [dt,ak] at hd
  subst hd
  exact h6
 ·rename_i r m
  split at ef
  case h_2=>simp at ef
  rename_i nL cj n get hlr
  rw [bI,bc] at hlr
  obtain ⟨he,ef⟩:=Bool.aq ef
  obtain ⟨hroom,ef⟩:=Bool.aq ef
  obtain ⟨hmn,ef⟩:=Bool.aq ef
  simp only [ak] at ef
  subst ef
  simp only [cG] at he
  have he1:=bs he.1
  have M6:=bs he.2
  subst he1 M6
  have hmn:=bs hmn
  subst hmn
  simp only [dX,cG] at hroom
  have hroom:room (m+k) y.bytes:=⟨dL hroom.1,dL hroom.2⟩
  obtain ⟨e',a',n',cap',h2,h3,h4,rfl⟩:=hc
  obtain ⟨q1,q2,xs,q3,q4⟩:=h.roots r _ _ hlr h2
  have sq:n'=m:=by
   rcases q3.2 with ⟨q5,q6⟩|⟨g,cap2,cur,q5,_⟩
   ·rw [h3] at q5; simp only [dz] at q5; omega
   ·rw [h3] at q5; simp only [dz] at q5; omega
  subst sq
  rw [← h3]
  obtain ⟨v',w',p1,p2,p3,p4⟩:=fB qE hk hy fg q3 h.size_le qa hl hcell h1 hroom ty
  have ir:∀ b,e'.2.1.1.ownBlock=some b→a7 E r b e'.2.2:=by
   intro b hb
   obtain ⟨e1,e2,e3⟩:=e'
   have q2:e1=e2.1.ownBlock:=q2
   have hb:e2.1.ownBlock=some b:=hb
   rw [hb] at q2
   subst q2
   exact ⟨e2,h2⟩
  obtain ⟨E',h5,h6,h7⟩:=h.sY hf (dead:=some r) (row:=e'.2.1.1.ownBlock) (n:=n'+k) (get:=j0 n' get get') p3 p2 (fun b hb=>⟨r,_,_,rfl,hlr,trivial,ir b hb⟩) (fun b hb=>p4 b hb) (fun i hi j hj=>by
   have hxl:=q3.1
   rw [Pr]
   unfold app
   by_cases hin:i<n'
   ·obtain ⟨x,g1,g2⟩:=q4 i hin j hj
    refine ⟨x,?_,by rw [if_pos hin]; exact g2⟩
    rw [dQ (List.getElem?_eq_some_iff.1 g1).1]
    exact g1
   ·obtain ⟨x,g1,g2⟩:=hrel (i-n') (by omega) j hj
    refine ⟨x,?_,by rw [if_neg hin]; exact g2⟩
    have e1:i*y.size+j=n'*y.size+((i-n')*y.size+j):=by
     have:i*y.size=n'*y.size+(i-n')*y.size:=by rw [← Nat.add_mul]; congr 1; omega
     omega
    rw [gG (by rw [hxl,e1]; omega),hxl,e1,Nat.add_sub_cancel_left]
    exact g1)
  have hkill:kill (some r) s.rs=setAt s.rs r .dead:=by rw [bm]; rfl
  rw [hkill] at h5 h7
  refine ⟨v',w',E',p1,h6,h5,fun d hd=>?_⟩
  simp only [dt,ak] at hd
  subst hd
  exact h7
 ·simp at ef
theorem Ed (bz:dk P T) (h:R T N aw w0 sp s a w E) (hn:bA s.sl) {b:Nat} (hf:j9 s E b) {ts:List TypeId} {xs:List Operand} {e:bP} (ef:mH T b s ts xs=some e) (ty:TypeId) :
  (∃ l,e=.cp l)∨∃ v' w' E',(Builtin.append_ ts.toArray ty (xs.map a.eval).toArray).run P w=.ok v' w'∧hJ T N aw w0 sp s a w E b e v' w' E':=by
 unfold mH at ef
 split at ef
 case h_2=>simp at ef
 rename_i t t' x y'
 replace ef:=Bool.aq ef
 obtain ⟨ht,ef⟩:=ef
 have ht:=bs ht
 subst ht
 split at ef
 case h_2=>simp at ef
 rename_i ub uA z0 el qE
 have qE:=bz.ty _ _ qE
 split at ef
 ·rename_i e' he'
  subst ef
  unfold nN at he'
  split at he'
  case h_2=>simp at he'
  rename_i c src hc hsrc
  split at he'
  case h_2=>simp at he'
  split at he'
  case h_2=>simp at he'
  rename_i y hy
  have hy:=bz.ty _ _ hy
  simp only [ak] at he'
  unfold yY at he'
  have hc:=h.bO hn (bL hc)
  have hsrc:=h.bO hn (bL hsrc)
  split at he'
  ·rename_i k get' hs
   obtain ⟨fg,he'⟩:=Bool.aq he'
   obtain ⟨ao,cap,hv2,qa,news,hl,hcell,h1,hrel⟩:=Ds h hs hsrc
   simp only [List.map_cons,List.map_nil]
   rw [hv2]
   exact .inr (DT h hf qE rfl hy (aF fg) hc qa hl hcell h1 hrel he' ty)
  ·unfold mB at he'
   split at he'
   ·simp only [ak] at he'
    exact .inl ⟨_,he'.symm⟩
   ·simp at he'
 refine .inr ?_
 unfold ng at ef
 split at ef
 case h_2=>simp at ef
 rename_i y hy
 have hy:=bz.ty _ _ hy
 split at ef
 case h_2=>simp at ef
 rename_i src hsrc
 have hsrc:=h.bO hn (bL hsrc)
 split at ef
 case h_2=>simp at ef
 rename_i sz k l' hs
 obtain ⟨ao,cap,hv2,qa,news,hl,hcell,h1,hrel⟩:=tv h hs hsrc
 split at ef
 case h_2=>simp at ef
 rename_i c hc
 have hc:=h.bO hn (bL hc)
 simp only [List.map_cons,List.map_nil]
 rw [hv2]
 split at ef
 ·
  have hnews:news=[]:=List.eq_nil_of_length_eq_zero (by simpa using hl)
  subst hnews
  replace ef:=Bool.aq ef
  obtain ⟨fg,ef⟩:=ef
  exact wV h hf qE rfl hy (aF fg) hc qa (by simp) (fun _ _ j u hj=>by simp at hj) (fun u hu=>by cases hu) .nil ef ty
 ·replace ef:=Bool.aq ef
  obtain ⟨eT,ef⟩:=ef
  simp only [cG] at eT
  have hsz1:=bs eT.1
  subst hsz1
  exact wV h hf qE rfl hy (aF eT.2) hc qa hl hcell h1 hrel ef ty
end
noncomputable section
def l6 (acc:List Nat) (l:List Edge):Nat→Nat:=List.rec (fun m=>m) (fun e _ ih m=>Bool.rec (ih m) (ih (Nat.lor (Nat.lor (Nat.shiftLeft 1 e.on) m) (match aY acc e.on with
 | some x=>x
 | none=>0))) (Region.binds .any e)) l
def iu (l:List Oper):List Nat→List Nat:=List.rec (fun acc=>acc) (fun o _ ih acc=>ih (acc++[l6 acc o.after.toList 0])) l
def mK (t:Tmp) (l:List Oper):Nat→Option Nat:=List.rec (fun _=>none) (fun o _ ih k=>match o.dst with
 | some t'=>Bool.rec (ih (k+1)) (some k) (Nat.beq t t')
 | none=>ih (k+1)) l
def FT (ops:List Oper) (m:Nat) (t:Tmp):Bool:=match mK t ops 0 with
 | some j=>Nat.testBit m j
 | none=>true
def qs (ops:List Oper) (m:Nat) (l:List Operand):Bool:=List.rec true (fun x _ ih=>match x with
 | .tmp t=>Bool.rec false ih (FT ops m t)
 | _=>ih) l
def yB (m:Nat) (g:Option (Nat×Bool)):Bool:=match g with
 | some (j,_)=>Nat.testBit m j
 | none=>true
def CU (ops l:List Oper):List Nat→Bool:=List.rec (fun _=>true) (fun o _ ih ms=>match ms with
 | m::ms=>Bool.rec false (ih ms) (yB m o.guard&&qs ops m o.op.operands.toList)
 | []=>false) l
def Dz (t:Tmp) (l:List Oper):Bool:=match mK t l 0 with
 | some _=>false
 | none=>true
def A2 (l:List Oper):Bool:=List.rec true (fun o l ih=>match o.dst with
 | some t=>Bool.rec false ih (Dz t l)
 | none=>ih) l
def xE (l:List Nat):Nat→Bool:=List.rec (fun _=>true) (fun m _ ih i=>Bool.rec false (ih (i+1)) (Nat.blt m (Nat.shiftLeft 1 i))) l
def pV (ops:List Oper):Bool:=A2 ops&&(CU ops ops (iu ops [])&&xE (iu ops []) 0)
def yf (c:Callee):Nat:=match c with
 | .builtin .append=>1
 | .value _=>1
 | _=>0
def dN (op:Op):Nat:=match op with
 | .box _ _=>1
 | .alloc _=>1
 | .buildSlice _ _ _=>1
 | .makeMap _ _=>1
 | .makeSlice _ _ _=>1
 | .call c=>yf c.callee
 | _=>0
def dq (l:List Oper):Nat:=List.rec 0 (fun o _ ih=>dN o.op+ih) l
structure jY where
 dst:Option Tmp
 val:Option D
 ws:List (Nat×ae)
 al:Option (List ae)
 ex:Bool:=false
def wv (s:VS) (dst:Option Tmp) (d:Option D):VS:=match dst with
 | some t=>match d with
   | some d=>{ s with sl:=(t,d,[])::s.sl }
   | none=>s
 | none=>s
def Ac (al:Option (List ae)) (rs:List ae):List ae:=match al with
 | some aE=>aE
 | none=>rs
def jY.on (u:jY) (s:VS):VS:=wv { s with rs:=writes u.ws (Ac u.al s.rs) } u.dst u.val
def Ao (N:Nat) (dst:Option Tmp) (d:Option D):Bool:=match dst with
 | some t=>match d with
   | some _=>Nat.blt t N
   | none=>false
 | none=>true
inductive Ir where
 | cp (l:List Nat)
 | ok (u:jY)
def My (i m:Nat) (b4:List Nat):Nat→Bool:=List.rec (fun _=>true) (fun x _ ih k=>Bool.rec false (ih (k+1)) (Nat.beq k i||(Nat.testBit m k||Nat.testBit x i))) b4
def AP (b4:List Nat) (i:Nat):Bool:=match aY b4 i with
 | some m=>My i m b4 0
 | none=>false
def Yq (x y:Value):Bool:=match x,y with
 | .int .i64 a,.int .i64 b=>a==b
 | .bool a,.bool b=>G0 a b
 | _,_=>false
def Mu (x y:C):Bool:=match x,y with
 | .im (.v a),.im (.v b)=>Yq a b
 | .rt r i j,.rt r' i' j'=>Nat.beq r r'&&(Nat.beq i i'&&Nat.beq j j')
 | .sa r m,.sa r' m'=>Nat.beq r r'&&Nat.beq m m'
 | .mp r,.mp r'=>Nat.beq r r'
 | _,_=>false
def Sm (l:List C):List C→Bool:=List.rec (fun m=>match m with
 | []=>true
 | _=>false) (fun x _ ih m=>match m with
 | y::m=>Bool.rec false (ih m) (Mu x y)
 | []=>false) l
def LO (x y:ae):Bool:=match x,y with
 | .dead,.dead=>true
 | .box l,.box m=>Sm l m
 | _,_=>false
def vr (n:Nat) (l:List Nat):Bool:=List.rec true (fun r _ ih=>Bool.rec false ih (Nat.blt r n)) l
def sT (n:Nat) (x:C):Bool:=match x with
 | .im _=>true
 | .rt r _ _=>Nat.blt r n
 | .sa r _=>Nat.blt r n
 | .mp r=>Nat.blt r n
 | .yl r=>Nat.blt r n
 | .ow r _=>Nat.blt r n
 | .ky _ l=>vr n l
def gT (n:Nat) (l:List C):Bool:=List.rec true (fun x _ ih=>Bool.rec false ih (sT n x)) l
def uO (n:Nat) (x:Fc):Bool:=match x with
 | .c x=>sT n x
 | .o _=>true
def rX (n:Nat) (l:List Fc):Bool:=List.rec true (fun x _ ih=>Bool.rec false ih (uO n x)) l
def j6 (n:Nat) (x:ae):Bool:=match x with
 | .dead=>true
 | .box l=>gT n l
 | .row _ _ _ l=>gT n l
 | .arr _ _ _ _=>true
 | .gy _ _ _ _ none=>true
 | .own _=>true
 | .gy _ _ _ _ (some x)=>rX n x.2
 | .set _=>true
 | .l7=>true
 | _=>false
def yu (n:Nat) (l:List (Bool×List C)):Bool:=List.rec true (fun x _ ih=>Bool.rec false ih (gT n x.2)) l
def iR (n:Nat) (d:D):Bool:=match d with
 | .c x=>sT n x
 | .a l=>gT n l
 | .t l=>yu n l
def tq (n:Nat) (rs:List ae):List ae→Nat→Option (List (Nat×ae)):=List.rec (fun _ _=>some []) (fun x _ ih aE k=>match aE with
 | y::aE=>Bool.rec (Bool.rec none (match ih aE (k+1) with
   | some ws=>some ((k,y)::ws)
   | none=>none) (j6 n y)) (ih aE (k+1)) (LO x y)
 | []=>none) rs
def H5 (lo:Lo) (dst:Option Tmp) (d:D) (rs aE:List ae):Option Ir:=match lo.diff rs aE with
 | some ws=>Bool.rec none (some (.ok ⟨dst,some d,ws,none,true⟩)) (iR rs.length d)
 | none=>none
def AK (lo:Lo) (rs:List ae) (b4:List Nat) (i:Nat) (dst:Option Tmp) (e:Option bP):Option Ir:=match e with
 | some (.val d)=>some (.ok ⟨dst,some d,[],none,false⟩)
 | some (.wr d ws)=>some (.ok ⟨dst,d,ws,none,false⟩)
 | some (.cp l)=>some (.cp l)
 | some (.all d aE)=>Bool.rec (H5 lo dst d rs aE) (some (.ok ⟨dst,some d,[],some aE,false⟩)) (AP b4 i)
 | none=>none
def j5 (T:dn) (lo:Lo) (hi:Hint) (b4:List Nat) (i b:Nat) (ops:List Oper) (s:VS) (o:Oper):Option Ir:=match kP ops s.sl o.guard with
 | some true=>AK lo s.rs b4 i o.dst (fk T lo hi b s o.dst o.op)
 | some false=>some (.ok ⟨o.dst,some (.t []),[],none,false⟩)
 | none=>none
inductive xQ where
 | cp (l:List Nat)
 | ok (W:List (Nat×List Nat)) (s:VS)
def Bu (k:Nat) (u:jY) (W:List (Nat×List Nat)):List (Nat×List Nat):=match u.ws with
 | []=>W
 | ws=>W++[(k,ws.map (·.1))]
def kI (T:dn) (lo:Lo) (hi:Hint) (N:Nat) (b4:List Nat) (ops l:List Oper):Nat→Nat→List (Nat×List Nat)→VS→Option xQ:=List.rec (fun _ _ W s=>some (.ok W s)) (fun o _ ih k b W s=>
 match j5 T lo hi b4 k b ops s o with
 | some (.ok u)=>Bool.rec none (ih (k+1) (b+dN o.op) (Bu k u W) (u.on s)) (Ao N u.dst u.val)
 | some (.cp c)=>some (.cp c)
 | none=>none) l
def dT (b4:List Nat) (i m:Nat) (W:List (Nat×List Nat)):List Nat:=List.rec [] (fun w _ ih=>
 Bool.rec (w.2++ih) ih (Nat.beq w.1 i||(Nat.testBit m w.1||(match aY b4 w.1 with
  | some x=>Nat.testBit x i
  | none=>false)))) W
def tk (l:List Nat) (rs:List ae):List ae:=List.rec (fun rs=>rs) (fun q _ ih rs=>ih (setAt rs q .dead)) l rs
def mj (n:Nat) (l:List Nat):Bool:=List.rec false (fun x _ ih=>Bool.rec ih true (Nat.beq x n)) l
def lU (l m:List Nat):Bool:=List.rec true (fun x _ ih=>Bool.rec ih false (mj x m)) l
def lA (k:Nat) (W:List (Nat×List Nat)):List Nat:=match findF k W with
 | some l=>l
 | none=>[]
def xz (l m:List Nat):Bool:=List.rec true (fun x _ ih=>Bool.rec false ih (mj x m)) l
def Nd (l:List Nat) (s:VS):VS:=match l with
 | []=>s
 | _=>{ s with rs:=tk l s.rs }
def MO (ex:Bool) (l:List Nat):Bool:=match ex with
 | false=>true
 | true=>match l with
   | []=>true
   | _=>false
def jx (T:dn) (lo:Lo) (hi:Hint) (N:Nat) (ops:List Oper) (b4:List Nat) (W:List (Nat×List Nat)) (l:List Oper):List Nat→Nat→Nat→VS→Option VS:=List.rec (fun _ _ _ s=>some s) (fun o _ ih ms i b s=>
 match ms with
 | m::ms=>match j5 T lo hi b4 i b ops (Nd (dT b4 i m W) s) o with
   | some (.ok u)=>Bool.rec none (ih ms (i+1) (b+dN o.op) (u.on s)) (Ao N u.dst u.val&&(xz (u.ws.map (·.1)) (lA i W)&&(lU (u.ws.map (·.1)) (dT b4 i m W)&&MO u.ex (dT b4 i m W))))
   | _=>none
 | []=>none) l
def ft (ops:List Oper) (s:VS):VS:={ s with rs:=s.rs++List.replicate (dq ops) .dead }
def xf (T:dn) (lo:Lo) (hi:Hint) (N:Nat) (ops:List Oper) (s0 s':VS) (b:Nat) (W:List (Nat×List Nat)):Option VS:=match W with
 | []=>some s'
 | _=>jx T lo hi N ops (iu ops []) W ops (iu ops []) 0 b s0
def tJ (T:dn) (lo:Lo) (hi:Hint) (N:Nat) (ops:List Oper) (n:Nat):VS→Option VS:=Nat.rec (fun _=>none) (fun _ ih s=>
 match kI T lo hi N (iu ops []) ops ops 0 s.rs.length [] (ft ops s) with
 | some (.cp l)=>match fV l s with
   | some s'=>ih s'
   | none=>none
 | some (.ok W s')=>xf T lo hi N ops (ft ops s) s' s.rs.length W
 | none=>none) n
def pT (hi:Hint) (f:FuncId) (id:Nat) (s:VS):VS:=match hi.VD f id with
 | some l=>{ s with sl:=su s.sl l }
 | none=>s
def regionF (T:dn) (lo:Lo) (hi:Hint) (N:Nat) (f:FuncId) (ro:Option Nat) (id:Nat) (ops:List Oper) (draw:Bool) (s:VS):Option VS:=match draw with
 | false=>match Hs T lo hi N ops ops s with
   | some s'=>some (pT hi f id s')
   | none=>none
 | true=>match ro with
   | some _=>none
   | none=>match pV ops with
     | true=>match tJ T lo hi N ops 8 s with
       | some s'=>some (pT hi f id s')
       | none=>none
     | false=>none
def rB (ro:Option Nat) (s:VS):Option VS:=match ro with
 | some r=>match aY s.rs r with
   | some (.loop g M sl ps as bd .ready none)=>some { s with rs:=setAt s.rs r (.loop g M sl ps as bd .busy none) }
   | _=>none
 | none=>none
def mM (lo:Lo) (N:Nat) (f:FuncId) (ro:Option Nat) (g:Operand) (ps:List Tmp) (as b:Code) (s:VS):Option (Option Code×VS):=match ro with
 | some _=>none
 | none=>match cO (bO s.sl g) with
   | some c=>match nA c with
     | some (h,dR)=>match lo.call h (.c (.yl (s.rs.length+1))::dR) (s.rs++[.l7,.loop f N s.sl ps as b .ready none]) with
       | some (_,aE)=>match aY aE (s.rs.length+1) with
         | some (.loop _ _ _ _ _ _ .ready none)=>some (none,{ s with rs:=setAt aE (s.rs.length+1) .dead,df:=s.rs.length::s.df })
         | some (.loop _ _ _ _ _ _ .done (some c))=>some (some c,{ s with rs:=setAt aE (s.rs.length+1) .dead,df:=s.rs.length::s.df })
         | _=>none
       | none=>none
     | none=>none
   | none=>none
def xr (j:Option Code) (k:List Item):List Item:=match j with
 | some c=>.code c::k
 | none=>k
def v8 (T:dn) (lo:Lo) (hi:Hint) (N:Nat) (f:FuncId) (ro:Option Nat) (n:Nat):List Item→VS→Option (Option Code×VS):=Nat.rec (fun _ _=>none) (fun _ ih todo s=>match todo with
 | []=>some (none,s)
 | x::k=>match x with
   | .inBlock _=>ih k s
   | .inLoop c=>ih (.code c::.inLoop c::k) s
   | .beginRound=>match rB ro s with
     | some s'=>ih k s'
     | none=>none
   | .code c=>match c with
     | .skip=>ih k s
     | .label _=>ih k s
     | .ret=>some (some .ret,s)
     | .seq a b=>ih (.code a::.code b::k) s
     | .cond c a b=>match iz (bO s.sl c) with
       | some p=>ih (.code (Bool.rec b a p)::k) s
       | none=>none
     | .block id c=>ih (.code c::.inBlock id::k) s
     | .loop c=>ih (.code c::.inLoop c::k) s
     | .exit id=>match exitTo id k with
       | some k'=>ih k' s
       | none=>some (some (.exit id),s)
     | .region id ops draw=>match regionF T lo hi N f ro id ops.toList draw s with
       | some s'=>ih k s'
       | none=>none
     | .rangeFunc g ps as b=>match mM lo N f ro g ps.toList as b s with
       | some (j,s')=>ih (xr j k) s'
       | none=>none
     | _=>none
   | _=>none) n
def MG (l:List Nat):List ae→Option (List ae):=List.rec (fun rs=>some rs) (fun r _ ih rs=>match aY rs r with
 | some .l7=>ih (setAt rs r .dead)
 | _=>none) l
def s8 (T:dn) (s:VS) (x:ResultVar):Option (Bool×List C):=match (match x with
  | .tmp t=>eb s.sl t
  | .cell ad t=>jS T s t (.tmp ad)) with
 | some (.c x)=>some (false,[x])
 | some (.a l)=>some (true,l)
 | _=>none
def zY (T:dn) (s:VS) (l:List ResultVar):Option (List (Bool×List C)):=List.rec (some []) (fun x _ ih=>match s8 T s x,ih with
 | some q,some l=>some (q::l)
 | _,_=>none) l
def Rs (T:dn) (s:VS) (l:List ResultVar):Option D:=match zY T s l with
 | some [(false,[x])]=>some (.c x)
 | some [(true,l)]=>some (.a l)
 | some l=>some (.t l)
 | none=>none
def JH (T:dn) (s:VS) (l:List ResultVar):Option (D×List ae):=match MG s.df s.rs with
 | some rs=>match Rs T { s with rs:=rs } l with
   | some d=>some (d,rs)
   | none=>none
 | none=>none
def J1 (j:Option Code):Bool:=match j with
 | none=>true
 | some .ret=>true
 | _=>false
def K8 (N:Nat) (ps:List Tmp):List D→aG→Option aG:=List.rec (fun ds sl=>match ds with
 | []=>some sl
 | _=>none) (fun t _ ih ds sl=>match ds with
 | d::ds=>Bool.rec none (ih ds ((t,d,[])::sl)) (Nat.blt t N)
 | []=>none) ps
def KD (T:dn) (hi:Hint) (F:FuncId→Option Func) (fuel:Nat) (lo:Lo) (f:FuncId) (ds:List D) (rs:List ae):Option (D×List ae):=match F f with
 | some fn=>match fn.body with
   | some c=>Bool.rec none (match v8 T lo hi fn.ntmps f none fuel [.code c] ⟨cH 0 ds,rs,[]⟩ with
     | some (j,s)=>Bool.rec none (JH T s fn.results.toList) (J1 j)
     | none=>none) (Nat.ble ds.length fn.ntmps)
   | none=>none
 | none=>none
def Mn (T:dn) (hi:Hint) (F:FuncId→Option Func) (Kn:FuncId→Option D) (fuel:Nat) (lo:Lo) (f:FuncId) (ds:List D) (rs:List ae):Option (D×List ae):=match Kn f with
 | some d=>match ds with
   | []=>some (d,rs)
   | _=>none
 | none=>KD T hi F fuel lo f ds rs
def yv (r:Nat) (j:Option Code) (s:VS):Option (D×List ae):=match s.df with
 | []=>match aY s.rs r with
   | some (.loop f N sl ps as bd .busy none)=>match j with
     | none=>some (bool true,setAt s.rs r (.loop f N sl ps as bd .ready none))
     | some c=>some (bool false,setAt s.rs r (.loop f N sl ps as bd .done (some c)))
   | _=>none
 | _=>none
def QY (T:dn) (hi:Hint) (fuel:Nat) (lo:Lo) (r:Nat) (ds:List D) (rs:List ae):Option (D×List ae):=match aY rs r with
 | some (.loop f N sl ps as bd .ready none)=>match K8 N ps ds sl with
   | some sl=>match v8 T lo hi N f (some r) fuel [.code as,.beginRound,.code bd] ⟨sl,rs,[]⟩ with
     | some (j,s)=>yv r j s
     | none=>none
   | none=>none
 | _=>none
def Y2 (T:dn) (hi:Hint) (F:FuncId→Option Func) (Kn:FuncId→Option D) (fuel:Nat) (n:Nat):Lo:=Nat.rec ⟨fun _ _ _=>none,fun _ _ _=>none,fun rs aE=>tq rs.length rs aE 0,fun _ _ _=>none⟩ (fun _ ih=>⟨Mn T hi F Kn fuel ih,QY T hi fuel ih,fun rs aE=>tq rs.length rs aE 0,fun _ _ _=>none⟩) n
end
open Go.RowKit
structure Kept (E E':Env):Prop where
 le:Env.le E E'
 free:∀ q:Nat,E[q]?=some hole→E'[q]?=some hole
theorem Kept.refl (E:Env):Kept E E:=⟨Env.le_refl E,fun _ h=>h⟩
theorem Kept.trans {E F G:Env} (h:Kept E F) (k:Kept F G):Kept E G:=⟨h.le.trans k.le,fun q e=>k.free q (h.free q e)⟩
theorem Kept.Gi {E E':Env} {b:Nat} (h:kX b E E') (hb:E.length≤b):Kept E E':=⟨h.le,fun q e=>h.free q (fun hq=>by
 have:=(List.getElem?_eq_some_iff.1 e).1
 omega) e⟩
theorem Kept.Rp {E E':Env} (h:Kept E E') (b:Nat):kX b E E':=⟨h.le,fun q _=>h.free q⟩
def Lg (diff:List ae→List ae→Option (List (Nat×ae))):Prop:=∀ rs aE ws,diff rs aE=some ws→∀ (q:Nat) (x:ae),(writes ws rs)[q]?=some x→aE[q]?=some x∧(rs[q]?=some x∨j6 rs.length x=true)
structure gm (T:dn) (P:Program) (lo:Lo):Prop where
 call:∀ f ds rs d aE,lo.call f ds rs=some (d,aE)→Enters P f∧∀ (N:Nat) (aw:Nat→Prop) (w0:Kp) (sp:List (D×Value)) (sl:aG) (df:List Nat) (a:Act) (w:World) (E:Env) (vs:List Value),R T N aw w0 sp ⟨sl,rs,df⟩ a w E→az (aJ E (AV aw rs E) w) ds vs→
  Go.Calls P f vs.toArray w fun e w'=>∃ v E',e=.returned v∧Kept E E'∧R T N aw w0 sp ⟨sl,aE,df⟩ a w' E'∧aJ E' (AV aw aE E') w' d v
 Jc:∀ r ds rs d aE,lo.Jc r ds rs=some (d,aE)→∀ (N:Nat) (aw:Nat→Prop) (w0:Kp) (sp:List (D×Value)) (sl:aG) (df:List Nat) (a:Act) (w:World) (E:Env) (vs:List Value),R T N aw w0 sp ⟨sl,rs,df⟩ a w E→az (aJ E (AV aw rs E) w) ds vs→
  ∃ b sz f tm as bd,a7 E r b sz∧(Instr.yield b vs.toArray).run P w=.ok (.round b f tm as bd) w∧
   vb P b f tm as bd w fun v w'=>∃ E',Kept E E'∧R T N aw w0 sp ⟨sl,aE,df⟩ a w' E'∧aJ E' (AV aw aE E') w' d v
 diff:Lg lo.diff
 wr:∀ f ds rs d q x,lo.wr f ds rs=some (d,q,x)→Enters P f∧∀ (N:Nat) (aw:Nat→Prop) (w0:Kp) (sp:List (D×Value)) (sl:aG) (df:List Nat) (a:Act) (w:World) (E:Env) (vs:List Value),R T N aw w0 sp ⟨sl,rs,df⟩ a w E→az (aJ E (AV aw rs E) w) ds vs→
  Go.Calls P f vs.toArray w fun e w'=>∃ v E',e=.returned v∧Kept E E'∧R T N aw w0 sp ⟨sl,place q x rs,df⟩ a w' E'∧aJ E' (AV aw (place q x rs) E') w' d v
 mono:∀ f ds rs nr r,rs.length=nr.length→(∀ (q:Nat) (x:ae),aY rs q=some x→x.live→aY nr q=some x)→lo.wr f ds rs=some r→lo.wr f ds nr=some r
section
variable {P:Program} {T:dn} {lo:Lo} {hi:Hint} {N:Nat} {aw:Nat→Prop} {w0:Kp} {sp:List (D×Value)} {s:VS} {a:Act} {w:World} {E:Env}
theorem R.none {av:Nat→Prop} (eY:∀ b,av b→b<w.heap.size) (hg:mf T av w):R T 0 av (Kp.of w) [] ⟨[],[],[]⟩ { tmps := #[],defers:=[] } w []:=
 ⟨rfl,.nil,fun _ hx=>(by cases hx),Kp.holds_of (Below.refl _ _),rfl,fun b q=>⟨eY b q,fun q=>q⟩,fun r x e h1=>(by simp at h1),fun r x b sz h1=>(by simp at h1),fun r r' x x' b sz cj h1=>(by simp at h1),fun t d c h1=>(by simp [look] at h1),hg.mono (aZ.refl _ w) (fun b _ q=>q.elim id fun ⟨r,x,sz,h1,_⟩=>by simp at h1)⟩
theorem qX {av:Nat→Prop}:∀ b,AV av [] [] b↔av b:=fun b=>⟨fun q=>q.elim id fun ⟨r,x,sz,h1,_⟩=>by simp at h1,.inl⟩
theorem gm.pure (hl:gm T P lo) {f:FuncId} {is:List D} {d:D} {aE:List ae} (e:lo.call f is []=some (d,aE)) {d':D} (e':aQ aE d=some d'):Cp T P f is d':=by
 intro av w vs eY TS sP
 have h0:=(hl.call f is [] d aE e).2 0 av (Kp.of w) [] [] [] _ w [] vs (R.none eY TS) (sP.mono fun _ _ q=>aJ.mono (Env.le_refl []) (aZ.refl _ w) (fun b _ q=>(qX b).1 q) q)
 refine h0.mono ?_
 rintro e w' ⟨v,E',rfl,_,hR,hd⟩
 exact ⟨v,rfl,oF hR (ji.outer hR) e' hd,hR.below.below⟩
theorem TU (hl:gm T P lo):Qw T P ⟨fun f is=>match lo.call f is [] with
  | some (d,aE)=>match aQ aE d with
    | some d'=>some (none,d')
    | none=>none
  | none=>none,fun _ _ _=>none,fun _ _ _=>none⟩ where
 Tw f ds p d e:=by
  simp only at e
  split at e
  case h_2=>simp at e
  rename_i d0 aE h1
  split at e
  case h_2=>simp at e
  rename_i d' h2
  simp only [ak,a8] at e
  obtain ⟨rfl,rfl⟩:=e
  exact ⟨(hl.call _ _ _ _ _ h1).1,fun _=>hl.pure h1 h2⟩
 Yx _ _ _ _ _ _ e:=by simp at e
 Jc _ _ _ _ _ _ e:=by simp at e
theorem uU (hl:gm T P lo) (h:R T N aw w0 sp s a w E) {f:FuncId} {ds:List D} {d:D} (e:wu lo s.rs f ds=some d) (hs:(eQ ds||gK d)=true) (hd:jl d=true) {vs:List Value} (hv:az (aJ E (AV aw s.rs E) w) ds vs) :
  Enters P f∧Go.Calls P f vs.toArray w fun e w'=>∃ v,e=.returned v∧Below w.heap.size w w'∧aJ E (AV aw s.rs E) w' d v:=by
 unfold wu at e
 split at e
 case h_2=>simp at e
 rename_i is hi
 split at e
 case h_2=>simp at e
 rename_i d0 aE h1
 have hc:=TU hl
 have hp:(match lo.call f is [] with
  | some (d,aE)=>match aQ aE d with
    | some d'=>some ((none:Option Prop),d')
    | none=>none
  | none=>none)=some (none,d):=by rw [h1]; simp only [e]
 exact ⟨(hl.call _ _ _ _ _ h1).1,KF hc h hi hp trivial hs hd hv⟩
def iN (T:dn) (P:Program) (N:Nat) (aw:Nat→Prop) (w0:Kp) (sp:List (D×Value)) (s:VS) (a:Act) (w:World) (E:Env) (b:Nat) (e:bP) (f:FuncId) (vs:List Value):Prop:=
 Enters P f∧Go.Calls P f vs.toArray w fun en w'=>∃ v E',en=.returned v∧hJ T N aw w0 sp s a w E b e v w' E'
theorem hJ.w9 (h:R T N aw w0 sp s a w E) {b:Nat} {d:D} {v:Value} {w':World} (hb:Below w.heap.size w w') (hd:aJ E (AV aw s.rs E) w' d v):hJ T N aw w0 sp s a w E b (.val d) v w' E:=
 ⟨kX.refl _ _,h.grown hb,fun d' nW=>by simp only [dt,ak] at nW; subst nW; exact hd⟩
theorem et {rs:List ae} {ds:List D} {e e':bP} (h:iy rs ds e=some e'):(∃ l,e'=.cp l)∨(e'=e∧sf rs ds=some []):=by
 unfold iy at h
 split at h
 ·simp only [ak] at h; exact .inl ⟨_,h.symm⟩
 ·rename_i hs; simp only [ak] at h; exact .inr ⟨h.symm,hs⟩
 ·simp at h
theorem ka:∀ {l:List C},eJ l=true→fh l=true
 | [],_=>rfl
 | c::l,h=>by
   cases c with
   | im x=>cases x with
     | v x=>simp only [eJ] at h; simp only [fh]; exact ka h
     | _=>simp [eJ] at h
   | _=>simp [eJ] at h
theorem rQ {d:D} (h:gK d=true):jl d=true:=by
 cases d with
 | c x=>exact ka (l:=[x]) h
 | a l=>exact ka h
 | t l=>simp only [gK,jl,List.all_eq_true] at h ⊢; exact fun x hx=>ka (h x hx)
theorem lk {rec:List C→Option (List Nat)} {rs:List ae}:∀ {l:List C},BU rec rs l=some []→fh l=true
 | [],_=>rfl
 | x::l,h=>by
   have h:(match RI rec rs x with
    | some a=>match BU rec rs l with
      | some b=>some (a++b)
      | none=>none
    | none=>none)=some []:=h
   split at h
   case h_2=>simp at h
   rename_i m hm
   split at h
   case h_2=>simp at h
   rename_i k hk
   simp only [ak,List.append_eq_nil_iff] at h
   obtain ⟨rfl,rfl⟩:=h
   unfold RI at hm
   split at hm
   ·simp only [fh]; exact lk hk
   ·split at hm
    ·split at hm
     ·simp at hm
     ·simp at hm
    ·simp at hm
    ·simp at hm
    ·simp at hm
   ·simp at hm
theorem ny {rs:List ae}:∀ {ds:List D},sf rs ds=some []→eQ ds=true
 | [],_=>rfl
 | d::ds,h=>by
   have h:(match Dk rs d,sf rs ds with
    | some a,some b=>some (a++b)
    | _,_=>none)=some []:=h
   split at h
   case h_2=>simp at h
   rename_i m k hm hk
   simp only [ak,List.append_eq_nil_iff] at h
   obtain ⟨rfl,rfl⟩:=h
   have hd:jl d=true:=by
    cases d with
    | c x=>exact lk (l:=[x]) hm
    | a l=>exact lk hm
    | t l=>simp [Dk] at hm
   simp only [eQ,hd]
   exact ny hk
theorem qd (hl:gm T P lo) (h:R T N aw w0 sp s a w E) {b:Nat} {f:FuncId} {ds:List D} {e:bP} (ef:gn lo s.rs f ds=some e) {vs:List Value} (hv:az (aJ E (AV aw s.rs E) w) ds vs) :
  (∃ l,e=.cp l)∨iN T P N aw w0 sp s a w E b e f vs:=by
 unfold gn at ef
 split at ef
 case h_2=>simp at ef
 rename_i d hd
 have fin:(eQ ds||gK d)=true→jl d=true→iN T P N aw w0 sp s a w E b (.val d) f vs:=fun h1 h2=>by
  obtain ⟨h3,h4⟩:=uU hl h hd h1 h2 hv
  refine ⟨h3,h4.mono ?_⟩
  rintro en w' ⟨v,rfl,hb,hr⟩
  exact ⟨v,E,rfl,hJ.w9 h hb hr⟩
 cases hp:gK d with
 | true=>
   rw [hp] at ef
   simp only [ak] at ef
   subst ef
   exact .inr (fin (by simp [hp]) (rQ hp))
 | false=>
   rw [hp] at ef
   obtain ⟨h1,ef⟩:=Bool.aq (show (Bool.rec none (iy s.rs ds (.val d)) (jl d):Option bP)=some e from ef)
   rcases et ef with hc|⟨rfl,hc⟩
   ·exact .inl hc
   ·exact .inr (fin (by simp [ny hc]) h1)
theorem ve (hl:gm T P lo) (h:R T N aw w0 sp s a w E) {b:Nat} {f:FuncId} {ds:List D} {e:bP} (ef:rl lo s.rs f ds=some e) {vs:List Value} (hv:az (aJ E (AV aw s.rs E) w) ds vs) :
  iN T P N aw w0 sp s a w E b e f vs:=by
 unfold rl at ef
 split at ef
 case h_2=>simp at ef
 rename_i d aE hd
 simp only [ak] at ef
 subst ef
 obtain ⟨h1,h2⟩:=hl.call _ _ _ _ _ hd
 refine ⟨h1,(h2 N aw w0 sp s.sl s.df a w E vs h hv).mono ?_⟩
 rintro en w' ⟨v,E',rfl,hk,hR,hr⟩
 exact ⟨v,E',rfl,hk.Rp b,hR,fun d' nW=>by simp only [dt,ak] at nW; subst nW; exact hr⟩
theorem HN (hl:gm T P lo) (h:R T N aw w0 sp s a w E) {b:Nat} {f:FuncId} {ds:List D} {e:bP} (ef:MQ lo s.rs f ds=some e) {vs:List Value} (hv:az (aJ E (AV aw s.rs E) w) ds vs) :
  iN T P N aw w0 sp s a w E b e f vs:=by
 unfold MQ at ef
 split at ef
 case h_2=>simp at ef
 rename_i d q x hd
 replace ef:=(Bool.aq ef).2
 simp only [ak] at ef
 subst ef
 obtain ⟨h1,h2⟩:=hl.wr _ _ _ _ _ _ hd
 refine ⟨h1,(h2 N aw w0 sp s.sl s.df a w E vs h hv).mono ?_⟩
 rintro en w' ⟨v,E',rfl,hk,hR,hr⟩
 exact ⟨v,E',rfl,hk.Rp b,hR,fun d' nW=>by simp only [dt,ak] at nW; subst nW; exact hr⟩
theorem jX {w w':World} (h:Below w.heap.size w w'):w.grownBy w' none:=⟨h.os,h.tape,h.output,h.size,fun k hk _=>h.block k hk⟩
theorem ld {rs:List ae} {f:FuncId} {ds:List D} {b:Nat} {d:Option D} {ws:List (Nat×ae)} (e:tQ lo rs f ds b=some (.wr d ws)) :
  (∃ is q n aE el sz l,cP rs ds=some is∧lo.call f is []=some (.c (.sa q n),aE)∧nth aE q=some (.row el sz n l)∧fh l=true∧d=some (.c (.sa b n))∧ws=[(b,.row el sz n l)]) ∨
  (∃ is q n aE el sz get,cP rs ds=some is∧lo.call f is []=some (.c (.sa q n),aE)∧nth aE q=some (.arr el sz n get)∧d=some (.c (.sa b n))∧ws=[(b,.arr el sz n get)]):=by
 unfold tQ at e
 split at e
 case h_2=>simp at e
 rename_i is hi
 split at e
 ·rename_i q m aE hc
  split at e
  case h_3=>simp at e
  ·rename_i el sz n l hl
   obtain ⟨h1,e⟩:=Bool.aq e
   simp only [cG] at h1
   have h2:=bs h1.1
   subst h2
   rw [bI] at hl
   simp only [ak,bP.wr.injEq] at e
   exact .inl ⟨is,q,m,aE,el,sz,l,hi,hc,hl,h1.2,e.1.symm,e.2.symm⟩
  ·rename_i el sz n get hl
   obtain ⟨h1,e⟩:=Bool.aq e
   have h2:=bs h1
   subst h2
   rw [bI] at hl
   simp only [ak,bP.wr.injEq] at e
   exact .inr ⟨is,q,m,aE,el,sz,get,hi,hc,hl,e.1.symm,e.2.symm⟩
 ·split at e
  case h_2=>simp at e
  obtain ⟨_,e⟩:=Bool.aq e
  simp at e
 ·simp at e
theorem vG {E E':Env} {av cF:Nat→Prop} {w w':World} (hk:aZ av w w') (ha:∀ b,b<w.heap.size→cF b→av b):∀ {l:List C} {xs:List Value},fh l=true→az (aU E av w) l xs→az (aU E' cF w') l xs
 | [],_,_,.nil=>.nil
 | c::l,_,h,.cons q k=>by
   cases c with
   | im x=>exact .cons (cA.mono (x:=x) hk ha q) (vG hk ha (by simpa [fh] using h) k)
   | _=>simp [fh] at h
theorem EU (hl:gm T P lo) (h:R T N aw w0 sp s a w E) {b:Nat} (hf:j9 s E b) {f:FuncId} {ds is:List D} {q n el sz:Nat} {aE:List ae} {l:List C} (hi:cP s.rs ds=some is)
  (hc:lo.call f is []=some (.c (.sa q n),aE)) (hq:nth aE q=some (.row el sz n l)) (hp:fh l=true) (hs:eJ l=true∨eQ ds=true) {vs:List Value} (hv:az (aJ E (AV aw s.rs E) w) ds vs) :
  iN T P N aw w0 sp s a w E b (.wr (some (.c (.sa b n))) [(b,.row el sz n l)]) f vs:=by
 obtain ⟨h1,h2⟩:=hl.call _ _ _ _ _ hc
 refine ⟨h1,?_⟩
 have avlt:∀ b,AV aw s.rs E b→b<w.heap.size:=by
  rintro b (q|⟨r,x,sz,h1,h2,h3⟩)
  ·exact h.iQ q
  ·exact (h.cT r x b sz h1 h2 h3).2
 have key:∃ av:Nat→Prop,(∀ b,av b→b<w.heap.size)∧mf T av w∧az (aJ [] av w) is vs∧(eJ l=true∨∀ k,AV aw s.rs E k→av k):=by
  rcases hs with hs|hs
  ·exact ⟨fun _=>False,fun _ q=>q.elim,h.fL.mono (aZ.refl _ w) (fun _ _ q=>q.elim),nl h (ji.none aw s E) hi hv,.inl hs⟩
  ·exact ⟨AV aw s.rs E,avlt,h.fL,hZ hs hi hv,.inr fun _ q=>q⟩
 obtain ⟨av,eY,TS,sP,hcase⟩:=key
 refine (h2 0 av (Kp.of w) [] [] [] _ w [] vs (R.none eY TS) (sP.mono fun _ _ q=>aJ.mono (Env.le_refl []) (aZ.refl _ w) (fun b _ q=>(qX b).1 q) q)).mono ?_
 rintro en w' ⟨v,E1,rfl,_,hR,hd⟩
 obtain ⟨e0,ao,n',cap,g1,g2,g3,rfl⟩:=hd
 rw [bc] at hq
 obtain ⟨r1,r2,xs,r3,r4⟩:=hR.roots q _ _ hq g1
 have hvn:e0.2.1.1=.slice ao n cap:=by
  rcases r3.2 with ⟨q5,q6⟩|⟨g,cap2,cur,q5,_⟩
  ·rw [g2] at q5 ⊢; simp only [dz] at q5 ⊢; simp; omega
  ·rw [g2] at q5 ⊢; simp only [dz] at q5 ⊢; simp; omega
 have hb:=hR.below.below
 have eU:w'.ownsRow w0.base el sz (.slice ao n cap) n xs:=by
  rw [hvn] at r3
  refine ⟨r3.1,r3.2.imp id ?_⟩
  rintro ⟨g,cap2,cur,q5,q6,q7⟩
  exact ⟨g,cap2,cur,q5,bU h.size_le q6,q7⟩
 have ik:∀ k,(Value.slice ao n cap).ownBlock=some k→w.heap.size≤k∧k<w'.heap.size∧a7 E1 q k e0.2.2:=by
  intro k hk
  have ir:a7 E1 q k e0.2.2:=by
   obtain ⟨e1,e2,e3⟩:=e0
   have r2:e1=e2.1.ownBlock:=r2
   have hvn:e2.1=_:=hvn
   rw [hvn,hk] at r2
   exact ⟨e2,by rw [g1,r2]⟩
  have:=hR.Wd q _ k e0.2.2 hq trivial ir
  exact ⟨this.1.base,this.2,ir⟩
 obtain ⟨E',h4,h5,h6,h7⟩:=h.make hf (dead:=Option.none) (x:=.row el sz n l) (e:=((Value.slice ao n cap).ownBlock,lS (.slice ao n cap),sz)) (w':=w') (row:=Option.none) (jX hb) (fun k hk=>by cases hk)
  (fun k hk=>.inr (ik k hk).1) (fun k hk=>(ik k hk).2.1) (fun E' cF hE VU pM hk=>⟨rfl,rfl,xs,eU,by
   rcases hcase with LX|hcase
   ·exact iH LX r4
   ·refine vG (aZ.refl _ w') (fun k jN q=>?_) hp r4
    rcases pM k q with q|q
    ·exact .inl (hcase k q)
    ·exact .inr ⟨_,_,_,hq,trivial,(ik k (q.resolve_right fun q=>q)).2.2.own⟩⟩)
 ·refine ⟨_,E',rfl,h6,h4,fun d hd=>?_⟩
  simp only [dt,ak] at hd
  subst hd
  rcases eU.2 with ⟨q5,q6⟩|⟨g,cap2,cur,q5,_⟩
  ·exact ⟨_,ao,n,cap,h5,rfl,bf _,rfl⟩
  ·exact ⟨_,ao,n,cap,h5,rfl,bf _,rfl⟩
theorem OG (hl:gm T P lo) (h:R T N aw w0 sp s a w E) {b:Nat} (hf:j9 s E b) {f:FuncId} {ds is:List D} {q n el sz:Nat} {aE:List ae} {get:Nat→Nat→I} (hi:cP s.rs ds=some is)
  (hc:lo.call f is []=some (.c (.sa q n),aE)) (hq:nth aE q=some (.arr el sz n get)) (hs:eQ ds=true) {vs:List Value} (hv:az (aJ E (AV aw s.rs E) w) ds vs) :
  iN T P N aw w0 sp s a w E b (.wr (some (.c (.sa b n))) [(b,.arr el sz n get)]) f vs:=by
 obtain ⟨h1,h2⟩:=hl.call _ _ _ _ _ hc
 refine ⟨h1,?_⟩
 have avlt:∀ b,AV aw s.rs E b→b<w.heap.size:=by
  rintro b (q|⟨r,x,sz,h1,h2,h3⟩)
  ·exact h.iQ q
  ·exact (h.cT r x b sz h1 h2 h3).2
 have key:∃ av:Nat→Prop,(∀ b,av b→b<w.heap.size)∧mf T av w∧az (aJ [] av w) is vs∧(∀ k,AV aw s.rs E k→av k):=
  ⟨AV aw s.rs E,avlt,h.fL,hZ hs hi hv,fun _ q=>q⟩
 obtain ⟨av,eY,TS,sP,hcase⟩:=key
 refine (h2 0 av (Kp.of w) [] [] [] _ w [] vs (R.none eY TS) (sP.mono fun _ _ q=>aJ.mono (Env.le_refl []) (aZ.refl _ w) (fun b _ q=>(qX b).1 q) q)).mono ?_
 rintro en w' ⟨v,E1,rfl,_,hR,hd⟩
 obtain ⟨e0,ao,n',cap,g1,g2,g3,rfl⟩:=hd
 rw [bc] at hq
 obtain ⟨r1,r2,xs,r3,r4⟩:=hR.roots q _ _ hq g1
 have hvn:e0.2.1.1=.slice ao n cap:=by
  rcases r3.2 with ⟨q5,q6⟩|⟨g,cap2,cur,q5,_⟩
  ·rw [g2] at q5 ⊢; simp only [dz] at q5 ⊢; simp; omega
  ·rw [g2] at q5 ⊢; simp only [dz] at q5 ⊢; simp; omega
 have hb:=hR.below.below
 have eU:w'.ownsRow w0.base el sz (.slice ao n cap) n xs:=by
  rw [hvn] at r3
  refine ⟨r3.1,r3.2.imp id ?_⟩
  rintro ⟨g,cap2,cur,q5,q6,q7⟩
  exact ⟨g,cap2,cur,q5,bU h.size_le q6,q7⟩
 have ik:∀ k,(Value.slice ao n cap).ownBlock=some k→w.heap.size≤k∧k<w'.heap.size∧a7 E1 q k e0.2.2:=by
  intro k hk
  have ir:a7 E1 q k e0.2.2:=by
   obtain ⟨e1,e2,e3⟩:=e0
   have r2:e1=e2.1.ownBlock:=r2
   have hvn:e2.1=_:=hvn
   rw [hvn,hk] at r2
   exact ⟨e2,by rw [g1,r2]⟩
  have:=hR.Wd q _ k e0.2.2 hq trivial ir
  exact ⟨this.1.base,this.2,ir⟩
 obtain ⟨E',h4,h5,h6,h7⟩:=h.make hf (dead:=Option.none) (x:=.arr el sz n get) (e:=((Value.slice ao n cap).ownBlock,lS (.slice ao n cap),sz)) (w':=w') (row:=Option.none) (jX hb) (fun k hk=>by cases hk)
  (fun k hk=>.inr (ik k hk).1) (fun k hk=>(ik k hk).2.1) (fun E' cF hE VU pM hk=>⟨rfl,rfl,xs,eU,fun i hi j hj=>by
   obtain ⟨x,g5,g6⟩:=r4 i hi j hj
   exact ⟨x,g5,cA.mono (aZ.refl _ w') (fun k jN q=>by
    rcases pM k q with q|q
    ·exact .inl (hcase k q)
    ·exact .inr ⟨_,_,_,hq,trivial,(ik k (q.resolve_right fun q=>q)).2.2.own⟩) g6⟩⟩)
 ·refine ⟨_,E',rfl,h6,h4,fun d hd=>?_⟩
  simp only [dt,ak] at hd
  subst hd
  rcases eU.2 with ⟨q5,q6⟩|⟨g,cap2,cur,q5,_⟩
  ·exact ⟨_,ao,n,cap,h5,rfl,bf _,rfl⟩
  ·exact ⟨_,ao,n,cap,h5,rfl,bf _,rfl⟩
theorem NU (hl:gm T P lo) (h:R T N aw w0 sp s a w E) {b:Nat} (hf:j9 s E b) {f:FuncId} {ds is:List D} {cs mc:List C} {L:List O} (hi:cP s.rs ds=some is)
  (hc:lo.call f is []=some (.a cs,[.own L])) (hm:pH (NH b) cs=some mc) (hs:eQ ds=true) {vs:List Value} (hv:az (aJ E (AV aw s.rs E) w) ds vs) :
  iN T P N aw w0 sp s a w E b (.wr (some (.a mc)) [(b,.own L)]) f vs:=by
 obtain ⟨h1,h2⟩:=hl.call _ _ _ _ _ hc
 refine ⟨h1,?_⟩
 have avlt:∀ b,AV aw s.rs E b→b<w.heap.size:=by
  rintro b (q|⟨r,x,sz,h1,h2,h3⟩)
  ·exact h.iQ q
  ·exact (h.cT r x b sz h1 h2 h3).2
 refine (h2 0 (AV aw s.rs E) (Kp.of w) [] [] [] _ w [] vs (R.none avlt h.fL) ((hZ hs hi hv).mono fun _ _ q=>aJ.mono (Env.le_refl []) (aZ.refl _ w) (fun b _ q=>(qX b).1 q) q)).mono ?_
 rintro en w' ⟨v,E1,rfl,_,hR,hd⟩
 obtain ⟨ca,rfl,hcs⟩:=hd
 have hlen:0<E1.length:=by rw [hR.len]; exact Nat.lt_succ_self 0
 have he:=gj hlen
 generalize E1[0]=e0 at he
 have hroot:=hR.roots 0 _ _ rfl he
 obtain ⟨r1,r2,vt,r3,r4,Ks,r5,r6,r7⟩:=hroot
 have hb:=hR.below.below
 have hnew:∀ k,e0.2.1.2 k→w.heap.size≤k∧k<w'.heap.size:=fun k hk=>by
  have:=hR.cT 0 _ k e0.2.2 rfl trivial ⟨e0,he,rfl,.inr hk⟩
  exact ⟨this.1.base,this.2⟩
 have avw:∀ {cF:Nat→Prop},(∀ k,cF k→AV aw s.rs E k∨gr.has (Option.none,e0.2.1,0) k)→∀ k,cF k→AV (AV aw s.rs E) [.own L] E1 k:=fun pM k q=>by
  rcases pM k q with q|q|q
  ·exact .inl q
  ·cases q
  ·exact .inr ⟨0,_,_,rfl,trivial,e0,he,rfl,.inr q⟩
 obtain ⟨E',h4,h5,h6,h7⟩:=h.make hf (dead:=Option.none) (x:=.own L) (e:=(Option.none,e0.2.1,0)) (w':=w') (row:=Option.none) (jX hb) (fun k hk=>by cases hk)
  (fun k hk=>by cases hk) (fun k hk=>by cases hk) (fun E' cF hE VU pM hk=>⟨rfl,r2,vt,r3,r4,Ks,r5,r6,fun i o ho=>by
   obtain ⟨v,g1,g2⟩:=r7 i o ho
   exact ⟨v,g1,je.base h.size_le (je.mono (aZ.refl _ w') (fun k _ q=>avw pM k q) (fun _ _=>rfl) g2)⟩⟩) (fun k hk=>.inr (hnew k hk))
 refine ⟨_,E',rfl,h6,h4,fun d hd=>?_⟩
 simp only [dt,ak] at hd
 subst hd
 have hav3:∀ k,AV aw (place b (.own L) (kill Option.none s.rs)) E' k→AV (AV aw s.rs E) [.own L] E1 k:=avw h7.2
 refine ⟨ca,rfl,?_⟩
 exact pX (fun c c' v e q=>by
  unfold NH at e
  split at e
  ·simp only [ak] at e; subst e
   exact cA.mono (aZ.refl _ w') (fun k _ q=>hav3 k q) q
  ·simp only [ak] at e; subst e
   obtain ⟨e2,vs2,g1,g2,g3⟩:=q
   rw [he] at g1
   simp only [ak] at g1
   subst g1
   exact ⟨_,vs2,h5,g2,g3⟩
  ·simp at e) hm hcs
theorem jD {lo:Lo} {rs:List ae} {f:FuncId} {ds:List D} {b:Nat} {e:bP} (h:wq lo rs f ds b=some e):∃ is cs mc L,eQ ds=true∧cP rs ds=some is∧lo.call f is []=some (.a cs,[.own L])∧pH (NH b) cs=some mc∧e=.wr (some (.a mc)) [(b,.own L)]:=by
 unfold wq at h
 obtain ⟨hp,h⟩:=Bool.aq h
 split at h
 case h_2=>simp at h
 rename_i is hi
 split at h
 case h_2=>simp at h
 rename_i cs L hc
 split at h
 case h_2=>simp at h
 rename_i mc hm
 simp only [ak] at h
 exact ⟨is,cs,mc,L,hp,hi,hc,hm,h.symm⟩
theorem DX (hl:gm T P lo) (h:R T N aw w0 sp s a w E) {b:Nat} (hf:j9 s E b) {f:FuncId} {ds:List D} {e:bP} (ef:wq lo s.rs f ds b=some e) {vs:List Value} (hv:az (aJ E (AV aw s.rs E) w) ds vs) :
  iN T P N aw w0 sp s a w E b e f vs:=by
 obtain ⟨is,cs,mc,L,hp,hi,hc,hm,rfl⟩:=jD ef
 exact NU hl h hf hi hc hm hp hv
theorem zQ (hl:gm T P lo) (h:R T N aw w0 sp s a w E) {b:Nat} (hf:j9 s E b) {f:FuncId} {ds:List D} {e:bP} (ef:fH lo s.rs f ds b=some e) {vs:List Value} (hv:az (aJ E (AV aw s.rs E) w) ds vs) :
  (∃ l,e=.cp l)∨iN T P N aw w0 sp s a w E b e f vs:=by
 unfold fH at ef
 split at ef
 ·rename_i d hd
  simp only [ak] at ef
  subst ef
  right
  unfold tQ at hd
  split at hd
  case h_2=>simp at hd
  rename_i is hi
  split at hd
  ·split at hd
   ·obtain ⟨_,hd⟩:=Bool.aq hd; simp at hd
   ·obtain ⟨_,hd⟩:=Bool.aq hd; simp at hd
   ·simp at hd
  ·rename_i d0 rs0 _ ss
   split at hd
   case h_2=>simp at hd
   rename_i d' hre
   obtain ⟨hp,hd⟩:=Bool.aq hd
   simp only [ak,bP.val.injEq] at hd
   subst hd
   obtain ⟨h3,h4⟩:=uU hl h (f:=f) (ds:=ds) (d:=d') (by simp only [wu,hi,ss,hre]) (by simp [hp]) (rQ hp) hv
   refine ⟨h3,h4.mono ?_⟩
   rintro en w' ⟨v,rfl,hb,hr⟩
   exact ⟨v,E,rfl,hJ.w9 h hb hr⟩
  ·simp at hd
 ·rename_i d q el sz n l ho
  rcases ld ho with ⟨is,q',n',aE,nL,cj,l',hi,hc,hq,hp,hd,hws⟩|⟨is,q',n',aE,nL,cj,get',hi,hc,hq,hd,hws⟩
  case inr=>simp at hws
  simp only [List.cons.injEq,a8,ae.row.injEq,and_true] at hws
  obtain ⟨rfl,rfl,rfl,rfl,rfl⟩:=hws
  subst hd
  cases LX:eJ l with
  | true=>
    rw [LX] at ef
    simp only [ak] at ef
    subst ef
    exact .inr (EU hl h hf hi hc hq hp (.inl LX) hv)
  | false=>
    rw [LX] at ef
    rcases et (show iy s.rs ds _=some e from ef) with hc'|⟨rfl,hc'⟩
    ·exact .inl hc'
    ·exact .inr (EU hl h hf hi hc hq hp (.inr (ny hc')) hv)
 ·rename_i d q el sz n get ho
  rcases ld ho with ⟨is,q',n',aE,nL,cj,l',hi,hc,hq,hp,hd,hws⟩|⟨is,q',n',aE,nL,cj,get',hi,hc,hq,hd,hws⟩
  case inl=>simp at hws
  simp only [List.cons.injEq,a8,ae.arr.injEq,and_true] at hws
  obtain ⟨rfl,rfl,rfl,rfl,rfl⟩:=hws
  subst hd
  rcases et (show iy s.rs ds _=some e from ef) with hc'|⟨rfl,hc'⟩
  ·exact .inl hc'
  ·exact .inr (OG hl h hf hi hc hq (ny hc') hv)
 ·simp at ef
theorem AL (hl:gm T P lo) (h:R T N aw w0 sp s a w E) {b:Nat} (hf:j9 s E b) {f:FuncId} {ds:List D} {e:bP} (ef:mL lo hi s.rs b f ds=some e) {vs:List Value} (hv:az (aJ E (AV aw s.rs E) w) ds vs) :
  (∃ l,e=.cp l)∨iN T P N aw w0 sp s a w E b e f vs:=by
 unfold mL at ef
 split at ef
 ·exact qd hl h ef hv
 ·exact .inr (ve hl h ef hv)
 ·exact zQ hl h hf ef hv
 ·exact .inr (HN hl h ef hv)
 ·exact .inr (DX hl h hf ef hv)
 ·cases hp:eQ ds with
  | true=>rw [hp] at ef; exact qd hl h ef hv
  | false=>rw [hp] at ef; exact .inr (ve hl h ef hv)
theorem sB (h:R T N aw w0 sp s a w E) {c:C} {f:FuncId} {dR:List D} (e:nA c=some (f,dR)) {fv:Value} (hc:aU E (AV aw s.rs E) w c fv) :
  ∃ cs:Array Value,fv=.func (.func f) #[] cs∧az (aJ E (AV aw s.rs E) w) dR cs.toList:=by
 refine A8 h (fd:=.c c) ?_ hc
 unfold nA at e
 split at e
 ·exact e
 ·exact e
 ·simp at e
theorem xY (hl:gm T P lo) (h:R T N aw w0 sp s a w E) (hn:bA s.sl) {b:Nat} (hf:j9 s E b) {o:Oper} {c:Call} (ho:o.op=.call c) {f:Operand} (tD:c.callee=.value f) {e:bP} (ef:kG lo hi b s f c.args.toList=some e)
  {next:Act→World→Prop} (jG:∀ v w' E',hJ T N aw w0 sp s a w E b e v w' E'→next (a.put o.dst v) w'):(∃ l,e=.cp l)∨TB P true o a w next:=by
 have rN:∀ c',o.op ≠ .defer c':=fun c' q=>by rw [ho] at q; cases q
 unfold kG at ef
 split at ef
 case h_2=>simp at ef
 rename_i c0 ds hc0 hds
 have hc0:=h.bO hn (bL hc0)
 have hds:=kj h (bt.nil a) (kT hn hds)
 split at ef
 ·rename_i r
  obtain ⟨b',sz,ir,hfv⟩:=hc0
  unfold yC at ef
  split at ef
  case h_2=>simp at ef
  rename_i d aE hy
  simp only [ak] at ef
  subst ef
  right
  obtain ⟨b2,RV,fr,tm,as,bd,hat2,h1,h2⟩:=hl.Jc _ _ _ _ _ hy N aw w0 sp s.sl s.df a w E _ h hds
  obtain ⟨q1,q2⟩:=ir
  obtain ⟨q3,q4⟩:=hat2
  rw [q2] at q4
  simp only [ak,a8] at q4
  obtain ⟨rfl,rfl,rfl⟩:=q4
  refine .round rfl b' fr tm as bd w rN ?_ fun c' cs=>?_
  ·have oh:(List.map a.eval c.args.toList).toArray=c.args.map a.eval:=by apply Array.ext'; simp
   rw [oh] at h1
   simp only [execOp,ho,resolve,tD,hfv,Deferred.ofValue,Sem.run_bind,Sem.run_pure,Result.andThen_ok,invoke]
   simpa using h1
  ·obtain ⟨v,w',⟨E',hk,h3,h4⟩,h5⟩:=h2 c' cs
   exact ⟨v,w',jG v w' E' ⟨hk.Rp b,h3,fun d' nW=>by simp only [dt,ak] at nW; subst nW; exact h4⟩,h5⟩
 ·split at ef
  case h_2=>simp at ef
  rename_i g dR hcl
  obtain ⟨cs,hfv,hcs⟩:=sB h hcl hc0
  rcases AL hl h hf ef (hds.append hcs) with hq|⟨he,ss⟩
  ·exact .inl hq
  right
  have sP:(List.map a.eval c.args.toList++cs.toList).toArray=c.args.map a.eval++cs:=by
   apply Array.ext'
   simp
  refine .enter g (List.map a.eval c.args.toList++cs.toList).toArray w rN ?_ (ss.mono ?_)
  ·rw [sP]; exact Dj ho tD hfv he
  ·rintro en w' ⟨v,E',rfl,ha⟩
   exact ⟨v,rfl,jG v w' E' ha⟩
theorem oV (bz:dk P T) (hl:gm T P lo) (h:R T N aw w0 sp s a w E) (hn:bA s.sl) {b:Nat} (hf:j9 s E b) {o:Oper} {e:bP} (ef:fk T lo hi b s o.dst o.op=some e)
  {next:Act→World→Prop} (jG:∀ v w' E',hJ T N aw w0 sp s a w E b e v w' E'→next (a.put o.dst v) w'):(∃ l,e=.cp l)∨TB P true o a w next:=by
 unfold fk at ef
 split at ef
 ·rename_i d hd
  simp only [ak] at ef
  subst ef
  obtain ⟨v,h1,h2⟩:=B9 bz h hn hd
  refine .inr (.value v w (fun c q=>?_) h1 (jG v w E ⟨kX.refl _ _,h,fun d' nW=>by simp only [dt,ak] at nW; subst nW; exact h2⟩))
  rw [q] at hd; simp [eK] at hd
 ·generalize hop:o.op=op at ef
  have rN:∀ {op'},o.op=op'→(∀ c,op' ≠ .defer c)→∀ c,o.op ≠ .defer c:=fun q k c=>by rw [q]; exact k c
  cases op with
  | box t x=>
    obtain ⟨E',ha⟩:=EI h hn hf t ef
    exact .inr (.value _ _ (rN hop fun _=>Op.noConfusion) (by simp only [execOp,hop]; rfl) (jG _ _ _ ha))
  | alloc t=>
    obtain ⟨v,w',E',hr,ha⟩:=Aa bz h hf ef
    exact .inr (.value v w' (rN hop fun _=>Op.noConfusion) (hr o hop) (jG _ _ _ ha))
  | store t x v=>
    rcases xH bz h hn ef b with hc|⟨hd,w',hr,ha⟩
    ·exact .inl hc
    exact .inr (.skip w' (rN hop fun _=>Op.noConfusion) (by simp only [execOp,hop]; simp [hr]) (jG _ _ _ ha))
  | buildSlice t n ps=>
    obtain ⟨v,w',E',hr,ha⟩:=Hx bz h hn hf ef
    exact .inr (.value v w' (rN hop fun _=>Op.noConfusion) (by simp only [execOp,hop]; exact bH hr) (jG _ _ _ ha))
  | makeMap t r=>
    obtain ⟨rfl,E',ha⟩:=yh h hf ef
    exact .inr (.value _ _ (rN hop fun _=>Op.noConfusion) (by simp only [execOp,hop]; rfl) (jG _ _ _ ha))
  | makeSlice t l c=>
    obtain ⟨v,w',E',hr,ha⟩:=Cj bz h hn hf ef
    exact .inr (.value v w' (rN hop fun _=>Op.noConfusion) (by simp only [execOp,hop]; exact bH hr) (jG _ _ _ ha))
  | mapUpdate t m k v=>
    obtain ⟨hd,w',hr,ha⟩:=A5 bz h hn ef b
    exact .inr (.skip w' (rN hop fun _=>Op.noConfusion) (by simp only [execOp,hop]; simp [hr]) (jG _ _ _ ha))
  | call c=>
    have ef:fQ T lo hi b s c=some e:=ef
    unfold fQ at ef
    split at ef
    ·rename_i tD
     rcases Ed bz h hn hf ef o.type with hc|⟨v,w',E',hr,ha⟩
     ·exact .inl hc
     refine .inr (.value v w' (rN hop fun _=>Op.noConfusion) ?_ (jG _ _ _ ha))
     have oh:(List.map a.eval c.args.toList).toArray=c.args.map a.eval:=by apply Array.ext'; simp
     rw [oh] at hr
     have hts:c.argTypes.toList.toArray=c.argTypes:=rfl
     rw [hts] at hr
     simp only [execOp,hop,resolve,tD,Sem.run_bind,Sem.run_pure,Result.andThen_ok,invoke,builtin]
     simp [hr]
    ·rename_i f tD
     exact xY hl h hn hf hop tD ef jG
    ·simp at ef
  | _=>simp [fY] at ef
end
open Go.RowKit
def Fr (ρ:Option Nat):Fence:={ fn:=fun _=>True,depth:=none,alive:=false,round:=ρ }
section
variable {P:Program} {T:dn} {lo:Lo} {hi:Hint} {N:Nat} {aw:Nat→Prop} {w0:Kp} {sp:List (D×Value)} {s:VS} {a:Act} {w:World} {E:Env} {ρ:Option Nat}
theorem HB (ρ:Option Nat) (m:Machine):m.fenced P (Fr ρ):=by
 intro g _
 refine ⟨fun h=>?_,Or.inl trivial,fun _ _=>trivial,fun _ h=>?_⟩
 ·cases h
 ·cases h
theorem FX (ρ:Option Nat) (n:Nat):(Fr ρ).room n:=fun d h=>by cases h
theorem vM {m m':Machine} (h:Steps P m m'):StepsIn (Machine.fenced P (Fr ρ)) P m m':=(StepsIn.of_steps h).mono fun m _=>HB ρ m
theorem TB.wpIn {Y:Bool} {o:Oper} {next:Act→World→Prop} {Q:Exit→Act→World→Prop} (h:TB P Y o a w next):o.wpIn (Fr ρ) 0 P a w next Q:=by
 refine ⟨fun _ _=>trivial,?_⟩
 cases h with
 | value v w' hd hr hn=>rw [Oper.semAt_eq _ _ _ hd,hr]; exact hn
 | skip w' hd hr hn=>rw [Oper.semAt_eq _ _ _ hd,hr]; exact hn
 | enter f args w' hd hr hc=>
   rw [Oper.semAt_eq _ _ _ hd,hr]
   refine ⟨fun q=>(by cases q),trivial,fun cs _=>?_⟩
   obtain ⟨e,w2,fr,⟨v,rfl,hn⟩,hs,hf,hl⟩:=hc cs
   exact ⟨.returned v,w2,fr,hn,vM hs,hf,hl⟩
 | round hY l f tm as bd w' hd hr hc=>
   rw [Oper.semAt_eq _ _ _ hd,hr]
   refine ⟨fun q=>(by cases q),trivial,fun c cs _=>?_⟩
   obtain ⟨v,w2,hn,hs⟩:=hc c cs
   exact ⟨.returned v,w2,hn,vM hs⟩
end
open Go.RowKit
structure MK (r:Nat) (cF:Nat→Prop) (aw:Nat→Prop) (s:VS) (E:Env):Prop where
 le:∀ b,cF b→AV aw s.rs E b
 UH:∀ b sz,di E r b sz→¬ cF b
theorem MK.no {r:Nat} {cF aw:Nat→Prop} {s:VS} {E:Env} (h:MK r cF aw s E) (b sz:Nat) (h1:a7 E r b sz):¬ cF b:=h.UH b sz h1.own
section
variable {P:Program} {T:dn} {lo:Lo} {hi:Hint} {N:Nat} {aw:Nat→Prop} {w0:Kp} {sp:List (D×Value)} {s:VS} {a:Act} {w:World} {E:Env} {ρ:Option Nat}
theorem D3 (h:R T N aw w0 sp s a w E) {r el sz n m:Nat} {l:List C} {is:List I} (hr:s.rs[r]?=some (.row el sz n l)) (hi:zo l=some is) {cF:Nat→Prop} (ha:MK r cF aw s E) {v:Value}
  (hv:aU E (AV aw s.rs E) w (.sa r m) v):cA cF w (.sl sz m (flat sz is)) v:=by
 obtain ⟨e',ao,n',cap,h1,h2,h3,rfl⟩:=hv
 obtain ⟨q1,q2,xs,q3,q4⟩:=h.roots r _ _ hr h1
 have him:=o6 hi
 subst him
 have hx:=td q4
 have hxl:=hx.length
 rcases q3.2 with ⟨q5,q6⟩|⟨g,cap',cur,q5,q6,q7,q8,q9,q10,q11⟩
 ·rw [h2] at q5
  simp only [dz] at q5
  obtain ⟨rfl,rfl,rfl⟩:=q5
  exact ⟨none,0,rfl,by omega,by omega,fun h0=>by omega⟩
 ·rw [h2] at q5
  simp only [dz] at q5
  obtain ⟨rfl,rfl,rfl⟩:=q5
  have ir:a7 E r g e'.2.2:=by
   obtain ⟨e1,e2,e3⟩:=e'
   have h2:e2.1=_:=h2
   have q2:e1=e2.1.ownBlock:=q2
   rw [h2] at q2
   exact ⟨e2,by rw [h1,q2]; rfl⟩
  refine ⟨_,cap,rfl,by omega,by omega,fun _=>⟨_,rfl,rfl,ha.no g _ ir,(Array.getElem?_eq_some_iff.1 q7).1,fun i iq j hj=>?_⟩⟩
  have dp:i*sz+j<n'*sz:=by
   have:=fA sz (show i+1≤n' by omega)
   rw [Nat.add_mul,Nat.one_mul] at this
   omega
  obtain ⟨x,h5,h6⟩:=nk hx (q:=i*sz+j) (by rw [hxl,q3.1]; exact dp)
  refine ⟨x,?_,cA.mono (aZ.refl _ w) (fun b _ hb=>ha.le b hb) h6⟩
  rw [Addr.add_mid,cy q7]
  rw [← q11,cN,if_pos dp] at h5
  simpa using h5
theorem az.IL {α β γ:Type} {f:α→β} {Ra:α→γ→Prop} {Rb:β→γ→Prop} (h:∀ x y,Ra x y→Rb (f x) y) {l:List α} {m:List γ} (k:az Ra l m):az Rb (l.map f) m:=by
 induction k with
 | nil=>exact .nil
 | cons q _ ih=>exact .cons (h _ _ q) ih
theorem KR {sl:aG} (f:D→D):∀ {t:Tmp} {d:D} {c:eE},look (sl.map fun x=>(x.1,f x.2.1,x.2.2)) t=some (d,c)→∃ d0,d=f d0∧look sl t=some (d0,c):=by
 induction sl with
 | nil=>intro t d c h; simp [look] at h
 | cons x sl ih=>
   intro t d c h
   obtain ⟨k,e,c0⟩:=x
   simp only [List.map_cons,look] at h ⊢
   split at h
   ·rename_i hk
    simp only [ak,a8] at h
    obtain ⟨rfl,rfl⟩:=h
    exact ⟨e,rfl,by simp⟩
   ·rename_i hk
    obtain ⟨d0,h1,h2⟩:=ih h
    exact ⟨d0,h1,h2⟩
theorem H2 {r sz:Nat} {get:Nat→Nat→I} {x:ae}:(HX r sz get x).live→x.live:=by
 cases x<;>exact id
theorem jA {r sz:Nat} {get:Nat→Nat→I} (hC:∀ cF,MK r cF aw s E→∀ m v,aU E (AV aw s.rs E) w (.sa r m) v→cA cF w (.sl sz m get) v) {cF:Nat→Prop} (ha:MK r cF aw s E) {x:C} {v:Value}
  (hv:aU E (AV aw s.rs E) w x v):aU E cF w (Ez r sz get x) v:=by
 unfold Ez
 split
 ·rename_i q m
  cases hq:Nat.beq q r with
  | true=>
    have hq:=Nat.eq_of_beq_eq_true hq
    subst hq
    exact hC _ ha _ _ hv
  | false=>exact aU.mono (Env.le_refl E) (aZ.refl _ w) (fun b _ q=>ha.le b q) hv
 ·exact aU.mono (Env.le_refl E) (aZ.refl _ w) (fun b _ q=>ha.le b q) hv
theorem Ht {r sz:Nat} {get:Nat→Nat→I} (hC:∀ cF,MK r cF aw s E→∀ m v,aU E (AV aw s.rs E) w (.sa r m) v→cA cF w (.sl sz m get) v) {cF:Nat→Prop} (ha:MK r cF aw s E) {d:D} {v:Value}
  (hv:aJ E (AV aw s.rs E) w d v):aJ E cF w (O8 r sz get d) v:=by
 cases d with
 | c x=>exact jA hC ha hv
 | a l=>obtain ⟨cs,h1,h2⟩:=hv; exact ⟨cs,h1,h2.IL fun _ _ q=>jA hC ha q⟩
 | t l=>
   obtain ⟨vs,h1,h2⟩:=hv
   refine ⟨vs,h1,h2.IL ?_⟩
   rintro ⟨b,l⟩ y q
   cases b with
   | true=>obtain ⟨cs,q1,q2⟩:=q; exact ⟨cs,q1,q2.IL fun _ _ q=>jA hC ha q⟩
   | false=>obtain ⟨c,q1,q2⟩:=q; exact ⟨_,by simp [show l=[c] from q1],jA hC ha q2⟩
theorem C5 (h:R T N aw w0 sp s a w E) {r el sz n m:Nat} {get:Nat→Nat→I} (hr:s.rs[r]?=some (.arr el sz n get)) {cF:Nat→Prop} (ha:MK r cF aw s E) {v:Value}
  (hv:aU E (AV aw s.rs E) w (.sa r m) v):cA cF w (.sl sz m get) v:=by
 obtain ⟨e',ao,n',cap,h1,h2,h3,rfl⟩:=hv
 obtain ⟨q1,q2,xs,q3,q4⟩:=h.roots r _ _ hr h1
 rcases q3.2 with ⟨q5,q6⟩|⟨g,cap',cur,q5,q6,q7,q8,q9,q10,q11⟩
 ·rw [h2] at q5
  simp only [dz] at q5
  obtain ⟨rfl,rfl,rfl⟩:=q5
  exact ⟨none,0,rfl,by omega,by omega,fun h0=>by omega⟩
 ·rw [h2] at q5
  simp only [dz] at q5
  obtain ⟨rfl,rfl,rfl⟩:=q5
  have ir:a7 E r g e'.2.2:=by
   obtain ⟨e1,e2,e3⟩:=e'
   have h2:e2.1=_:=h2
   have q2:e1=e2.1.ownBlock:=q2
   rw [h2] at q2
   exact ⟨e2,by rw [h1,q2]; rfl⟩
  refine ⟨_,cap,rfl,by omega,by omega,fun _=>⟨_,rfl,rfl,ha.no g _ ir,(Array.getElem?_eq_some_iff.1 q7).1,fun i iq j hj=>?_⟩⟩
  have dp:i*sz+j<n'*sz:=by
   have:=fA sz (show i+1≤n' by omega)
   rw [Nat.add_mul,Nat.one_mul] at this
   omega
  obtain ⟨x,h5,h6⟩:=q4 i (by omega) j hj
  refine ⟨x,?_,cA.mono (aZ.refl _ w) (fun b _ hb=>ha.le b hb) h6⟩
  rw [Addr.add_mid,cy q7]
  rw [← q11,cN,if_pos dp] at h5
  simpa using h5
theorem Ef (h:R T N aw w0 sp s a w E) {r:Nat} {x0:ae} (hl:s.rs[r]?=some x0) (VJ:x0.live) {sz:Nat} {get:Nat→Nat→I}
  (hC:∀ cF,MK r cF aw s E→∀ m v,aU E (AV aw s.rs E) w (.sa r m) v→cA cF w (.sl sz m get) v):R T N aw w0 sp (pQ r sz get s) a w E∧(bA s.sl→bA (pQ r sz get s).sl):=by
 unfold pQ
 have key:∀ (q:Nat) (y:ae),(setAt (s.rs.map (HX r sz get)) r .dead)[q]?=some y→y.live→q≠r∧∃ x,s.rs[q]?=some x∧y=HX r sz get x∧x.live:=by
  intro q y h1 h2
  rw [bm,fb] at h1
  split at h1
  ·rename_i hq
   split at h1
   ·simp only [ak] at h1; subst h1; exact h2.elim
   ·simp at h1
  ·rename_i hq
   rw [List.getElem?_map] at h1
   cases hx:s.rs[q]? with
   | none=>rw [hx] at h1; simp at h1
   | some x=>
     rw [hx] at h1
     simp only [Option.map_some,ak] at h1
     subst h1
     exact ⟨fun e=>hq e.symm,x,rfl,rfl,H2 h2⟩
 have hb:MK r (AV aw (setAt (s.rs.map (HX r sz get)) r .dead) E) aw s E:=by
  refine ⟨?_,?_⟩
  ·rintro b (q|⟨q,y,z,h1,h2,h3⟩)
   ·exact .inl q
   ·obtain ⟨_,x,h4,_,h5⟩:=key q y h1 h2
    exact .inr ⟨q,x,z,h4,h5,h3⟩
  ·rintro b z ir (q|⟨q,y,z',h1,h2,h3⟩)
   ·have q1:=(h.cT r _ b z hl VJ ir).1
    have q2:=h.outer b q
    exact q2.2 (q1.own q2.1)
   ·obtain ⟨CN,x,h4,_,h5⟩:=key q y h1 h2
    exact CN (h.eP q r x _ b z' z h4 hl h5 VJ h3 ir)
 refine ⟨⟨h.size,h.defers,fun x hx=>aJ.mono (Env.le_refl E) (aZ.refl _ w) (fun b _ q=>hb.le b q) (h.spec x hx),h.below,by rw [bm]; simpa using h.len,h.outer,?_,?_,?_,?_,h.fL.mono (aZ.refl _ w) (fun b _ q=>hb.le b q)⟩,?_⟩
 ·intro q y e h1 h2
  by_cases Wz:y.live
  ·obtain ⟨CN,x,h4,rfl,h5⟩:=key q y h1 Wz
   have hx:=h.roots q x e h4 h2
   cases x with
   | box l2=>
     obtain ⟨b,cs,Tc,p1,p2,p3,p4⟩:=hx
     exact ⟨b,cs,Tc,p1,by rw [p2]; simp,p3,p4.IL fun _ _ q=>jA hC hb q⟩
   | row el2 RV n2 l2=>
     obtain ⟨p1,p2,xs,p3,p4⟩:=hx
     exact ⟨p1,p2,xs,p3,p4.IL fun _ _ q=>jA hC hb q⟩
   | dead=>trivial
   | arr el2 RV n2 get=>exact aM.mono (x:=.arr el2 RV n2 get) (Env.le_refl E) (aZ.refl _ w) (fun b _ q=>hb.le b q) (fun _ _ _=>rfl) hx
   | gy el2 RV n2 get dK=>exact aM.mono (x:=.gy el2 RV n2 get dK) (Env.le_refl E) (aZ.refl _ w) (fun b _ q=>hb.le b q) (fun _ _ _=>rfl) hx
   | own l2=>exact aM.mono (x:=.own l2) (Env.le_refl E) (aZ.refl _ w) (fun b _ q=>hb.le b q) (fun _ _ _=>rfl) hx
   | set l2=>exact hx
   | l7=>exact hx
   | loop f M sl ps as bd st fe=>exact aM.mono (x:=.loop f M sl ps as bd st fe) (Env.le_refl E) (aZ.refl _ w) (fun b _ q=>hb.le b q) (fun _ _ _=>rfl) hx
  ·cases y with
   | dead=>trivial
   | _=>exact (Wz trivial).elim
 ·intro q y b z h1 h2 h3
  obtain ⟨_,x,h4,_,h5⟩:=key q y h1 h2
  exact h.cT q x b z h4 h5 h3
 ·intro q q' y y' b z z' h1 lX h2 jf h3 l9
  obtain ⟨_,x,h4,_,h5⟩:=key q y h1 h2
  obtain ⟨_,x',h4',_,h5'⟩:=key q' y' lX jf
  exact h.eP q q' x x' b z z' h4 h4' h5 h5' h3 l9
 ·intro t d c Tz
  obtain ⟨d0,rfl,h1⟩:=KR (O8 r sz get) Tz
  obtain ⟨p1,p2,p3⟩:=h.slots t d0 c h1
  exact ⟨p1,fun q=>Ht hC hb (p2 q),p3⟩
 ·intro hn x hx
  obtain ⟨y,hy,rfl⟩:=List.mem_map.1 hx
  exact hn y hy
theorem R.freeze (h:R T N aw w0 sp s a w E) {r:Nat} {s':VS} (e:freeze r s=some s'):R T N aw w0 sp s' a w E∧(bA s.sl→bA s'.sl):=by
 unfold Go.V.freeze at e
 split at e
 ·rename_i el sz n l hl
  rw [bI,bc] at hl
  unfold FV at e
  split at e
  case h_2=>simp at e
  rename_i is hi
  simp only [ak] at e
  subst e
  exact Ef h hl trivial fun cF ha m v hv=>D3 h hl hi ha hv
 ·rename_i el sz n get hl
  rw [bI,bc] at hl
  simp only [ak] at e
  subst e
  exact Ef h hl trivial fun cF ha m v hv=>C5 h hl ha hv
 ·rename_i el sz n get hl
  rw [bI,bc] at hl
  simp only [ak] at e
  subst e
  exact Ef h hl trivial fun cF ha m v hv=>by
   obtain ⟨e',ao,n',cap,h1,h2,h3,rfl⟩:=hv
   exact IJ (h.roots r _ _ hl h1) ha.le (fun b hb=>ha.UH b e'.2.2 ⟨e',h1,rfl,hb⟩) h2 h3
 ·simp only [ak] at e
  subst e
  exact ⟨h,id⟩
 ·simp at e
theorem R.fV:∀ {l:List Nat} {s s':VS},R T N aw w0 sp s a w E→fV l s=some s'→R T N aw w0 sp s' a w E∧(bA s.sl→bA s'.sl)
 | [],s,s',h,e=>by
   have e:some s=some s':=e
   simp only [ak] at e; subst e; exact ⟨h,id⟩
 | r::l,s,s',h,e=>by
   have e:(match Go.V.freeze r s with
    | some s1=>Go.V.fV l s1
    | Option.none=>Option.none)=some s':=e
   split at e
   case h_2=>simp at e
   rename_i s1 h1
   obtain ⟨h2,h3⟩:=h.freeze h1
   obtain ⟨h4,h5⟩:=R.fV h2 e
   exact ⟨h4,fun q=>h5 (h3 q)⟩
end
open Go.RowKit
section
variable {P:Program} {T:dn} {lo:Lo} {hi:Hint} {N:Nat} {aw:Nat→Prop} {w0:Kp} {sp:List (D×Value)} {s:VS} {a:Act} {w:World} {E:Env} {ρ:Option Nat}
theorem bA.free {sl:aG} (h:bA sl) (t:Tmp):free t sl=true:=by
 induction sl with
 | nil=>rfl
 | cons x sl ih=>
   have hx:=h x (dZ ..)
   simp only [Go.V.free,hx,gq]
   exact ih fun y hy=>h y (er _ hy)
theorem o4 (h:R T N aw w0 sp s a w E) (hn:bA s.sl) {dst:Option Tmp} {d:D} {s':VS} (e:oR N s dst d=some s') {v:Value} (hv:aJ E (AV aw s.rs E) w d v):R T N aw w0 sp s' (a.put dst v) w E∧bA s'.sl:=by
 unfold oR at e
 split at e
 ·simp only [ak] at e; subst e; exact ⟨h,hn⟩
 ·rename_i t
  obtain ⟨ht,e⟩:=Bool.aq e
  simp only [ak] at e
  subst e
  refine ⟨h.put (g:=[]) ?_ (fun _=>hv) (fun q=>(q (bt.nil a)).elim),hn.cons _ _⟩
  simp only [AQ,ht,hn.free t,gq]
theorem Fh {b:Nat} {dst:Option Tmp} {e:bP} {s':VS} (hn:bA s.sl) (hs:oi N s dst e=some s') {v:Value} {w':World} {E':Env} (ha:hJ T N aw w0 sp s a w E b e v w' E') (hd:dt e=none→dst=none) :
  R T N aw w0 sp s' (a.put dst v) w' E'∧bA s'.sl:=by
 obtain ⟨_,h1,h2⟩:=ha
 unfold oi at hs
 split at hs
 ·exact o4 h1 hn hs (h2 _ rfl)
 ·rename_i d ws
  unfold FU at hs
  split at hs
  ·exact o4 h1 hn hs (h2 _ rfl)
  ·simp only [ak] at hs
   subst hs
   rw [hd rfl]
   exact ⟨h1,hn⟩
 ·exact o4 h1 hn hs (h2 _ rfl)
 ·simp at hs
theorem DL {rs:List ae} {f:FuncId} {ds:List D} {b:Nat} {e:bP} (ef:fH lo rs f ds b=some e):(∃ l,e=.cp l)∨dt e≠none:=by
 unfold fH at ef
 split at ef
 ·simp only [ak] at ef; subst ef; exact .inr (by simp [dt])
 ·rename_i d q el sz n l ho
  rcases ld ho with ⟨is,q',n',aE,nL,cj,l',hi,hc,hq,hp,hd,hws⟩|⟨is,q',n',aE,nL,cj,get',hi,hc,hq,hd,hws⟩
  case inr=>simp at hws
  subst hd
  cases LX:eJ l with
  | true=>rw [LX] at ef; simp only [ak] at ef; subst ef; exact .inr (by simp [dt])
  | false=>
    rw [LX] at ef
    rcases et (show iy rs ds _=some e from ef) with hc'|⟨rfl,hc'⟩
    ·exact .inl hc'
    ·exact .inr (by simp [dt])
 ·rename_i d q el sz n get ho
  rcases ld ho with ⟨is,q',n',aE,nL,cj,l',hi,hc,hq,hp,hd,hws⟩|⟨is,q',n',aE,nL,cj,get',hi,hc,hq,hd,hws⟩
  case inl=>simp at hws
  subst hd
  rcases et (show iy rs ds _=some e from ef) with hc'|⟨rfl,hc'⟩
  ·exact .inl hc'
  ·exact .inr (by simp [dt])
 ·simp at ef
theorem vg {rs:List ae} {f:FuncId} {ds:List D} {e:bP} (ef:gn lo rs f ds=some e):(∃ l,e=.cp l)∨dt e≠none:=by
 unfold gn at ef
 split at ef
 case h_2=>simp at ef
 rename_i d hd
 cases hp:gK d with
 | true=>rw [hp] at ef; simp only [ak] at ef; subst ef; exact .inr (by simp [dt])
 | false=>
   rw [hp] at ef
   obtain ⟨h1,ef⟩:=Bool.aq (show (Bool.rec none (iy rs ds (.val d)) (jl d):Option bP)=some e from ef)
   rcases et ef with hc|⟨rfl,hc⟩
   ·exact .inl hc
   ·exact .inr (by simp [dt])
theorem CH {rs:List ae} {f:FuncId} {ds:List D} {e:bP} (ef:rl lo rs f ds=some e):dt e≠none:=by
 unfold rl at ef
 split at ef
 ·simp only [ak] at ef; subst ef; simp [dt]
 ·simp at ef
theorem B6 {b:Nat} {dst:Option Tmp} {op:Op} {e:bP} (ef:fk T lo hi b s dst op=some e):(∃ l,e=.cp l)∨dt e≠none∨dst=none:=by
 unfold fk at ef
 split at ef
 ·simp only [ak] at ef; subst ef; exact .inr (.inl (by simp [dt]))
 ·cases op with
  | box t x=>
    have ef:sQ b s x=some e:=ef
    unfold sQ at ef
    split at ef
    ·split at ef
     ·simp only [ak] at ef; subst ef; exact .inr (.inl (by simp [dt]))
     ·simp at ef
    ·simp at ef
  | alloc t=>
    have ef:jR T b t=some e:=ef
    unfold jR at ef
    split at ef
    ·split at ef
     ·simp only [ak] at ef; subst ef; exact .inr (.inl (by simp [dt]))
     ·simp at ef
    ·simp at ef
  | store t x v=>
    have ef:gh T s dst t x v=some e:=ef
    unfold gh at ef
    split at ef
    ·simp at ef
    ·exact .inr (.inr rfl)
  | mapUpdate t m k v=>
    have ef:kO T s dst t m k v=some e:=ef
    unfold kO at ef
    split at ef
    ·simp at ef
    ·exact .inr (.inr rfl)
  | makeMap t r=>
    have ef:jP T b t r=some e:=ef
    unfold jP at ef
    split at ef
    ·simp only [ak] at ef; subst ef; exact .inr (.inl (by simp [dt]))
    ·simp at ef
  | makeSlice t l c=>
    have ef:kY T b s t l c=some e:=ef
    unfold kY at ef
    split at ef
    case h_2=>simp at ef
    split at ef
    case h_2=>simp at ef
    split at ef
    case h_2=>simp at ef
    split at ef
    case h_2=>simp at ef
    split at ef
    case h_2=>simp at ef
    obtain ⟨_,ef⟩:=Bool.aq ef
    obtain ⟨_,ef⟩:=Bool.aq ef
    obtain ⟨_,ef⟩:=Bool.aq ef
    simp only [ak] at ef; subst ef; exact .inr (.inl (by simp [dt]))
  | buildSlice t n ps=>
    have ef:H9 T b s (qf hi dst) t n ps.toList=some e:=ef
    unfold H9 at ef
    split at ef
    case h_2=>simp at ef
    split at ef
    case h_2=>simp at ef
    split at ef
    case h_2=>simp at ef
    split at ef
    case h_2=>simp at ef
    obtain ⟨_,ef⟩:=Bool.aq ef
    simp only [ak] at ef; subst ef; exact .inr (.inl (by rcases iV (qf hi dst) b _ _ n _ with hc|⟨_,_,hc⟩|⟨_,hc⟩<;>rw [hc]<;>simp [dt]))
  | call c=>
    have ef:fQ T lo hi b s c=some e:=ef
    unfold fQ at ef
    split at ef
    ·unfold mH at ef
     split at ef
     case h_2=>simp at ef
     replace ef:=(Bool.aq ef).2
     split at ef
     case h_2=>simp at ef
     split at ef
     ·rename_i e' he'
      subst ef
      have fin2:∀ {el sz k:Nat} {l':Nat→Nat→I} {Jn:Nat} {c:C},pK el sz k l' Jn b s.rs c=some e→dt e≠none:=by
       intro el sz k l' Jn c q
       unfold pK at q
       split at q
       ·replace q:=(Bool.aq q).2
        simp only [ak] at q; subst q; simp [dt]
       ·split at q
        ·replace q:=(Bool.aq q).2
         replace q:=(Bool.aq q).2
         replace q:=(Bool.aq q).2
         simp only [ak] at q; subst q; simp [dt]
        ·simp at q
       ·simp at q
      unfold nN at he'
      split at he'
      case h_2=>simp at he'
      split at he'
      case h_2=>simp at he'
      split at he'
      case h_2=>simp at he'
      simp only [ak] at he'
      unfold yY at he'
      split at he'
      ·exact .inr (.inl (fin2 (Bool.aq he').2))
      ·unfold mB at he'
       split at he'
       ·simp only [ak] at he'
        exact .inl ⟨_,he'.symm⟩
       ·simp at he'
     unfold ng at ef
     have fin:∀ {el sz k:Nat} {l':List C} {Jn:Nat} {c:C},Am el sz k l' Jn b s.rs c=some e→dt e≠none:=by
      intro el sz k l' Jn c q
      unfold Am at q
      split at q
      ·split at q
       ·simp only [ak] at q; subst q; simp [dt]
       ·replace q:=(Bool.aq q).2
        simp only [ak] at q; subst q; simp [dt]
      ·split at q
       ·replace q:=(Bool.aq q).2
        replace q:=(Bool.aq q).2
        simp only [ak] at q; subst q; simp [dt]
       ·split at q
        ·replace q:=(Bool.aq q).2
         replace q:=(Bool.aq q).2
         simp only [ak] at q; subst q; simp [dt]
        ·simp at q
       ·simp at q
      ·simp at q
     split at ef
     case h_2=>simp at ef
     split at ef
     case h_2=>simp at ef
     split at ef
     case h_2=>simp at ef
     split at ef
     case h_2=>simp at ef
     split at ef
     ·exact .inr (.inl (fin (Bool.aq ef).2))
     ·exact .inr (.inl (fin (Bool.aq ef).2))
    ·unfold kG at ef
     split at ef
     case h_2=>simp at ef
     split at ef
     ·unfold yC at ef
      split at ef
      ·simp only [ak] at ef; subst ef; exact .inr (.inl (by simp [dt]))
      ·simp at ef
     ·split at ef
      case h_2=>simp at ef
      unfold mL at ef
      split at ef
      ·exact (vg ef).imp id .inl
      ·exact .inr (.inl (CH ef))
      ·exact (DL ef).imp id .inl
      ·unfold MQ at ef
       split at ef
       ·replace ef:=(Bool.aq ef).2
        simp only [ak] at ef; subst ef; exact .inr (.inl (by simp [dt]))
       ·simp at ef
      ·obtain ⟨is,cs,mc,L,_,_,_,_,rfl⟩:=jD ef
       exact .inr (.inl (by simp [dt]))
      ·rename_i ds _ _ _ _ _ _ _ _ _
       revert ef
       generalize eQ _=p
       intro ef
       cases p with
       | true=>exact (vg ef).imp id .inl
       | false=>exact .inr (.inl (CH ef))
    ·simp at ef
  | _=>simp [fY] at ef
theorem tN {dst:Option Tmp} {l:List Nat} {s':VS}:oi N s dst (.cp l)≠some s':=by simp [oi]
theorem AD (bz:dk P T) (hl:gm T P lo) (h:R T N aw w0 sp s a w E) (hn:bA s.sl) {o:Oper} {s':VS} (e:AU T lo hi N s o.dst o.op=some s')
  {next:Act→World→Prop} (jG:∀ a' w' E',Kept E E'→R T N aw w0 sp s' a' w' E'→bA s'.sl→next a' w'):TB P true o a w next:=by
 have one:∀ {s:VS},R T N aw w0 sp s a w E→bA s.sl→∀ {ef:bP},fk T lo hi s.rs.length s o.dst o.op=some ef→oi N s o.dst ef=some s'→TB P true o a w next:=by
  intro s h hn ef h1 h2
  have hd:=B6 h1
  rcases oV bz hl h hn (.inr rfl) h1 (next:=next) (fun v w' E' ha=>by
   obtain ⟨h3,h4⟩:=Fh hn h2 ha (fun q=>by
    rcases hd with ⟨l,rfl⟩|hd|hd
    ·exact (tN h2).elim
    ·exact (hd q).elim
    ·exact hd)
   exact jG _ _ _ (Kept.Gi ha.1 (Nat.le_of_eq h.len)) h3 h4) with ⟨l,rfl⟩|h3
  ·exact (tN h2).elim
  ·exact h3
 unfold AU at e
 split at e
 ·rename_i l _
  unfold Mc at e
  split at e
  case h_2=>simp at e
  rename_i s1 hs1
  obtain ⟨h1,h2⟩:=h.fV hs1
  split at e
  case h_2=>simp at e
  rename_i ef hef
  exact one h1 (h2 hn) hef e
 ·rename_i ef _ hef
  exact one h hn hef e
 ·simp at e
theorem oC (h:R T N aw w0 sp s a w E) (hn:bA s.sl) {ops:Array Oper} {o:Oper} {b:Bool} (e:kP ops.toList s.sl o.guard=some b):Region.wanted o (yielded ops a.tmps)=b:=by
 unfold kP at e
 unfold Region.wanted
 split at e
 ·rename_i hg
  simp only [ak] at e
  subst e
  rw [hg]
 ·rename_i j want hg
  rw [hg]
  split at e
  case h_2=>simp at e
  rename_i p hp
  rw [bI,bc] at hp
  split at e
  case h_2=>simp at e
  rename_i t ht
  have hpo:ops[j]?=some p:=by simpa using hp
  unfold FI at e
  split at e
  ·rename_i hl
   have hl:=fq hn hl
   simp only [ak] at e
   subst e
   obtain ⟨hN,h1,h2⟩:=h.slots t _ _ hl
   obtain ⟨vs,hv,sP⟩:=h1 (bt.nil a)
   have eT:t<a.tmps.size:=by rw [h.size]; exact hN
   have hv':a.tmps[t]?=some (a.tmps.getD t undef):=by simp [eT]
   have hy:yielded ops a.tmps j=none:=by
    unfold yielded
    rw [hpo]
    simp only [Option.bind_some,ht,hv',hv]
   simp [hy]
  ·split at e
   case h_2=>simp at e
   rename_i x hx
   have hl:=fq hn (eu hx)
   simp only [ak] at e
   subst e
   obtain ⟨hN,h1,h2⟩:=h.slots t _ _ hl
   have hv:=(h1 (bt.nil a)).1
   have eT:t<a.tmps.size:=by rw [h.size]; exact hN
   have hv':a.tmps[t]?=some (a.tmps.getD t undef):=by simp [eT]
   have hy:yielded ops a.tmps j=some x:=by
    unfold yielded
    rw [hpo]
    simp only [Option.bind_some,ht,hv',hv]
   simp only [hy]
   cases x<;>cases want<;>rfl
theorem xi {E:Env} {av:Nat→Prop} {w:World}:aJ E av w (.t []) undef:=⟨#[],rfl,.nil⟩
theorem pC (bz:dk P T) (hl:gm T P lo) {ops:Array Oper} {Q:Exit→Act→World→Prop} {sF:VS} {E0:Env} (hQ:∀ a' w' E',Kept E0 E'→R T N aw w0 sp sF a' w' E'→bA sF.sl→Q .normal a' w') :
  ∀ {l:List Oper} {s:VS} {a:Act} {w:World} {E:Env},Hs T lo hi N ops.toList l s=some sF→Kept E0 E→R T N aw w0 sp s a w E→bA s.sl→wpListIn (Fr ρ) 0 P ops Q l a w
 | [],s,a,w,E,e,hk,h,hn=>by
   have e:some s=some sF:=e
   simp only [ak] at e; subst e; exact hQ a w E hk h hn
 | o::l,s,a,w,E,e,hk,h,hn=>by
   have e:(match Tv T lo hi N ops.toList s o with
    | some s'=>Hs T lo hi N ops.toList l s'
    | none=>none)=some sF:=e
   split at e
   case h_2=>simp at e
   rename_i s' hs
   unfold Tv at hs
   unfold wpListIn
   split at hs
   ·rename_i hw
    rw [if_pos (oC h hn hw)]
    exact (AD bz hl h hn hs fun a' w' E' jN h' sq=>pC bz hl hQ e (hk.trans jN) h' sq).wpIn
   ·rename_i hw
    rw [if_neg (by rw [oC h hn hw]; simp)]
    obtain ⟨h1,h2⟩:=o4 h hn hs xi
    exact ⟨fun _ _=>trivial,pC bz hl hQ e hk h1 h2⟩
   ·simp at hs
end
section
variable {T:dn} {lo:Lo} {hi:Hint} {sl fC:aG} {rs aE:List ae} {df Aq:List Nat}
theorem qW:∀ {l:List Operand},(∀ x∈l,bO sl x=bO fC x)→vV sl l=vV fC l
 | [],_=>rfl
 | x::l,h=>by
   have e1:=h x (dZ ..)
   have e2:=qW (l:=l) fun y hy=>h y (er _ hy)
   show (match bO sl x with
    | some d=>match vV sl l with
      | some r=>some (d::r)
      | none=>none
    | none=>none)=_
   rw [e1,e2]; rfl
theorem uL {oN:List (Nat×Nat)}:∀ {ps:List (Nat×Operand)},(∀ p∈ps,bO sl p.2=bO fC p.2)→sc oN sl ps=sc oN fC ps
 | [],_=>rfl
 | p::ps,h=>by
   have e1:=h p (dZ ..)
   have e2:=uL (oN:=oN) (ps:=ps) fun y hy=>h y (er _ hy)
   funext l
   show (match aY oN p.1 with
    | some o=>match bO sl p.2 with
      | some d=>match d.cells with
        | some cs=>(Bool.rec none (match put l o.1 cs with
          | some l'=>sc oN sl ps l'
          | none=>none) (Nat.beq cs.length o.2&&Nat.blt 0 o.2):Option (List C))
        | none=>none
      | none=>none
    | none=>none)=_
   rw [e1,e2]; rfl
theorem sy {sz:Nat}:∀ {ps:List (Nat×Operand)},(∀ p∈ps,bO sl p.2=bO fC p.2)→mh sz sl ps=mh sz fC ps
 | [],_=>rfl
 | p::ps,h=>by
   have e1:=h p (dZ ..)
   have e2:=sy (sz:=sz) (ps:=ps) fun y hy=>h y (er _ hy)
   funext l
   show (match bO sl p.2 with
    | some d=>match d.cells with
      | some cs=>(Bool.rec none (match put l (p.1*sz) cs with
        | some l'=>mh sz sl ps l'
        | none=>none) (Nat.beq cs.length sz&&Nat.blt 0 sz):Option (List C))
      | none=>none
    | none=>none)=_
   rw [e1,e2]; rfl
theorem HV {ts:List TypeId} {xs:List Operand} (h:∀ x∈xs,bO sl x=bO fC x):K3 T ⟨sl,rs,df⟩ ts xs=K3 T ⟨fC,rs,Aq⟩ ts xs:=by
 unfold K3
 split
 ·simp only [h _ (dZ ..)]
 ·rfl
theorem Hz {xs:List Operand} (h:∀ x∈xs,bO sl x=bO fC x):LM ⟨sl,rs,df⟩ xs=LM ⟨fC,rs,Aq⟩ xs:=by
 unfold LM
 split
 ·simp only [h _ (dZ ..),h _ (er _ (dZ ..))]
 ·rfl
theorem HG {xs:List Operand} (h:∀ x∈xs,bO sl x=bO fC x):KK ⟨sl,rs,df⟩ xs=KK ⟨fC,rs,Aq⟩ xs:=by
 unfold KK
 split
 ·simp only [h _ (dZ ..),h _ (er _ (dZ ..))]
 ·rfl
theorem Cs {t:Nat} {x:Operand} {l m k:Option Operand} (h0:bO sl x=bO fC x) (hl:∀ y,l=some y→bO sl y=bO fC y) (h:∀ y,m=some y→bO sl y=bO fC y):jI T ⟨sl,rs,df⟩ t x l m k=jI T ⟨fC,rs,Aq⟩ t x l m k:=by
 unfold jI
 split
 ·simp only [h0,h _ rfl]
 ·simp only [h0,hl _ rfl]
 ·rfl
theorem Di {op:Op} (h:∀ x∈op.operands.toList,bO sl x=bO fC x):eK T ⟨sl,rs,df⟩ op=eK T ⟨fC,rs,Aq⟩ op:=by
 cases op with
 | move x=>exact h x (by simp [Op.operands])
 | assign x=>exact h x (by simp [Op.operands])
 | pick c x y=>simp only [eK,xo,h c (by simp [Op.operands]),h x (by simp [Op.operands]),h y (by simp [Op.operands])]
 | binOp o t x y t2=>simp only [eK,vP,sE,Gv,h x (by simp [Op.operands]),h y (by simp [Op.operands])]
 | unOp o t x=>simp only [eK,Wm,h x (by simp [Op.operands])]
 | nilCheck x=>simp only [eK,sW,h x (by simp [Op.operands])]
 | fieldAddr t x f=>simp only [eK,yS,h x (by simp [Op.operands])]
 | indexAddr t x i=>simp only [eK,lz,h x (by simp [Op.operands]),h i (by simp [Op.operands])]
 | load t x=>simp only [eK,jS,h x (by simp [Op.operands])]
 | extract x k=>simp only [eK,qJ,h x (by simp [Op.operands])]
 | build t ps=>
   simp only [eK,z8]
   have e:∀ fs,sc fs sl ps.toList=sc fs fC ps.toList:=fun fs=>uL fun p hp=>h p.2 (by simp only [Op.operands,List.mem_map]; exact ⟨p,hp,rfl⟩)
   simp only [e]
 | makeFunc fn first dR=>
   have e:vV sl dR.toList=vV fC dR.toList:=qW fun p hp=>h p (by simp only [Op.operands,Array.toList_append,List.mem_append]; exact .inr hp)
   simp only [eK,E4,e]
 | call c=>
   have e:∀ x∈c.args.toList,bO sl x=bO fC x:=fun x hx=>h x (by simp only [Op.operands,Call.operands,Array.toList_append,List.mem_append]; exact .inr hx)
   simp only [eK,CR]
   split
   ·rename_i b _
    unfold DB
    split
    ·exact HV e
    ·exact Hz e
    ·exact HG e
    ·rfl
   ·rfl
 | lookup t x i ok=>simp only [eK,lT,V0,h x (by simp [Op.operands]),h i (by simp [Op.operands])]
 | slice t x l m k=>exact Cs (h x (by simp [Op.operands])) (fun y hy=>h y (by simp [Op.operands,hy])) fun y hy=>h y (by simp [Op.operands,hy])
 | convert t t' x=>simp only [eK,NK,h x (by simp [Op.operands])]
 | _=>rfl
theorem HC {b:Nat} {ts:List TypeId} {xs:List Operand} (h:∀ x∈xs,bO sl x=bO fC x):mH T b ⟨sl,rs,df⟩ ts xs=mH T b ⟨fC,rs,Aq⟩ ts xs:=by
 unfold mH
 split
 ·simp only [h _ (dZ ..),h _ (er _ (dZ ..))]
 ·rfl
theorem Dv {b:Nat} {dst:Option Tmp} {op:Op} (h:∀ x∈op.operands.toList,bO sl x=bO fC x):fY T lo hi b ⟨sl,rs,df⟩ dst op=fY T lo hi b ⟨fC,rs,Aq⟩ dst op:=by
 cases op with
 | box t x=>simp only [fY,sQ,h x (by simp [Op.operands])]
 | alloc t=>rfl
 | store t x v=>simp only [fY,gh,h x (by simp [Op.operands]),h v (by simp [Op.operands])]
 | buildSlice t n ps=>
   simp only [fY,H9]
   have e:∀ sz,mh sz sl ps.toList=mh sz fC ps.toList:=fun sz=>sy fun p hp=>h p.2 (by simp only [Op.operands,List.mem_map]; exact ⟨p,hp,rfl⟩)
   simp only [e]
 | call c=>
   have e:∀ x∈c.args.toList,bO sl x=bO fC x:=fun x hx=>h x (by simp only [Op.operands,Call.operands,Array.toList_append,List.mem_append]; exact .inr hx)
   simp only [fY,fQ]
   split
   ·exact HC e
   ·rename_i f hf
    have e2:bO sl f=bO fC f:=h f (by simp only [Op.operands,Call.operands,hf]; simp)
    simp only [kG,e2,qW e]
   ·rfl
 | makeMap t r=>rfl
 | makeSlice t l c=>simp only [fY,kY,h l (by simp [Op.operands]),h c (by simp [Op.operands])]
 | mapUpdate t m k v=>simp only [fY,kO,h m (by simp [Op.operands]),h k (by simp [Op.operands]),h v (by simp [Op.operands])]
 | _=>rfl
theorem GX {b:Nat} {dst:Option Tmp} {op:Op} (h:∀ x∈op.operands.toList,bO sl x=bO fC x):fk T lo hi b ⟨sl,rs,df⟩ dst op=fk T lo hi b ⟨fC,rs,Aq⟩ dst op:=by
 unfold fk
 rw [Di (Aq:=Aq) h,Dv (Aq:=Aq) h]
def nM (rs aE:List ae):Prop:=∀ (q:Nat) (x:ae),aY rs q=some x→x.live→aY aE q=some x
theorem nM.nth (h:nM rs aE) {q:Nat} {x:ae} (e:Go.V.nth rs q=some x) (hx:x.live):Go.V.nth aE q=some x:=by
 rw [← bI]; exact h q x (by rw [bI]; exact e) hx
theorem Om (hr:nM rs aE) {c:C} {b:Bool} (e:GS rs c=some b):GS aE c=some b:=by
 unfold GS at e ⊢
 split at e
 ·exact e
 ·split at e
  ·rename_i hq; rw [hr _ _ hq trivial]; exact e
  ·rename_i hq; rw [hr _ _ hq trivial]; exact e
  ·rename_i hq; rw [hr _ _ hq trivial]; exact e
  ·simp at e
 ·simp at e
theorem Kj (hr:nM rs aE) {op:BinOp} {t:Nat} {x:Operand} {d:D} (e:sE T ⟨sl,rs,df⟩ op t x=some d):sE T ⟨sl,aE,df⟩ op t x=some d:=by
 unfold sE at e ⊢
 split at e
 case h_2=>simp at e
 rename_i h1
 split at e
 case h_2=>simp at e
 rename_i h2
 split at e
 case h_2=>simp at e
 rename_i h3
 have h3:=Om hr h3
 simp only [h2,h3]
 exact e
theorem HR (hr:nM rs aE) {sz:Nat} {i:Int} {c:C} {d:D} (e:po rs sz i c=some d):po aE sz i c=some d:=by
 unfold po at e ⊢
 split at e
 ·exact e
 ·split at e
  ·rename_i hq; rw [hr _ _ hq trivial]; exact e
  ·rename_i hq; rw [hr _ _ hq trivial]; exact e
  ·rename_i hq; rw [hr _ _ hq trivial]; exact e
  ·simp at e
 ·simp at e
theorem Jt (hr:nM rs aE) {y:Ty} {c:C} {d:D} (e:qG T rs y c=some d):qG T aE y c=some d:=by
 unfold qG at e ⊢
 split at e
 ·rename_i r i j
  unfold vu at e ⊢
  split at e
  ·rename_i hq; rw [hr _ _ hq trivial]; exact e
  ·rename_i hq; rw [hr _ _ hq trivial]; exact e
  ·rename_i hq; rw [hr _ _ hq trivial]; exact e
  ·rename_i hq; rw [hr _ _ hq trivial]; exact e
  ·simp at e
 ·exact e
 ·exact e
 ·simp at e
theorem O4 (hr:nM rs aE) {c:C} {l:List Int} (e:I7 rs c=some l):I7 aE c=some l:=by
 unfold I7 at e ⊢
 split at e
 ·split at e
  ·rename_i hq; rw [hr _ _ hq trivial]; exact e
  ·simp at e
 ·exact e
 ·simp at e
theorem HD (hr:nM rs aE) {c:C} {n:Int} {d:D} (e:lx rs c n=some d):lx aE c n=some d:=by
 unfold lx at e ⊢
 split at e
 ·exact e
 ·split at e
  ·rename_i hq; rw [hr _ _ hq trivial]; exact e
  ·rename_i hq; rw [hr _ _ hq trivial]; exact e
  ·rename_i hq; rw [hr _ _ hq trivial]; exact e
  ·simp at e
 ·exact e
 ·simp at e
theorem Lq (hr:nM rs aE) {op:Op} {d:D} (e:eK T ⟨sl,rs,df⟩ op=some d):eK T ⟨sl,aE,df⟩ op=some d:=by
 cases op with
 | binOp o t x y t2=>
   have e:vP T ⟨sl,rs,df⟩ o t x y=some d:=e
   show vP T ⟨sl,aE,df⟩ o t x y=some d
   unfold vP at e ⊢
   split at e
   ·exact Kj hr e
   ·exact e
 | indexAddr t x i=>
   have e:lz T ⟨sl,rs,df⟩ t x i=some d:=e
   show lz T ⟨sl,aE,df⟩ t x i=some d
   unfold lz at e ⊢
   split at e
   ·exact e
   ·split at e
    case h_2=>simp at e
    split at e
    case h_2=>simp at e
    split at e
    case h_2=>simp at e
    rename_i h1 _ _ h2 _ _ h3
    simp only at h2 h3 ⊢
    simp only [h2,h3]
    exact HR hr e
 | load t x=>
   have e:jS T ⟨sl,rs,df⟩ t x=some d:=e
   show jS T ⟨sl,aE,df⟩ t x=some d
   unfold jS at e ⊢
   split at e
   case h_2=>simp at e
   split at e
   case h_2=>simp at e
   rename_i h1 _ _ h2
   simp only at h2 ⊢
   simp only [h2]
   exact Jt hr e
 | lookup t x i ok=>
   have e:lT T ⟨sl,rs,df⟩ t x i ok=some d:=e
   show lT T ⟨sl,aE,df⟩ t x i ok=some d
   unfold lT at e ⊢
   split at e
   ·exact e
   ·cases h0:H7 T t with
    | false=>rw [h0] at e; exact e
    | true=>
    rw [h0] at e
    simp only at e ⊢
    split at e
    case h_2=>simp at e
    rename_i h2 h3
    split at e
    case h_2=>simp at e
    rename_i h4
    have h4:=O4 hr h4
    try simp only at h2 h3
    simp only [h4]
    exact e
 | slice t x l m k=>
   have e:jI T ⟨sl,rs,df⟩ t x l m k=some d:=e
   show jI T ⟨sl,aE,df⟩ t x l m k=some d
   unfold jI at e ⊢
   split at e
   case h_3=>simp at e
   case h_2=>exact e
   split at e
   case h_2=>simp at e
   rename_i h1
   split at e
   case h_2=>simp at e
   rename_i h2 h3
   simp only at h2 h3 ⊢
   simp only [h2,h3]
   exact HD hr e
 | _=>exact e
end
end Go.V
