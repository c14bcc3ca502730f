/- A state said in other words: the machine stays where it is. -/
import Derived.Test.YtapefhcmohbmaaaP3
set_option linter.unusedSimpArgs false
set_option linter.unusedVariables false
namespace Go.V
open Go.RowKit
noncomputable section
section
variable {P:Program} {T:dk} {N:Nat} {ax:Nat->Prop} {w0:Kp} {sp:List (D×Value)} {s s':VS} {a:Act} {w w':World} {E E':Env} {f:FuncId} {b:Frame} {cs:List Frame} {ro:Option Nat} {n0:Nat} {ey:Option Code->VS->Prop} {todo:List Item}
def cw (d:D) (d1:D) (fQ:List ae):Prop:=fU (dg fQ d1) λd2=>bf d2 d
theorem M4 (bC:cZ P T) {fn:Func} (hf:P.funcs[f]?=some fn) (oo:(fn.name == "runtime.NumGoroutine")=false) {c:Code} (hc:fn.body=some c) {ds:List D} {d:D} (hlen:ds.length<=fn.ntmps)
  (hg:∀ (b:Frame) (cs:List Frame),b.fn=f->Goal P T fn.ntmps b cs none 0 (rz T fn.results.toList (cw d)) [.code c] ⟨cP 0 ds,[],[]⟩):bB T P f ds [] d []:=by
 refine ⟨⟨fn,hf,oo,by simp [hc]⟩,?_⟩
 intro N ax w0 sp sl df a w E vs h0 hv cs
 obtain ⟨b,tm,FP,hbr,hbk,henter,hR⟩:=H4 (P:=P) (f:=f) hf hc hlen h0 hv
 have hE0:E=[]:=List.eq_nil_of_length_eq_zero h0.len
 subst hE0
 have dr:∀ x∈nE sl a++sp,jf 0 x.1=true:=λx hx=>aQ.low (hR.spec x hx)
 obtain ⟨j,s,a',w1,E',cT,hk,tb,nr,hend,hpost,hsteps⟩:=hg b cs FP _ _ _ _ _ _ (bl _) dr hbr hR jP
 obtain ⟨hret,hpost⟩:=bI.1 hpost
 obtain ⟨x,hres0,hpost⟩:=cl hpost
 obtain ⟨d2,hreify,hle⟩:=cl hpost
 obtain ⟨d1,fQ⟩:=x
 unfold Ot at hres0
 split at hres0
 case h_2=>simp at hres0
 rename_i oU htake
 split at hres0
 case h_2=>simp at hres0
 rename_i d3 yE
 simp only [au,bs] at hres0
 obtain ⟨rfl,rfl⟩:=hres0
 have hback:Steps P (lone (b.atR a' cT) cs w1) (lone { b.atR a' cT with mode:=.returning } cs w1):=by
  cases j with
  | none=>
    have hend:cT=[]:=hend
    subst hend
    exact .one (stepR_end hbr)
  | some c' =>
    rcases hend with ⟨k,rfl,rfl⟩|⟨id,k,rfl,_,_⟩
    .exact .one (stepR_ret hbr)
    .simp [LG] at hret
 have hR'':R T fn.ntmps ax w0 (nE sl a++sp) ⟨s.sl,s.rs,s.df⟩ a' w1 E':=tb
 obtain ⟨w2,hR2,hst2⟩:=qV (P:=P) (cs:=cs) s.df (fr:={ b.atR a' cT with mode:=.returning }) htake hR'' rfl rfl
 obtain ⟨pr,hpr1,hpr2⟩:=Fw (s:=⟨s.sl,oU,[]⟩) nr yE
 obtain ⟨v,hrv,hdv⟩:=kZ bC hR2 hpr1 hpr2
 have hR3:R T fn.ntmps ax w0 (nE sl a++sp) ⟨[],oU,[]⟩ { a' with defers:=[] } w2 E':=⟨hR2.size,hR2.defers,hR2.spec,hR2.below,hR2.len,hR2.outer,hR2.roots,hR2.cJ,hR2.dz,λt d c q=>by simp [look] at q,hR2.fS⟩
 have hcut:=hR3.cut (n:=0) (bn _) dr (λt d q=>by simp [look] at q) (λt d c q=>by simp [look] at q) (λr hr=>by cases hr) (λq x hx=>by simp at hx)
 have hd2:aQ [] ax w2 d2 v:=qb hR2 (jM.outer hR2) hreify hdv
 refine ⟨.returned v,w2,{ { b.atR a' cT with mode:=.returning } with defers:=[] },⟨v,[],rfl,Kept.refl _,h0.back (s':=⟨[],[],[]⟩) hcut (Env.le_refl _),?_⟩,?_,?_,?_,?_,?_,fn,?_,hrv⟩
 .refine hle _ _ _ _ (aQ.mono (Env.le_refl _) (aW.refl _ w2) (λb _ q=>(sU b).1 q) hd2)
 .rw [henter]
  exact (hsteps.trans hback).trans hst2
 all_goals first|rfl|exact FP|exact hbk|exact hbr|exact (show P.funcs[b.fn]?=some fn from FP▸hf)
theorem Goal.ghost (g:Goal P T N b cs ro n0 ey todo s') (h:∀ ax w0 sp a w E,(∀ x∈sp,jf n0 x.1=true)->n0<=s.rs.length->R T N ax w0 sp s a w E->bw s.sl->∃ E',E'.take n0=E.take n0/\R T N ax w0 sp s' a w E'/\bw s'.sl):Goal P T N b cs ro n0 ey todo s:=by
 intro ax w0 sp a w E uw dr Fe hR hn
 obtain ⟨E',h1,h2,h3⟩:=h ax w0 sp a w E dr uw hR hn
 have hl:n0<=s'.rs.length:=by
  have e:=congrArg List.length h1
  rw [List.length_take,List.length_take,hR.len,h2.len] at e
  omega
 have:=g ax w0 sp a w E' hl dr (by rw [h1]; exact Fe) h2 h3
 grind
theorem Goal.swap {r:Nat} {x y:ae} (hr:aR s.rs r=some x) (hl:y.live->x.live) (hx:∀ (base:Nat) (E:Env) (w:World) e av,aO E av base w e x->aO E av base w e y)
  (g:Goal P T N b cs ro n0 ey todo { s with rs:=setAt s.rs r y }):Goal P T N b cs ro n0 ey todo s:=
 g.ghost λax w0 sp a w E dr uw hR hn=>⟨E,rfl,by
  rw [bW] at hr
  rw [ba]
  exact hR.swap hr hl λe av q _=>hx _ _ _ _ _ q,hn⟩
def dK (x y:I):Prop:=∀ av w v,cF av w x v->cF av w y v
theorem dK.refl (x:I):dK x x:=λ_ _ _ h=>h
theorem dK.nil (sz:Nat) (get:Nat->Nat->I):dK (.v (.slice none 0 0)) (.sl sz 0 get):=by
 rintro av w v ⟨rfl,_⟩
 exact ⟨none,0,rfl,bl _,bn _,λh=>by omega⟩
theorem Goal.arr {r el sz n:Nat} {get get':Nat->Nat->I} (hr:aR s.rs r=some (.arr el sz n get)) (h:∀ i,i<n->∀ j,j<sz->dK (get i j) (get' i j))
  (g:Goal P T N b cs ro n0 ey todo { s with rs:=setAt s.rs r (.arr el sz n get') }):Goal P T N b cs ro n0 ey todo s:=
 Goal.swap (x:=.arr el sz n get) hr (λ_=>trivial) (λbase E w e av q=>by
  obtain ⟨p1,p2,xs,p3,p4⟩:=q
  exact ⟨p1,p2,xs,p3,λi hi j hj=>by
   obtain ⟨x,p5,p6⟩:=p4 i hi j hj
   exact ⟨x,p5,h i hi j hj _ _ _ p6⟩⟩) g
theorem Goal.freeze {r:Nat} (h:Go.V.freeze r s=some s') (g:Goal P T N b cs ro n0 ey todo s'):Goal P T N b cs ro n0 ey todo s:=
 g.ghost λax w0 sp a w E dr uw hR hn=>⟨E,rfl,(hR.freeze h).1,(hR.freeze h).2 hn⟩
def QS (sl:aL):aL->Prop
 | []=>True
 | x::l=>(x.2.2=[]/\∃ d0,dW sl x.1=some d0/\bf d0 x.2.1)/\QS sl l
theorem rN {sl:aL}:∀ {l:aL},QS sl l->∀ x∈l,x.2.2=[]/\∃ d0,dW sl x.1=some d0/\bf d0 x.2.1
 | [],_,x,hx=>by cases hx
 | y::l,h,x,hx=>by
   rcases List.mem_cons.1 hx with rfl|hx
   .exact h.1
   .exact rN h.2 x hx
theorem Goal.slots {fI:aL} (h:QS s.sl fI) (g:Goal P T N b cs ro n0 ey todo { s with sl:=fI }):Goal P T N b cs ro n0 ey todo s:=
 g.ghost λax w0 sp a w E dr uw hR hn=>⟨E,rfl,⟨hR.size,hR.defers,hR.spec,hR.below,hR.len,hR.outer,hR.roots,hR.cJ,hR.dz,λt d c hl=>by
  obtain ⟨h1,d0,h2,h3⟩:=rN h _ (hJ hl)
  have h1:c=[]:=h1
  subst h1
  have h4:=ft hn h2
  obtain ⟨q1,q2,q3⟩:=hR.slots t d0 [] h4
  exact ⟨q1,λq=>h3 _ _ _ _ (q2 q),q3⟩,hR.fS⟩,λx hx=>(rN h x hx).1⟩
theorem R.Gb (h:R T N ax w0 sp s a w E) (el sz:Nat) (get:Nat->Nat->I):R T N ax w0 sp { s with rs:=s.rs++[.arr el sz 0 get] } a w (E++[(Option.none,mS (.slice Option.none 0 0),sz)]):=by
 have hE:=Env.et E [(Option.none,mS (.slice Option.none 0 0),sz)]
 have iL:∀ {r b z:Nat},cM (E++[(Option.none,mS (.slice Option.none 0 0),sz)]) r b z->cM E r b z:=by
  rintro r b z ⟨hh,q,q2⟩
  rcases Nat.lt_or_ge r E.length with hr|hr
  .rw [iU hr] at q; exact ⟨hh,q,q2⟩
  .rw [nD hr] at q
   rcases Nat.eq_zero_or_pos (r-E.length) with e|e
   .rw [e] at q; simp at q; subst q; rcases q2 with ⟨_,q2|q2⟩<;>simp at q2
   grind
 have key:∀ (r:Nat) (y:ae) (b z:Nat),(s.rs++[ae.arr el sz 0 get])[r]?=some y->y.live->cM (E++[(Option.none,mS (.slice Option.none 0 0),sz)]) r b z->s.rs[r]?=some y:=by
  intro r y b z h1 h2 h3
  have eG:r<E.length:=by obtain ⟨_,q,_⟩:=iL h3; grind
  rw [h.len] at eG
  grind
 have eT:∀ b,AV ax (s.rs++[.arr el sz 0 get]) (E++[(Option.none,mS (.slice Option.none 0 0),sz)]) b->AV ax s.rs E b:=by
  rintro b (q|⟨r,x,z,h1,h2,h3⟩)
  .exact .inl q
  .exact .inr ⟨r,x,z,key r x b z h1 h2 h3,h2,iL h3⟩
 refine h.zP (aG:=s.rs++[.arr el sz 0 get]) hE (aW.refl _ w) h.below (λb _ q=>eT b q) (by simp [h.len]) ?_ ?_ ?_
 .intro r x e h1 h2
  rcases Nat.lt_or_ge r s.rs.length with hr|hr
  .rw [iU hr] at h1
   rw [iU (by rw [h.len]; exact hr)] at h2
   exact aO.mono hE (aW.refl _ w) (λb _ q=>eT b q) (λ_ _ _=>rfl) (h.roots r x e h1 h2)
  .have hr2:r<s.rs.length+1:=by grind
   have e0:r=s.rs.length:=by omega
   subst e0
   rw [nD (bl _)] at h1
   rw [nD (by rw [h.len]; exact bl _)] at h2
   simp at h1
   rw [h.len] at h2
   simp at h2
   subst h1 h2
   exact ⟨rfl,rfl,[],w.ownsRow_nil _ _ _,λi hi=>by omega⟩
 .intro r x b z h1 h2 h3
  exact h.cJ r x b z (key r x b z h1 h2 h3) h2 (iL h3)
 .intro r r' x x' b z z' h1 nA h2 ic h3 ld
  exact h.dz r r' x x' b z z' (key r x b z h1 h2 h3) (key r' x' b z' nA ic ld) h2 ic (iL h3) (iL ld)
def Xh:Nat->Nat->I:=λ_ _=>.v (.bool false)
def FI (t:Tmp) (el sz:Nat) (s:VS):VS:={ s with sl:=(t,.c (.sa s.rs.length 0),[])::s.sl,rs:=s.rs++[.arr el sz 0 Xh] }
theorem Goal.IJ {t:Tmp} {el sz:Nat} (ht:dW s.sl t=some (.c (.im (.v (.slice none 0 0))))) (g:Goal P T N b cs ro n0 ey todo (FI t el sz s)):Goal P T N b cs ro n0 ey todo s:=
 g.ghost λax w0 sp a w E dr uw hR hn=>by
  have h1:=hR.Gb el sz Xh
  refine ⟨_,?_,⟨h1.size,h1.defers,h1.spec,h1.below,h1.len,h1.outer,h1.roots,h1.cJ,h1.dz,λu d c hl=>?_,h1.fS⟩,hn.cons t _⟩
  .rw [List.take_append_of_le_length (by rw [hR.len]; exact uw)]
  .simp only [FI,look] at hl
   split at hl
   .rename_i he
    have he:=cg he
    subst he
    simp only [au,bs] at hl
    obtain ⟨rfl,rfl⟩:=hl
    obtain ⟨q1,q2,q3⟩:=hR.slots t _ _ (ft hn ht)
    refine ⟨q1,λq=>?_,q3⟩
    obtain ⟨hv,_⟩:=q2 q
    rw [hv]
    exact ⟨(none,mS (.slice none 0 0),sz),none,0,0,by rw [<- hR.len]; simp,rfl,bl _,rfl⟩
   .exact h1.slots u d c hl
def OD (r j el sz:Nat) (l:List C) (s:VS):VS:={ s with rs:=setAt s.rs r (.box (setAt l j (.sa s.rs.length 0)))++[.arr el sz 0 Xh] }
theorem Goal.mj {r j el sz:Nat} {l:List C} (hr:aR s.rs r=some (.box l)) (hj:aR l j=some (.im (.v (.slice none 0 0)))) (g:Goal P T N b cs ro n0 ey todo (OD r j el sz l s)):Goal P T N b cs ro n0 ey todo s:=
 g.ghost λax w0 sp a w E dr uw hR hn=>by
  rw [bW] at hr hj
  have h1:=hR.Gb el sz Xh
  have hrl:r<s.rs.length:=(List.getElem?_eq_some_iff.1 hr).1
  have h2:=h1.swap (r:=r) (x:=.box l) (y:=.box (setAt l j (.sa s.rs.length 0))) (by
   grind) (λ_=>trivial) (λe av ⟨bb,vs,Tc,p1,p2,p3,p4⟩ _=>⟨bb,vs,Tc,p1,by rw [ba]; simpa using p2,p3,by
    rw [ba]
    refine az.xh (by simpa using p4.length) λi x v hx hv=>?_
    rw [jE] at hx
    split at hx
    .rename_i hji
     subst hji
     split at hx
     .simp only [au] at hx
      subst hx
      obtain ⟨hv2,_⟩:=p4.get hj hv
      rw [hv2]
      exact ⟨(none,mS (.slice none 0 0),sz),none,0,0,by rw [<- hR.len]; simp,rfl,bl _,rfl⟩
     .simp at hx
    .exact p4.get hx hv⟩)
  refine ⟨E++[(none,mS (.slice none 0 0),sz)],?_,?_,hn⟩
  rotate_left
  .have e:(s.rs++[ae.arr el sz 0 Xh]).set r (.box (setAt l j (.sa s.rs.length 0)))=setAt s.rs r (.box (setAt l j (.sa s.rs.length 0)))++[.arr el sz 0 Xh]:=by
    rw [ba,ba,List.set_append,if_pos hrl]
   have h2:R T N ax w0 sp { s with rs:=(s.rs++[ae.arr el sz 0 Xh]).set r (.box (setAt l j (.sa s.rs.length 0))) } a w (E++[(none,mS (.slice none 0 0),sz)]):=h2
   rw [e] at h2
   exact h2
  .rw [List.take_append_of_le_length (by rw [hR.len]; exact uw)]
def uO (q:Nat) (l:List Nat):Option Nat:=List.rec none (λx _ ih=>Bool.rec (match ih with
 | some k=>some (k+1)
 | none=>none) (some 0) (Nat.beq x q)) l
def La (π:List Nat) (l:List Nat):Option (List Nat):=List.rec (some []) (λx _ ih=>match uO x π,ih with
 | some y,some r=>some (y::r)
 | _,_=>none) l
def Lp (π:List Nat) (c:C):Option C:=match c with
 | .im x=>some (.im x)
 | .rt r i j=>match uO r π with
   | some k=>some (.rt k i j)
   | none=>none
 | .sa r m=>match uO r π with
   | some k=>some (.sa k m)
   | none=>none
 | .mp r=>match uO r π with
   | some k=>some (.mp k)
   | none=>none
 | .yl r=>match uO r π with
   | some k=>some (.yl k)
   | none=>none
 | .ow r j=>match uO r π with
   | some k=>some (.ow k j)
   | none=>none
 | .fh f l=>match La π l with
   | some l'=>some (.fh f l')
   | none=>none
def Ex (π:List Nat) (l:List C):Option (List C):=List.rec (some []) (λx _ ih=>match Lp π x,ih with
 | some y,some r=>some (y::r)
 | _,_=>none) l
def J9 (π:List Nat) (d:D):Option D:=match d with
 | .c x=>match Lp π x with
   | some y=>some (.c y)
   | none=>none
 | .a l=>match Ex π l with
   | some m=>some (.a m)
   | none=>none
 | .t []=>some (.t [])
 | .t _=>none
def zo (π:List Nat) (l:aL):Option aL:=List.rec (some []) (λx _ ih=>match J9 π x.2.1,ih with
 | some y,some r=>some ((x.1,y,x.2.2)::r)
 | _,_=>none) l
def P6 (π:List Nat) (x:Fc):Option Fc:=match x with
 | .c c=>match Lp π c with
   | some d=>some (.c d)
   | none=>none
 | .o x=>some (.o x)
def L5 (π:List Nat) (l:List Fc):Option (List Fc):=List.rec (some []) (λx _ ih=>match P6 π x,ih with
 | some y,some r=>some (y::r)
 | _,_=>none) l
def GD (π:List Nat) (x:ae):Option ae:=match x with
 | .bL el sz n get (some x)=>match L5 π x.2 with
   | some m=>some (.bL el sz n get (some (x.1,m)))
   | none=>none
 | .box l=>match Ex π l with
   | some m=>some (.box m)
   | none=>none
 | .row el sz n l=>match Ex π l with
   | some m=>some (.row el sz n m)
   | none=>none
 | .loop f N sl ps as bd st fi=>match zo π sl with
   | some fI=>some (.loop f N fI ps as bd st fi)
   | none=>none
 | x=>some x
def MU (π:List Nat) (rs:List ae) (l:List Nat):Option (List ae):=List.rec (some []) (λq _ ih=>match aR rs q with
 | some x=>match GD π x,ih with
   | some y,some r=>some (y::r)
   | _,_=>none
 | none=>none) l
def gW (l:List Nat):Bool:=List.rec true (λx l ih=>Bool.rec ih false (nS x l)) l
def ME (n:Nat) (k:Nat):List Nat->Bool:=Nat.rec (λ_ _=>true) (λ_ ih k l=>match l with
 | x::l=>Bool.rec false (ih (k+1) l) (Nat.beq x k)
 | []=>false) n k
def OP (n0:Nat) (π:List Nat) (s:VS):Option VS:=match zo π s.sl,MU π s.rs π,La π s.df with
 | some sl,some rs,some df=>Bool.rec none (some ⟨sl,rs,df⟩) (gW π&&ME n0 0 π)
 | _,_,_=>none
theorem oJ:∀ {l:List Nat} {q k:Nat},uO q l=some k->l[k]?=some q
 | [],q,k,h=>by simp [uO] at h
 | x::l,q,k,h=>by
   have h:(Bool.rec (match uO q l with
    | some k=>some (k+1)
    | none=>none) (some 0) (Nat.beq x q):Option Nat)=some k:=h
   cases hb:Nat.beq x q with
   | true=>
     rw [hb] at h
     grind [cg]
   | false=>
     rw [hb] at h
     simp only at h
     split at h
     .rename_i k' hk
      simp only [au] at h
      subst h
      simpa using oJ hk
     .simp at h
def j5 (π:List Nat) (E:Env):Env:=π.map λq=>E.getD q hole
theorem lU {π:List Nat} {k q:Nat} (h:π[k]?=some q) {e:fJ} (he:E[q]?=some e):(j5 π E)[k]?=some e:=by
 grind [j5]
theorem Pa {π:List Nat} {k:Nat} {e:fJ} (he:(j5 π E)[k]?=some e) (wc:e≠hole):∃ q,π[k]?=some q/\E[q]?=some e:=by
 grind [j5]
theorem rF {π:List Nat} {k q b sz:Nat} (h:uO q π=some k):bh E q b sz->bh (j5 π E) k b sz:=λ⟨hh,q1⟩=>⟨hh,lU (oJ h) q1⟩
section
variable {π:List Nat} {av cG:Nat->Prop}
theorem Er {E:Env}:∀ {l l':List Nat} {vs:List Value},La π l=some l'->az (λr x=>∃ b sz,bh E r b sz/\x=.pointer (some ⟨b,0,none⟩)) l vs->az (λr x=>∃ b sz,bh (j5 π E) r b sz/\x=.pointer (some ⟨b,0,none⟩)) l' vs
 | [],l',_,h,.nil=>by
   have h:some []=some l':=h
   simp only [au] at h
   subst h; exact .nil
 | x::l,l',_,h,.cons q k=>by
   have h:(match uO x π,La π l with
    | some y,some r=>some (y::r)
    | _,_=>none)=some l':=h
   split at h
   case h_2=>simp at h
   rename_i h1 h2
   simp only [au] at h
   subst h
   obtain ⟨b,sz,q1,q2⟩:=q
   exact .cons ⟨b,sz,rF h1 q1,q2⟩ (Er h2 k)
theorem JH {E:Env}:∀ {l l':List Nat} {ds:List Deferred},La π l=some l'->az (λr (d:Deferred)=>∃ b sz,bh E r b sz/\d={ target:=.collected b,args := #[] }) l ds->az (λr (d:Deferred)=>∃ b sz,bh (j5 π E) r b sz/\d={ target:=.collected b,args := #[] }) l' ds
 | [],l',_,h,.nil=>by
   have h:some []=some l':=h
   simp only [au] at h
   subst h; exact .nil
 | x::l,l',_,h,.cons q k=>by
   have h:(match uO x π,La π l with
    | some y,some r=>some (y::r)
    | _,_=>none)=some l':=h
   split at h
   case h_2=>simp at h
   rename_i h1 h2
   simp only [au] at h
   subst h
   obtain ⟨b,sz,q1,q2⟩:=q
   exact .cons ⟨b,sz,rF h1 q1,q2⟩ (JH h2 k)
theorem wg (ha:∀ b,cG b->av b) {c c':C} {v:Value} (h:Lp π c=some c') (hv:a7 E av w c v):a7 (j5 π E) cG w c' v:=by
 unfold Lp at h
 split at h
 .simp only [au] at h; subst h; exact cF.mono (aW.refl _ w) (λb _ q=>ha b q) hv
 .split at h
  case h_2=>simp at h
  rename_i hk
  simp only [au] at h; subst h
  obtain ⟨b,sz,h1,h2⟩:=hv
  exact ⟨b,sz,rF hk h1,h2⟩
 .split at h
  case h_2=>simp at h
  rename_i hk
  simp only [au] at h; subst h
  obtain ⟨e,ao,n,cap,h1,h2⟩:=hv
  exact ⟨e,ao,n,cap,lU (oJ hk) h1,h2⟩
 .split at h
  case h_2=>simp at h
  rename_i hk
  simp only [au] at h; subst h
  obtain ⟨b,sz,h1,h2⟩:=hv
  exact ⟨b,sz,rF hk h1,h2⟩
 .split at h
  case h_2=>simp at h
  rename_i hk
  simp only [au] at h; subst h
  obtain ⟨b,sz,h1,h2⟩:=hv
  exact ⟨b,sz,rF hk h1,h2⟩
 .split at h
  case h_2=>simp at h
  rename_i hk
  simp only [au] at h; subst h
  obtain ⟨e,vs,h1,h2⟩:=hv
  exact ⟨e,vs,lU (oJ hk) h1,h2⟩
 .split at h
  case h_2=>simp at h
  rename_i hk
  simp only [au] at h; subst h
  obtain ⟨vs,h1,h2⟩:=hv
  exact ⟨vs,h1,Er hk h2⟩
theorem oZ (ha:∀ b,cG b->av b):∀ {l l':List C} {vs:List Value},Ex π l=some l'->az (a7 E av w) l vs->az (a7 (j5 π E) cG w) l' vs
 | [],l',_,h,.nil=>by
   have h:some []=some l':=h
   simp only [au] at h
   subst h; exact .nil
 | x::l,l',_,h,.cons q k=>by
   have h:(match Lp π x,Ex π l with
    | some y,some r=>some (y::r)
    | _,_=>none)=some l':=h
   split at h
   case h_2=>simp at h
   rename_i h1 h2
   simp only [au] at h
   subst h
   exact .cons (wg ha h1 q) (oZ ha h2 k)
theorem Ey (ha:∀ b,cG b->av b) {d d':D} {v:Value} (h:J9 π d=some d') (hv:aQ E av w d v):aQ (j5 π E) cG w d' v:=by
 unfold J9 at h
 split at h
 .split at h
  case h_2=>simp at h
  rename_i hk
  simp only [au] at h; subst h
  exact wg ha hk hv
 .split at h
  case h_2=>simp at h
  rename_i hk
  simp only [au] at h; subst h
  obtain ⟨vs,h1,h2⟩:=hv
  exact ⟨vs,h1,oZ ha hk h2⟩
 .simp only [au] at h; subst h
  obtain ⟨vs,h1,h2⟩:=hv
  cases h3:vs.toList with
  | nil=>exact ⟨vs,h1,by rw [h3]; exact .nil⟩
  | cons y l=>rw [h3] at h2; cases h2
 .simp at h
theorem qK:∀ {sl fI:aL},zo π sl=some fI->∀ t d c,look fI t=some (d,c)->∃ d0,J9 π d0=some d/\look sl t=some (d0,c)
 | [],fI,h,t,d,c,hl=>by
   have h:some []=some fI:=h
   grind [look]
 | x::sl,fI,h,t,d,c,hl=>by
   have h:(match J9 π x.2.1,zo π sl with
    | some y,some r=>some ((x.1,y,x.2.2)::r)
    | _,_=>none)=some fI:=h
   split at h
   case h_2=>simp at h
   rename_i h1 h2
   simp only [au] at h
   subst h
   obtain ⟨k,d1,c1⟩:=x
   simp only [look] at hl ⊢
   split at hl
   .grind
   .rename_i hb
    exact qK h2 t d c hl
theorem ta:∀ {sl fI:aL},zo π sl=some fI->bw sl->bw fI
 | [],fI,h,_=>by
   have h:some []=some fI:=h
   grind
 | x::sl,fI,h,hn=>by
   have h:(match J9 π x.2.1,zo π sl with
    | some y,some r=>some ((x.1,y,x.2.2)::r)
    | _,_=>none)=some fI:=h
   split at h
   case h_2=>simp at h
   rename_i h1 h2
   simp only [au] at h
   subst h
   intro z hz
   rcases List.mem_cons.1 hz with rfl|hz
   .exact hn x (jl ..)
   .exact ta h2 (λy hy=>hn y (fL _ hy)) z hz
theorem aO.Zu {E E':Env} {av cG:Nat->Prop} {base:Nat} {w:World} {e:fJ} {x:ae} (ha:∀ b,cG b->av b) (hx:match x with
  | .bL _ _ _ _ none=>True
  | _=>False) (h:aO E av base w e x):aO E' cG base w e x:=by
 cases x with
 | bL el sz n get dJ=>
   cases dJ with
   | some y=>exact hx.elim
   | none=>
     obtain ⟨p1,p2,xs,p3,Ks,p4,pf,p5⟩:=h
     refine ⟨p1,p2,xs,p3,Ks,p4,pf,λi hi j hj=>?_⟩
     obtain ⟨v,c,g1,g2,g3⟩:=p5 i hi j hj
     simp only [fR,au] at g2
     subst g2
     exact ⟨v,_,g1,rfl,fO.mono (aW.refl _ w) (λb _ q=>ha b q) (λ_ _=>rfl) g3⟩
 | _=>exact hx.elim
theorem zq:∀ {l m:List Fc},L5 π l=some m->m.length=l.length/\∀ (j:Nat) (c:Fc),l[j]?=some c->∃ c',m[j]?=some c'/\P6 π c=some c'
 | [],m,h=>by
   have h:some []=some m:=h
   grind
 | x::l,m,h=>by
   have h:(match P6 π x,L5 π l with
    | some y,some r=>some (y::r)
    | _,_=>none)=some m:=h
   split at h
   case h_2=>simp at h
   rename_i y r h1 h2
   simp only [au] at h
   subst h
   obtain ⟨h3,h4⟩:=zq h2
   grind
theorem Nq (ha:∀ b,cG b->av b) {base:Nat} {c c':Fc} {K:Nat->Prop} {v:Value} (h:P6 π c=some c') (hv:iX E av base w c K v):iX (j5 π E) cG base w c' K v:=by
 unfold P6 at h
 split at h
 .split at h
  case h_2=>simp at h
  rename_i h1
  simp only [au] at h; subst h
  exact wg ha h1 hv
 .simp only [au] at h; subst h
  exact fO.mono (aW.refl _ w) (λb _ q=>ha b q) (λ_ _=>rfl) hv
theorem Om (ha:∀ b,cG b->av b) {x y:ae} {base:Nat} {e:fJ} (h:GD π x=some y) (hx:aO E av base w e x):aO (j5 π E) cG base w e y:=by
 unfold GD at h
 split at h
 .split at h
  case h_2=>simp at h
  rename_i x0 _ m hk
  simp only [au] at h; subst h
  obtain ⟨h1,h2⟩:=zq hk
  obtain ⟨p1,p2,xs,p3,Ks,p4,pf,p5⟩:=hx
  obtain ⟨f1,f2⟩:=pf _ rfl
  refine ⟨p1,p2,xs,p3,Ks,p4,λx hx=>?_,λi hi j hj=>?_⟩
  .grind
  .obtain ⟨v,c,g1,g2,g3⟩:=p5 i hi j hj
   unfold fR at g2 ⊢
   cases hb:Nat.beq i x0.1 with
   | true=>
     grind [bg,Nq]
   | false=>
     simp only [hb,au] at g2 ⊢
     subst g2
     exact ⟨v,_,g1,rfl,fO.mono (aW.refl _ w) (λb _ q=>ha b q) (λ_ _=>rfl) g3⟩
 .split at h
  case h_2=>simp at h
  rename_i hk
  simp only [au] at h; subst h
  obtain ⟨b,cs,Tc,p1,p2,p3,p4⟩:=hx
  have h4:=oZ ha hk p4
  exact ⟨b,cs,Tc,p1,by rw [p2,p4.length,h4.length],p3,h4⟩
 .split at h
  case h_2=>simp at h
  rename_i hk
  simp only [au] at h; subst h
  obtain ⟨p1,p2,xs,p3,p4⟩:=hx
  exact ⟨p1,p2,xs,p3,oZ ha hk p4⟩
 .split at h
  case h_2=>simp at h
  rename_i hk
  simp only [au] at h; subst h
  obtain ⟨b,db,tm,p1,p2,p3,p4,p5⟩:=hx
  refine ⟨b,db,tm,p1,p2,p3,λt d c hl=>?_,ta hk p5⟩
  obtain ⟨d0,q1,q2⟩:=qK hk t d c hl
  obtain ⟨s1,s2,s3⟩:=p4 t d0 c q2
  exact ⟨s1,λq=>Ey ha q1 (s2 q),s3⟩
 .rename_i n0 n1 n2 n3
  simp only [au] at h; subst h
  cases x with
  | dead=>trivial
  | box l=>exact (n1 _ rfl).elim
  | row el sz n l=>grind
  | loop f N sl ps as bd st fi=>grind
  | bL el sz n get dJ=>
    cases dJ with
    | some x=>grind
    | none=>grind [aO.Zu]
  | arr el sz n get=>
    obtain ⟨p1,p2,xs,p3,p4⟩:=hx
    refine ⟨p1,p2,xs,p3,λi hi j hj=>?_⟩
    obtain ⟨x,p5,p6⟩:=p4 i hi j hj
    exact ⟨x,p5,cF.mono (aW.refl _ w) (λb _ q=>ha b q) p6⟩
  | own l=>
    obtain ⟨p1,p2,vs,p3,p4,Ks,p5,p6,p7⟩:=hx
    refine ⟨p1,p2,vs,p3,p4,Ks,p5,p6,λi o ho=>?_⟩
    obtain ⟨v,g1,g2⟩:=p7 i o ho
    exact ⟨v,g1,fO.mono (aW.refl _ w) (λb _ q=>ha b q) (λ_ _=>rfl) g2⟩
  | set l=>exact hx
  | kF=>exact hx
theorem yM {rs:List ae}:∀ {l:List Nat} {aG:List ae},MU π rs l=some aG->aG.length=l.length/\∀ (k:Nat) (y:ae),aG[k]?=some y->∃ q x,l[k]?=some q/\rs[q]?=some x/\GD π x=some y
 | [],aG,h=>by
   have h:some []=some aG:=h
   grind
 | q::l,aG,h=>by
   have h:(match aR rs q with
    | some x=>match GD π x,MU π rs l with
      | some y,some r=>some (y::r)
      | _,_=>none
    | none=>none)=some aG:=h
   split at h
   case h_2=>simp at h
   rename_i x hx
   split at h
   case h_2=>simp at h
   rename_i y r h1 h2
   simp only [au] at h
   subst h
   obtain ⟨h3,h4⟩:=yM h2
   grind [bW]
theorem KY {x y:ae} (h:GD π x=some y):y.live->x.live:=by
 unfold GD at h
 split at h
 .exact λ_=>trivial
 .exact λ_=>trivial
 .exact λ_=>trivial
 .exact λ_=>trivial
 grind
theorem kK:∀ {l:List Nat},gW l=true->∀ (i j:Nat) (q:Nat),l[i]?=some q->l[j]?=some q->i=j
 | [],_,i,j,q,h,_=>by simp at h
 | x::l,h,i,j,q,h1,h2=>by
   have h:(Bool.rec (gW l) false (nS x l):Bool)=true:=h
   cases hb:nS x l with
   | true=>rw [hb] at h; simp at h
   | false=>
     rw [hb] at h
     have hx:x ∉ l:=λq=>by rw [jX.2 q] at hb; simp at hb
     cases i with
     | zero=>
       grind
     | succ i=>
       cases j with
       | zero=>
         grind
       | succ j=>rw [kK h i j q (by simpa using h1) (by simpa using h2)]
theorem wo:∀ {n k:Nat} {l:List Nat},ME n k l=true->∀ i,i<n->l[i]?=some (k+i)
 | 0,k,l,_,i,hi=>by omega
 | n+1,k,[],h,i,hi=>by
   have h:(false:Bool)=true:=h
   simp at h
 | n+1,k,x::l,h,i,hi=>by
   obtain ⟨h1,h2⟩:=Bool.fW (show (Bool.rec false (ME n (k+1) l) (Nat.beq x k):Bool)=true from h)
   cases i with
   | zero=>simp [cg h1]
   | succ i=>
     have:=wo h2 i (by omega)
     grind
end
theorem R.renamed {π:List Nat} (h:OP n0 π s=some s') (dr:∀ x∈sp,jf n0 x.1=true) (uw:n0<=s.rs.length) (hR:R T N ax w0 sp s a w E) (hn:bw s.sl):∃ E',E'.take n0=E.take n0/\R T N ax w0 sp s' a w E'/\bw s'.sl:=by
  unfold OP at h
  split at h
  case h_2=>simp at h
  rename_i sl rs df N9 NK Qt
  obtain ⟨hb,h⟩:=Bool.aw h
  simp only [di] at hb
  simp only [au] at h
  subst h
  obtain ⟨hlen,hget⟩:=yM NK
  have uS:=kK hb.1
  have hhead:=wo hb.2
  simp only [Nat.zero_add] at hhead
  have htake:(j5 π E).take n0=E.take n0:=by
   apply List.ext_getElem?
   intro i
   rw [me,me]
   split
   .rename_i hi
    have eG:i<E.length:=by rw [hR.len]; omega
    grind [lU]
   .rfl
  have hinv:∀ {k b sz:Nat},cM (j5 π E) k b sz->∃ q,π[k]?=some q/\cM E q b sz:=λ⟨hh,q,g2,g3⟩=>by
   obtain ⟨q,h1,h2⟩:=Pa q (by rintro rfl; exact Jj g3)
   exact ⟨q,h1,hh,h2,g2,g3⟩
  have key:∀ (k:Nat) (y:ae) (b sz:Nat),rs[k]?=some y->y.live->cM (j5 π E) k b sz->∃ q x,π[k]?=some q/\s.rs[q]?=some x/\x.live/\cM E q b sz:=by
   grind [KY]
  have eT:∀ b,AV ax rs (j5 π E) b->AV ax s.rs E b:=by
   rintro b (q|⟨k,y,sz,h1,h2,h3⟩)
   .exact .inl q
   .obtain ⟨q,x,_,h5,h6,h7⟩:=key k y b sz h1 h2 h3
    exact .inr ⟨q,x,sz,h5,h6,h7⟩
  refine ⟨j5 π E,htake,⟨hR.size,?_,λx hx=>?_,hR.below,by simp [j5,hlen],hR.outer,?_,?_,?_,?_,hR.fS.mono (aW.refl _ w) (λb _ q=>eT b q)⟩,ta N9 hn⟩
  .exact JH Qt hR.defers
  .have h1:=aQ.shrink (Kept.kX E n0) (FB:=AV ax rs (j5 π E)) (λb q=>eT b q) (by rw [List.length_take,hR.len,Nat.min_eq_left uw]; exact dr x hx) (hR.spec x hx)
   rw [<- htake] at h1
   exact aQ.mono (Kept.kX (j5 π E) n0).le (aW.refl _ w) (λb _ q=>q) h1
  .intro k y e h1 h2
   obtain ⟨q,x,h4,h5,h6⟩:=hget k y h1
   have eG:q<E.length:=by rw [hR.len]; grind
   have hE:=ka eG
   rw [lU h4 hE] at h2
   simp only [au] at h2
   subst h2
   exact Om eT h6 (hR.roots q x _ h5 hE)
  .intro k y b sz h1 h2 h3
   obtain ⟨q,x,_,h5,h6,h7⟩:=key k y b sz h1 h2 h3
   exact hR.cJ q x b sz h5 h6 h7
  .intro k k' y y' b sz cL h1 nA h2 ic h3 ld
   obtain ⟨q,x,h4,h5,h6,h7⟩:=key k y b sz h1 h2 h3
   obtain ⟨q',x',h4',h5',h6',h7'⟩:=key k' y' b cL nA ic ld
   have:=hR.dz q q' x x' b sz cL h5 h5' h6 h6' h7 h7'
   grind
  .intro t d c hl
   obtain ⟨d0,q1,q2⟩:=qK N9 t d c hl
   obtain ⟨s1,s2,s3⟩:=hR.slots t d0 c q2
   exact ⟨s1,λq=>Ey eT q1 (s2 q),s3⟩
theorem Goal.rename (π:List Nat) (h:OP n0 π s=some s') (g:Goal P T N b cs ro n0 ey todo s'):Goal P T N b cs ro n0 ey todo s:=
 g.ghost λax w0 sp a w E dr uw hR hn=>R.renamed h dr uw hR hn
end
section
variable {P:Program} {T:dk} {N:Nat} {ax:Nat->Prop} {w0:Kp} {sp:List (D×Value)} {s s':VS} {a:Act} {w w':World} {E E':Env} {f:FuncId} {b:Frame} {cs:List Frame} {ro:Option Nat} {n0:Nat} {ey:Option Code->VS->Prop} {todo:List Item}
def bZ (x y:ae):Prop:=(y.live->x.live)/\∀ (base:Nat) (E:Env) (w:World) e av,aO E av base w e x->aO E av base w e y
theorem bZ.refl (x:ae):bZ x x:=⟨id,λ_ _ _ _ _ h=>h⟩
def dT (c c':C):Prop:=∀ (E:Env) (av:Nat->Prop) (w:World) (v:Value),a7 E av w c v->a7 E av w c' v
theorem dT.refl (c:C):dT c c:=λ_ _ _ _ h=>h
theorem dT.im {x y:I} (h:dK x y):dT (.im x) (.im y):=λ_ av w v q=>h av w v q
theorem dT.nil (sz:Nat) (get:Nat->Nat->I):dT (.im (.v (.slice none 0 0))) (.im (.sl sz 0 get)):=dT.im (dK.nil sz get)
theorem az.cle {E:Env} {av:Nat->Prop} {w:World}:∀ {l l':List C} {vs:List Value},az dT l l'->az (a7 E av w) l vs->az (a7 E av w) l' vs
 | _,_,_,.nil,.nil=>.nil
 | _,_,_,.cons q k,.cons q' k'=>.cons (q _ _ _ _ q') (az.cle k k')
theorem bZ.box {l l':List C} (h:az dT l l'):bZ (.box l) (.box l'):=⟨λ_=>trivial,λbase E w e av q=>by
 obtain ⟨b,vs,Tc,p1,p2,p3,p4⟩:=q
 have h4:=az.cle h p4
 exact ⟨b,vs,Tc,p1,by rw [p2,p4.length,h4.length],p3,h4⟩⟩
theorem bZ.arr {el sz n:Nat} {get get':Nat->Nat->I} (h:∀ i,i<n->∀ j,j<sz->dK (get i j) (get' i j)):bZ (.arr el sz n get) (.arr el sz n get'):=⟨λ_=>trivial,λbase E w e av q=>by
 obtain ⟨p1,p2,xs,p3,p4⟩:=q
 exact ⟨p1,p2,xs,p3,λi hi j hj=>by
  obtain ⟨x,p5,p6⟩:=p4 i hi j hj
  exact ⟨x,p5,h i hi j hj _ _ _ p6⟩⟩⟩
theorem bZ.dead (x:ae):bZ x .dead:=⟨λh=>h.elim,λ_ _ _ _ _ _=>trivial⟩
theorem bZ.row {el sz n:Nat} {l:List C} {get:Nat->Nat->I} (h:∀ i,i<n->∀ j,j<sz->l[i*sz+j]?=some (.im (get i j))):bZ (.row el sz n l) (.arr el sz n get):=⟨λ_=>trivial,λbase E w e av q=>SS q h⟩
theorem az.at_ {α β:Type} {Ra:α->β->Prop} {l:List α} {m:List β} (h:az Ra l m) {i:Nat} {y:β} (e:m[i]?=some y):∃ x,l[i]?=some x/\Ra x y:=by
 induction h generalizing i with
 | nil=>simp at e
 | cons q _ ih=>
   grind
theorem R.le (h:R T N ax w0 sp s a w E) (hn:bw s.sl) (h1:QS s.sl s'.sl) (h2:az bZ s.rs s'.rs) (h3:s'.df=s.df):R T N ax w0 sp s' a w E:=by
 have key:∀ (q:Nat) (y:ae),s'.rs[q]?=some y->∃ x,s.rs[q]?=some x/\bZ x y:=λq y e=>h2.at_ e
 have eT:∀ b,AV ax s'.rs E b->AV ax s.rs E b:=by
  rintro b (q|⟨q,y,sz,g1,g2,g3⟩)
  .exact .inl q
  .obtain ⟨x,g4,g5⟩:=key q y g1
   exact .inr ⟨q,x,sz,g4,g5.1 g2,g3⟩
 have h':=h.zP (aG:=s'.rs) (Env.le_refl E) (aW.refl _ w) h.below (λb _ q=>eT b q) (by rw [h.len,h2.length]) (λq y e g1 g2=>by
   obtain ⟨x,g4,g5⟩:=key q y g1
   exact g5.2 _ _ _ _ _ (aO.mono (Env.le_refl E) (aW.refl _ w) (λb _ q=>eT b q) (λ_ _ _=>rfl) (h.roots q x e g4 g2))) (λq y b sz g1 g2 g3=>by
   obtain ⟨x,g4,g5⟩:=key q y g1
   exact h.cJ q x b sz g4 (g5.1 g2) g3) (λq q' y y' b sz cL g1 YA g2 QZ g3 Wg=>by
   obtain ⟨x,g4,g5⟩:=key q y g1
   obtain ⟨x',g4',g5'⟩:=key q' y' YA
   exact h.dz q q' x x' b sz cL g4 g4' (g5.1 g2) (g5'.1 QZ) g3 Wg)
 exact ⟨h'.size,by rw [h3]; exact h'.defers,h'.spec,h'.below,h'.len,h'.outer,h'.roots,h'.cJ,h'.dz,λt d c hl=>by
  obtain ⟨g1,d0,g2,g3⟩:=rN h1 _ (hJ hl)
  have g1:c=[]:=g1
  subst g1
  obtain ⟨q1,q2,q3⟩:=h'.slots t d0 [] (ft hn g2)
  exact ⟨q1,λq=>g3 _ _ _ _ (q2 q),q3⟩,h'.fS⟩
theorem Goal.le (h1:QS s.sl s'.sl) (h2:az bZ s.rs s'.rs) (h3:s'.df=s.df) (g:Goal P T N b cs ro n0 ey todo s'):Goal P T N b cs ro n0 ey todo s:=
 Goal.ghost g λax w0 sp a w E dr uw hR hn=>⟨E,rfl,hR.le hn h1 h2 h3,λx hx=>(rN h1 x hx).1⟩
end
open Go.RowKit
section
def nK {α β:Type} (f:α->β) (l:List α):List β:=List.rec [] (λx _ ih=>f x::ih) l
theorem gE {α β:Type} (f:α->β) (l:List α):nK f l=l.map f:=by
 induction l with
 | nil=>rfl
 | cons x l ih=>exact congrArg (f x::·) ih
def o6 (π:List Nat) (n i:Nat):Nat:=match aR π i with
 | some q=>q
 | none=>n+(i-π.length)
def Ff (ρ:Nat->Nat) (c:C):C:=match c with
 | .im x=>.im x
 | .rt r i j=>.rt (ρ r) i j
 | .sa r m=>.sa (ρ r) m
 | .mp r=>.mp (ρ r)
 | .fh f l=>.fh f (nK ρ l)
 | .yl r=>.yl (ρ r)
 | .ow r j=>.ow (ρ r) j
def Jl (ρ:Nat->Nat) (d:D):D:=match d with
 | .c x=>.c (Ff ρ x)
 | .a l=>.a (nK (Ff ρ) l)
 | .t l=>.t (nK (λx=>(x.1,nK (Ff ρ) x.2)) l)
def J4 (ρ:Nat->Nat) (l:aL):aL:=nK (λx=>(x.1,Jl ρ x.2.1,x.2.2)) l
def mvF (ρ:Nat->Nat) (x:Fc):Fc:=match x with
 | .c x=>.c (Ff ρ x)
 | .o x=>.o x
def yJ (ρ:Nat->Nat) (x:ae):ae:=match x with
 | .box l=>.box (nK (Ff ρ) l)
 | .row el sz n l=>.row el sz n (nK (Ff ρ) l)
 | .loop f N sl ps as bd st fi=>.loop f N (J4 ρ sl) ps as bd st fi
 | .dead=>.dead
 | .arr el sz n get=>.arr el sz n get
 | .bL el sz n get none=>.bL el sz n get none
 | .bL el sz n get (some x)=>.bL el sz n get (some (x.1,nK (mvF ρ) x.2))
 | .own l=>.own l
 | .set l=>.set l
 | .kF=>.kF
def sI (ρ:Nat->Nat) (π:List Nat):List ae->List ae->List ae->List ae:=List.rec (λ_ aG RS=>RS++nK (yJ ρ) aG) (λq _ ih rs aG RS=>match rs,aG with
 | x::rs,y::aG=>match x with
   | .dead=>ih rs aG RS
   | _=>ih rs aG (setAt RS q (yJ ρ y))
 | _,_=>[]) π
def ZP (ρ:Nat->Nat) (RS:List ae) (q:Nat) (x y:ae):Prop:=match x with
 | .dead=>y=.dead
 | x=>aR RS q=some (yJ ρ x)
def Jb (ρ:Nat->Nat) (RS:List ae) (π:List Nat):List ae->List ae->Prop:=List.rec (λrs _=>rs=[]) (λq _ ih rs aG=>match rs,aG with
 | x::rs,y::aG=>ZP ρ RS q x y/\q<RS.length/\ih rs aG
 | _,_=>False) π
end
section
variable {e E:Env} {av:Nat->Prop} {w:World} {ρ:Nat->Nat}
theorem az.lP {α β γ:Type} {S:β->γ->Prop} {f:α->β}:∀ {l:List α} {m:List γ},az S (l.map f) m↔az (λx y=>S (f x) y) l m
 | [],m=>⟨λh=>by cases h; exact .nil,λh=>by cases h; exact .nil⟩
 | x::l,m=>⟨λh=>by cases h with|cons a b=>exact .cons a (az.lP.1 b),λh=>by cases h with|cons a b=>exact .cons a (az.lP.2 b)⟩
theorem az.iff {α β:Type} {R S:α->β->Prop} (h:∀ x y,R x y↔S x y) {l:List α} {m:List β}:az R l m↔az S l m:=⟨λk=>k.mono λx y=>(h x y).1,λk=>k.mono λx y=>(h x y).2⟩
def jK (e E:Env) (ρ:Nat->Nat):Prop:=∀ i,(e[i]?).map (λx:fJ=>x.wk λ_=>False)=(E[ρ i]?).map λx:fJ=>x.wk λ_=>False
theorem jK.of {e E:Env} {ρ:Nat->Nat} (h:∀ i,e[i]?=E[ρ i]?):jK e E ρ:=λi=>by rw [h i]
theorem IA {x y:fJ} {o:Option fJ} (h:o=some x) {p:Option fJ} (hp:o.map (λx:fJ=>x.wk λ_=>False)=p.map λx:fJ=>x.wk λ_=>False):∃ K,p=some (x.wk K):=by
 subst h
 cases p with
 | none=>simp at hp
 | some y=>
   simp only [Option.map_some,au] at hp
   obtain ⟨y1,⟨y2,y3⟩,y4⟩:=y
   simp only [fJ.wk,bs] at hp
   obtain ⟨h1,⟨h2,_⟩,h3⟩:=hp
   exact ⟨y3,by simp only [fJ.wk,h1,h2,h3]⟩
theorem jK.to {e E:Env} {ρ:Nat->Nat} (he:jK e E ρ) {r:Nat} {x:fJ} (h:e[r]?=some x):∃ K,E[ρ r]?=some (x.wk K):=IA (y:=x) h (he r)
theorem jK.back {e E:Env} {ρ:Nat->Nat} (he:jK e E ρ) {r:Nat} {x:fJ} (h:E[ρ r]?=some x):∃ K,e[r]?=some (x.wk K):=IA (y:=x) h (he r).symm
theorem Jw (he:jK e E ρ) {r b sz:Nat}:bh e r b sz↔bh E (ρ r) b sz:=by
 constructor
 .rintro ⟨h,q⟩
  obtain ⟨K,q⟩:=he.to q
  exact ⟨(h.1,K),q⟩
 .rintro ⟨h,q⟩
  obtain ⟨K,q⟩:=he.back q
  exact ⟨(h.1,K),q⟩
theorem X1 (he:∀ i,e[i]?=E[ρ i]?) {r b sz:Nat}:cM e r b sz↔cM E (ρ r) b sz:=by
 unfold cM; rw [he]
theorem sb (he:jK e E ρ) {c:C} {v:Value}:a7 e av w c v↔a7 E av w (Ff ρ c) v:=by
 cases c with
 | im x=>exact Iff.rfl
 | rt r i j=>simp only [a7,Ff,Jw he]
 | sa r m=>
   simp only [a7,Ff]
   constructor
   .rintro ⟨x,a,n,cap,h1,h2,h3⟩
    obtain ⟨K,h1⟩:=he.to h1
    exact ⟨_,a,n,cap,h1,h2,h3⟩
   .rintro ⟨x,a,n,cap,h1,h2,h3⟩
    obtain ⟨K,h1⟩:=he.back h1
    exact ⟨_,a,n,cap,h1,h2,h3⟩
 | mp r=>simp only [a7,Ff,Jw he]
 | yl r=>simp only [a7,Ff,Jw he]
 | ow r j=>
   simp only [a7,Ff]
   constructor
   .rintro ⟨x,vs,h1,h2,h3⟩
    obtain ⟨K,h1⟩:=he.to h1
    exact ⟨_,vs,h1,h2,h3⟩
   .rintro ⟨x,vs,h1,h2,h3⟩
    obtain ⟨K,h1⟩:=he.back h1
    exact ⟨_,vs,h1,h2,h3⟩
 | fh f l=>simp only [a7,Ff,gE,az.lP,Jw he]
theorem ss (he:jK e E ρ) {l:List C} {m:List Value}:az (a7 e av w) l m↔az (a7 E av w) (nK (Ff ρ) l) m:=by
 grind [gE,az.lP,az.iff,sb]
theorem vh (he:jK e E ρ) {d:D} {v:Value}:aQ e av w d v↔aQ E av w (Jl ρ d) v:=by
 cases d with
 | c x=>exact sb he
 | a l=>simp only [aQ,Jl,ss he]
 | t l=>
   simp only [aQ,Jl,gE (λx:Bool×List C=>(x.1,nK (Ff ρ) x.2)),az.lP]
   refine exists_congr λvs=>and_congr Iff.rfl (az.iff λx y=>?_)
   obtain ⟨b,l⟩:=x
   cases b with
   | true=>simp only [ss he]
   | false=>
     simp only
     constructor
     .rintro ⟨c,rfl,h⟩
      exact ⟨Ff ρ c,rfl,(sb he).1 h⟩
     .rintro ⟨c,h1,h⟩
      rw [gE] at h1
      match l,h1 with
      | [c0],h1=>
        grind [sb]
      | [],h1=>simp at h1
      | _::_::_,h1=>simp at h1
theorem NP (he:jK e E ρ) {l:List D} {m:List Value}:az (aQ e av w) l m↔az (aQ E av w) (nK (Jl ρ) l) m:=by
 grind [gE,az.lP,az.iff,vh]
theorem BH:∀ {sl:aL} {t:Tmp},look (J4 ρ sl) t=(look sl t).map λx=>(Jl ρ x.1,x.2)
 | [],t=>rfl
 | (k,d,c)::sl,t=>by
   show look ((k,Jl ρ d,c)::J4 ρ sl) t=_
   simp only [look]
   split
   .rfl
   .exact BH
theorem N5 {sl:aL}:(∀ x∈J4 ρ sl,x.2.2=[])↔∀ x∈sl,x.2.2=[]:=by
 unfold J4
 rw [gE]
 refine ⟨λh x hx=>?_,λh y hy=>?_⟩
 .have:=h _ (List.mem_map.2 ⟨x,hx,rfl⟩)
  exact this
 grind
theorem Dl (he:jK e E ρ) {N:Nat} {sl:aL} {tm:Array Value}:gQ e av w N sl tm↔gQ E av w N (J4 ρ sl) tm:=by
 constructor
 .intro h t d c hl
  rw [BH] at hl
  cases hx:look sl t with
  | none=>rw [hx] at hl; simp at hl
  | some x=>
    rw [hx] at hl
    simp only [Option.map_some,au,bs] at hl
    obtain ⟨rfl,rfl⟩:=hl
    obtain ⟨q1,q2,q3⟩:=h t x.1 x.2 hx
    exact ⟨q1,λq=>(vh he).1 (q2 q),q3⟩
 .intro h t d c hl
  obtain ⟨q1,q2,q3⟩:=h t (Jl ρ d) c (by rw [BH,hl]; rfl)
  exact ⟨q1,λq=>(vh he).2 (q2 q),q3⟩
theorem Ei {α β:Type} (f:α->β) (l:List α):(nK f l).length=l.length:=by rw [gE]; simp
theorem vH (he:jK e E ρ) {base:Nat} {sB:fJ} {x:ae}:aO e av base w sB x↔aO E av base w sB (yJ ρ x):=by
 cases x with
 | dead=>exact Iff.rfl
 | box l=>simp only [aO,yJ,Ei,ss he]
 | arr el sz n get=>exact Iff.rfl
 | row el sz n l=>simp only [aO,yJ,ss he]
 | bL el sz n get dJ=>
   have hF:∀ {c:Fc} {K:Nat->Prop} {v:Value},iX e av base w c K v↔iX E av base w (mvF ρ c) K v:=λ{c K v}=>by
    cases c with
    | c x=>exact sb he
    | o x=>exact Iff.rfl
   cases dJ with
   | none=>
     constructor<;>rintro ⟨p1,p2,xs,p3,Ks,p4,pf,p5⟩<;>refine ⟨p1,p2,xs,p3,Ks,p4,pf,λi hi j hj=>?_⟩<;>obtain ⟨v,c,g1,g2,g3⟩:=p5 i hi j hj<;>(simp only [fR,au] at g2; subst g2; exact ⟨v,_,g1,rfl,g3⟩)
   | some x=>
     constructor
     .rintro ⟨p1,p2,xs,p3,Ks,p4,pf,p5⟩
      obtain ⟨f1,f2⟩:=pf _ rfl
      refine ⟨p1,p2,xs,p3,Ks,p4,λy hy=>?_,λi hi j hj=>?_⟩
      all_goals grind [fR,bg,mvF,gE]
     .rintro ⟨p1,p2,xs,p3,Ks,p4,pf,p5⟩
      obtain ⟨f1,f2⟩:=pf _ rfl
      refine ⟨p1,p2,xs,p3,Ks,p4,λy hy=>?_,λi hi j hj=>?_⟩
      .grind [Ei]
      .obtain ⟨v,c,g1,g2,g3⟩:=p5 i hi j hj
       unfold fR at g2 ⊢
       cases hb:Nat.beq i x.1 with
       | true=>
         grind [bg,gE]
       | false=>
         simp only [hb,au] at g2 ⊢
         subst g2
         exact ⟨v,_,g1,rfl,g3⟩
 | own l=>exact Iff.rfl
 | set l=>exact Iff.rfl
 | kF=>exact Iff.rfl
 | loop f N sl ps as bd st fi=>
   simp only [aO,yJ,Dl he,N5]
theorem jw {x:ae}:(yJ ρ x).live↔x.live:=by
 cases x with
 | bL el sz n get dJ=>cases dJ<;>exact Iff.rfl
 | _=>exact Iff.rfl
end
structure Frm (ρ:Nat->Nat) (π:List Nat) (rs aG RS M6:List ae):Prop where
 BF:π.length=rs.length
 lt:∀ q∈π,q<RS.length
 len:rs.length<=aG.length
 len':M6.length=RS.length+(aG.length-rs.length)
 Ys:∀ (i:Nat) (x:ae),rs[i]?=some x->x.live->∃ q y,π[i]?=some q/\RS[q]?=some (yJ ρ x)/\aG[i]?=some y/\M6[q]?=some (yJ ρ y)
 out:∀ q:Nat,q<RS.length->(∀ (i:Nat) (x:ae),rs[i]?=some x->x.live->π[i]?≠some q)->M6[q]?=RS[q]?
 new:∀ j:Nat,M6[RS.length+j]?=(aG[rs.length+j]?).map (yJ ρ)
 dead:∀ i:Nat,rs[i]?=some .dead->aG[i]?=some .dead
theorem oS {ρ:Nat->Nat}:∀ {π:List Nat} {rs aG RS Kc:List ae},gW π=true->RS.length=Kc.length->(∀ q∈π,RS[q]?=Kc[q]?)->Jb ρ Kc π rs aG->
  Frm ρ π rs aG RS (sI ρ π rs aG RS)
 | [],rs,aG,RS,Kc,_,_,_,h=>by
   have h:rs=[]:=h
   subst h
   have e:sI ρ [] [] aG RS=RS++aG.map (yJ ρ):=by rw [<- gE]; rfl
   rw [e]
   refine ⟨rfl,λq hq=>(by cases hq),bn _,(by simp),λi x hx=>(by simp at hx),λq hq _=>iU hq,λj=>?_,λi hi=>(by simp at hi)⟩
   grind
 | q::π,rs,aG,RS,Kc,uS,hl,IG,h=>by
   have hnd0:gW (q::π)=true:=uS
   have hnd1:(Bool.rec (gW π) false (nS q π):Bool)=true:=uS
   have hq:q ∉ π:=λhm=>by rw [jX.2 hm] at hnd1; simp at hnd1
   have hnd2:gW π=true:=by
    cases hb:nS q π with
    | true=>simp_all
    | false=>simp_all
   match rs,aG,h with
   | x::rs,y::aG,h=>
     obtain ⟨h1,h2,h3⟩:ZP ρ Kc q x y/\q<Kc.length/\Jb ρ Kc π rs aG:=h
     by_cases hx:x.live
     .have e:sI ρ (q::π) (x::rs) (y::aG) RS=sI ρ π rs aG (RS.set q (yJ ρ y)):=by
       rw [<- ba]
       cases x<;>first|exact hx.elim|rfl
      have h1:Kc[q]?=some (yJ ρ x):=by
       rw [<- bW]
       cases x<;>first|exact hx.elim|exact h1
      have ih:=oS (RS:=RS.set q (yJ ρ y)) (Kc:=Kc) hnd2 (by simpa using hl) (λk hk=>by
       grind) h3
      rw [e]
      have hqout:∀ (i:Nat) (z:ae),rs[i]?=some z->z.live->π[i]?≠some q:=λi z _ _ hp=>hq (List.mem_of_getElem? hp)
      have hql:q<RS.length:=by rw [hl]; exact h2
      refine ⟨by simp [ih.BF],λk hk=>?_,by simpa using ih.len,?_,λi z hz CS=>?_,λk hk hout=>?_,λj=>?_,λi hi=>?_⟩
      .rcases List.mem_cons.1 hk with rfl|hk
       .exact hql
       .simpa using ih.lt k hk
      .rw [ih.len']; simp
      .cases i with
       | zero=>
         simp at hz
         subst hz
         refine ⟨q,y,rfl,by grind,rfl,?_⟩
         rw [ih.out q (by simpa using hql) hqout,jE,if_pos rfl,if_pos hql]
       | succ i=>
         obtain ⟨k,z',p1,p2,p3,p4⟩:=ih.Ys i z (by simpa using hz) CS
         grind
      .have wc:q≠k:=λe=>hout 0 x rfl hx (by simp [e])
       rw [ih.out k (by simpa using hk) (λi z hz CS hp=>hout (i+1) z (by simpa using hz) CS (by simpa using hp)),jE,if_neg wc]
      .have:=ih.new j
       grind
      .cases i with
       | zero=>simp at hi; subst hi; exact hx.elim
       | succ i=>simpa using ih.dead i (by simpa using hi)
     .have hx:x=.dead:=by cases x<;>first|rfl|exact (hx trivial).elim
      subst hx
      have h1:y=.dead:=h1
      subst h1
      have ih:=oS (RS:=RS) (Kc:=Kc) hnd2 hl (λk hk=>IG k (fL _ hk)) h3
      show Frm ρ (q::π) (.dead::rs) (.dead::aG) RS (sI ρ π rs aG RS)
      refine ⟨by simp [ih.BF],λk hk=>?_,by simpa using ih.len,?_,λi z hz CS=>?_,λk hk hout=>?_,λj=>?_,λi hi=>?_⟩
      .rcases List.mem_cons.1 hk with rfl|hk
       .rw [hl]; exact h2
       .exact ih.lt k hk
      .rw [ih.len']; simp
      .cases i with
       | zero=>grind
       | succ i=>
         obtain ⟨k,z',p1,p2,p3,p4⟩:=ih.Ys i z (by simpa using hz) CS
         grind
      .exact ih.out k hk λi z hz CS hp=>hout (i+1) z (by simpa using hz) CS (by simpa using hp)
      .rw [ih.new j,show (ae.dead::rs).length+j=(rs.length+j)+1 by simp; omega]
       simp
      .cases i with
       | zero=>rfl
       | succ i=>simpa using ih.dead i (by simpa using hi)
   | [],_,h=>exact h.elim
   | _::_,[],h=>exact h.elim
section
variable {P:Program} {T:dk} {f:FuncId} {ds:List D} {rs aG RS M6:List ae} {d:D}
theorem bB.frm {π:List Nat} (h:bB T P f ds rs d aG) (uS:gW π=true) (hF:Frm (o6 π RS.length) π rs aG RS M6):bB T P f (nK (Jl (o6 π RS.length)) ds) RS (Jl (o6 π RS.length) d) M6:=by
 refine ⟨h.out.1,?_⟩
 intro N ax w0 sp sl df a w E VS hR hv
 have hndp:=kK uS
 let ρ:=o6 π RS.length
 have hEl:E.length=RS.length:=hR.len
 have rho_in:∀ {i q:Nat},π[i]?=some q->ρ i=q:=λ{i q} hi=>by
  grind [o6,bW]
 have rho_out:∀ {i:Nat},π.length<=i->ρ i=RS.length+(i-π.length):=λ{i} hi=>by
  grind [o6,bW]
 let e:=j5 π E
 have hel:e.length=rs.length:=by show (j5 π E).length=_; unfold j5; simp [hF.BF]
 have he:∀ i,e[i]?=E[ρ i]?:=by
  intro i
  rcases Nat.lt_or_ge i π.length with hi|hi
  .have hq:=ka hi
   have eG:π[i]<E.length:=by rw [hEl]; exact hF.lt _ (List.getElem_mem hi)
   grind [lU]
  .rw [rho_out hi,List.getElem?_eq_none (by rw [hel,<- hF.BF]; exact hi),List.getElem?_eq_none (by omega)]
 let own:Nat->Prop:=λb=>∃ i x sz,rs[i]?=some x/\x.live/\cM e i b sz
 let k0:Kp:=⟨w,w0.base,own⟩
 let av1:Nat->Prop:=λb=>AV ax RS E b/\¬ own b
 have Gf:∀ {i:Nat} {x:ae} {b sz:Nat},rs[i]?=some x->x.live->cM e i b sz->∃ q,π[i]?=some q/\RS[q]?=some (yJ ρ x)/\(yJ ρ x).live/\cM E q b sz:=by
  intro i x b sz h1 h2 h3
  obtain ⟨q,y,p1,p2,_⟩:=hF.Ys i x h1 h2
  refine ⟨q,p1,p2,jw.2 h2,?_⟩
  have:=(X1 he).1 h3
  rwa [rho_in p1] at this
 have hownAV:∀ {b:Nat},own b->AV ax RS E b/\w0.In b/\b<w.heap.size:=by
  rintro b ⟨i,x,sz,h1,h2,h3⟩
  obtain ⟨q,_,p2,p3,p4⟩:=Gf h1 h2 h3
  exact ⟨.inr ⟨q,_,sz,p2,p3,p4⟩,hR.cJ q _ b sz p2 p3 p4⟩
 have hAVlt:∀ {b:Nat},AV ax RS E b->b<w.heap.size:=by
  rintro b (q|⟨q,x,sz,h1,h2,h3⟩)
  .exact hR.jr q
  .exact (hR.cJ q x b sz h1 h2 h3).2
 have hav0:∀ {b:Nat},ax b->¬ own b:=λ{b} q ho=>(hR.outer b q).2 ((hownAV ho).2.1.own (hR.outer b q).1)
 have avEq:AV av1 rs e=AV ax RS E:=by
  funext b
  refine propext ⟨?_,λq=>?_⟩
  .rintro (q|⟨i,x,sz,h1,h2,h3⟩)
   all_goals grind
  .by_cases ho:own b
   .obtain ⟨i,x,sz,h1,h2,h3⟩:=ho
    exact .inr ⟨i,x,sz,h1,h2,h3⟩
   .exact .inl ⟨q,ho⟩
 have hsmall:R T 0 av1 k0 [] ⟨[],rs,[]⟩ { tmps := #[],defers:=[] } w e:=by
  refine ⟨rfl,.nil,λ_ hx=>(by cases hx),⟨rfl,rfl,rfl,bl _,hR.below.base,λ_ _ _=>rfl⟩,hel,λb q=>⟨hAVlt q.1,q.2⟩,?_,?_,?_,λt d c h1=>(by simp [look] at h1),?_⟩
  .intro i x sB h1 h2
   by_cases hx:x.live
   .obtain ⟨q,y,p1,p2,_⟩:=hF.Ys i x h1 hx
    have h2:e[i]?=some sB:=h2
    rw [he,rho_in p1] at h2
    show aO e (AV av1 rs e) w0.base w sB x
    rw [avEq]
    exact (vH (jK.of he)).2 (hR.roots q _ sB p2 h2)
   .have hx:x=.dead:=by cases x<;>first|rfl|exact (hx trivial).elim
    subst hx; trivial
  .intro i x b sz h1 h2 h3
   obtain ⟨_,q1,q2⟩:=hownAV ⟨i,x,sz,h1,h2,h3⟩
   exact ⟨⟨q1.base,λ_=>⟨i,x,sz,h1,h2,h3⟩⟩,q2⟩
  .intro i j x y b sz cL h1 nA h2 ic h3 ld
   obtain ⟨q,p1,p2,p3,p4⟩:=Gf h1 h2 h3
   obtain ⟨q',p1',p2',p3',p4'⟩:=Gf nA ic ld
   have:=hR.dz q q' _ _ b sz cL p2 p2' p3 p3' p4 p4'
   grind
  .show pG T (AV av1 rs e) w
   rw [avEq]; exact hR.fS
 have pF:az (aQ e (AV av1 rs e) w) ds VS:=by
  rw [avEq]
  exact (NP (jK.of he)).2 hv
 refine (h.out.2 0 av1 k0 [] [] [] _ w e VS hsmall pF).mono ?_
 rintro en w' ⟨v,e',rfl,hk,tb,hd⟩
 have hel':e'.length=aG.length:=tb.len
 have hge:rs.length<=e'.length:=by rw [<- hel]; exact hk.len
 let live:Nat->Nat->Prop:=λi q=>(∃ x:ae,rs[i]?=some x/\x.live)/\π[i]?=some q
 have hlive:∀ {i j q:Nat},live i q->live j q->i=j:=λ{i j q} h1 h2=>hndp i j q h1.2 h2.2
 open Classical in
 let val:Nat->fJ->fJ:=λq x=>if h:∃ i,live i q then e'.getD (Classical.choose h) x else x
 let E':Env:=E.mapIdx val++e'.drop rs.length
 have hE'q:∀ {q:Nat},q<RS.length->E'[q]?=(E[q]?).map (val q):=λ{q} hq=>by
  grind
 have hE'live:∀ {i q:Nat},live i q->E'[q]?=e'[i]?:=λ{i q} hq=>by
  obtain ⟨⟨x,h1,h2⟩,h3⟩:=hq
  have eG:q<RS.length:=hF.lt _ (List.mem_of_getElem? h3)
  have hex:∃ i,live i q:=⟨i,⟨x,h1,h2⟩,h3⟩
  grind
 have hE'in:∀ {q:Nat},q<RS.length->(¬ ∃ i,live i q)->E'[q]?=E[q]?:=λ{q} hq hn=>by
  grind
 have hE'new:∀ j:Nat,E'[RS.length+j]?=e'[rs.length+j]?:=λj=>by
  grind
 have heq:∀ {i q:Nat},live i q->e[i]?=E[q]?:=λ{i q} hq=>by rw [he,rho_in hq.2]
 have hEle:Env.le E E':=λq x h1 h2=>by
  have eG:q<RS.length:=by grind
  by_cases hex:∃ i,live i q
  .obtain ⟨i,hi⟩:=hex
   rw [hE'live hi]
   exact hk.le i x (by rw [heq hi]; exact h1) h2
  .rw [hE'in eG hex]; exact ⟨x.2.1.2,h1,h2⟩
 have hkept:Kept E E':=⟨hEle,λq h1=>by
  have eG:q<RS.length:=by grind
  by_cases hex:∃ i,live i q
  .obtain ⟨i,hi⟩:=hex
   rw [hE'live hi]
   exact hk.free i (by rw [heq hi]; exact h1)
  grind⟩
 have hnk:∀ {F G:Env} {i:Nat},Kept F G->i<F.length->(G[i]?).map (λx:fJ=>x.wk λ_=>False)=(F[i]?).map λx:fJ=>x.wk λ_=>False:=λ{F G i} hFG hi=>by
  have h1:=ka hi
  by_cases h2:F[i]=hole
  .rw [h2] at h1; rw [h1,hFG.free i h1]
  .obtain ⟨K,h3,_⟩:=hFG.le i _ h1 h2
   rw [h3,h1]; rfl
 have he':jK e' E' ρ:=by
  intro i
  rcases Nat.lt_or_ge i π.length with hi|hi
  .have hq:=ka hi
   have eG:π[i]<RS.length:=hF.lt _ (List.getElem_mem hi)
   grind
  .rw [rho_out hi,hE'new,hF.BF]
   have e1:rs.length+(i-rs.length)=i:=by rw [hF.BF] at hi; omega
   rw [e1]
 have whr:∀ (q:Nat) (z:ae),M6[q]?=some z->(∃ i y,ρ i=q/\aG[i]?=some y/\z=yJ ρ y/\(∀ sB,E'[q]?=some sB->e'[i]?=some sB))∨(q<RS.length/\RS[q]?=some z/\∀ (i:Nat) (x:ae),rs[i]?=some x->x.live->π[i]?≠some q):=by
  intro q z hz
  rcases Nat.lt_or_ge q RS.length with hq|hq
  .by_cases hex:∃ (i:Nat) (x:ae),rs[i]?=some x/\x.live/\π[i]?=some q
   .obtain ⟨i,x,h1,h2,h3⟩:=hex
    obtain ⟨q',y,p1,p2,p3,p4⟩:=hF.Ys i x h1 h2
    grind
   .refine .inr ⟨hq,?_,λi x h1 h2 h3=>hex ⟨i,x,h1,h2,h3⟩⟩
    rw [<- hF.out q hq λi x h1 h2 h3=>hex ⟨i,x,h1,h2,h3⟩]; exact hz
  .have e1:q=RS.length+(q-RS.length):=by omega
   rw [e1,hF.new] at hz
   cases hy:aG[rs.length+(q-RS.length)]? with
   | none=>rw [hy] at hz; simp at hz
   | some y=>
     rw [hy] at hz
     simp only [Option.map_some,au] at hz
     have hρ:ρ (rs.length+(q-RS.length))=q:=by
      rw [rho_out (by rw [hF.BF]; omega),hF.BF]; omega
     grind
 have nolive:∀ {q:Nat},(∀ (i:Nat) (x:ae),rs[i]?=some x->x.live->π[i]?≠some q)->¬ ∃ i,live i q:=λhn ⟨i,⟨x,h1,h2⟩,h3⟩=>hn i x h1 h2 h3
 have hatE:∀ {q b sz:Nat},q<RS.length->(∀ (i:Nat) (x:ae),rs[i]?=some x->x.live->π[i]?≠some q)->cM E' q b sz->cM E q b sz:=λhq hn ⟨hh,h1,h2⟩=>⟨hh,by grind,h2⟩
 have notown:∀ {q b sz:Nat} {z:ae},RS[q]?=some z->z.live->(∀ (i:Nat) (x:ae),rs[i]?=some x->x.live->π[i]?≠some q)->cM E q b sz->¬ own b:=by
  rintro q b sz z h1 h2 h3 h4 ⟨i,x,cL,g1,g2,g3⟩
  obtain ⟨q',p1,p2,p3,p4⟩:=Gf g1 g2 g3
  have:=hR.dz q q' _ _ b sz cL h1 p2 h2 p3 h4 p4
  grind
 have hsub:∀ b,AV ax M6 E' b->AV av1 aG e' b:=by
  rintro b (q|⟨q,z,sz,h1,h2,h3⟩)
  .exact .inl ⟨.inl q,hav0 q⟩
  .rcases whr q z h1 with ⟨i,y,_,g2,rfl,g4⟩|⟨g1,g2,g3⟩
   .obtain ⟨hh,h3⟩:=h3
    exact .inr ⟨i,y,sz,g2,jw.1 h2,hh,g4 _ h3.1,h3.2⟩
   .have h4:=hatE g1 g3 h3
    exact .inl ⟨.inr ⟨q,z,sz,g2,h2,h4⟩,notown g2 h2 g3 h4⟩
 have hold:∀ b,b<w.heap.size->¬ own b->w'.heap[b]?=w.heap[b]?:=tb.below.block
 have gA:w.heap.size<=w'.heap.size:=tb.below.size
 have hkeeps:aW (AV ax RS E) w w':=⟨gA,λb hb hn=>hold b hb λho=>hn (hownAV ho).1⟩
 have eT:∀ b,b<w.heap.size->AV ax M6 E' b->AV ax RS E b:=by
  intro b hb q
  rcases hsub b q with q|⟨i,y,sz,h1,h2,h3⟩
  .exact q.1
  .exact (hownAV ((tb.cJ i y b sz h1 h2 h3).1.own hb)).1
 have hbig2:=hR.zP (aG:=M6) (E':=E') (w':=w') hEle hkeeps (hR.below.grown tb.below.os tb.below.tape tb.below.output gA λk hk hn=>hold k hk λho=>hn (hownAV ho).2.1) eT
  (by show (E.mapIdx val++e'.drop rs.length).length=_; rw [List.length_append,List.length_mapIdx,List.length_drop,hel',hF.len',hEl])
  (by
   intro q z sB h1 h2
   rcases whr q z h1 with ⟨i,y,_,g2,rfl,g4⟩|⟨g1,g2,g3⟩
   .have:=(vH he').1 (tb.roots i y sB g2 (g4 sB h2))
    exact aO.mono (Env.le_refl E') (aW.refl _ w') (λb _ q=>hsub b q) (λ_ _ _=>rfl) this
   .rw [hE'in g1 (nolive g3)] at h2
    refine aO.mono hEle hkeeps eT (λhl b hb=>?_) (hR.roots q z sB g2 h2)
    have ho:cM E q b sB.2.2:=⟨sB,h2,rfl,hb⟩
    exact hold b (hR.cJ q z b _ g2 hl ho).2 (notown g2 hl g3 ho))
  (by
   intro q z b sz h1 h2 h3
   rcases whr q z h1 with ⟨i,y,_,g2,rfl,g4⟩|⟨g1,g2,g3⟩
   .obtain ⟨hh,h3⟩:=h3
    have hb:=tb.cJ i y b sz g2 (jw.1 h2) ⟨hh,g4 _ h3.1,h3.2⟩
    exact ⟨⟨hb.1.base,λeG=>(hownAV (hb.1.own (Nat.lt_of_lt_of_le eG hR.below.size))).2.1.own eG⟩,hb.2⟩
   .have hb:=hR.cJ q z b sz g2 h2 (hatE g1 g3 h3)
    grind)
  (by
   intro q q' z z' b sz cL h1 nA h2 ic h3 ld
   rcases whr q z h1 with ⟨i,y,p,g2,rfl,g4⟩|⟨g1,g2,g3⟩<;>rcases whr q' z' nA with ⟨i',y',p',QZ,rfl,g4'⟩|⟨YA,QZ,Wg⟩
   .obtain ⟨hh,h3⟩:=h3
    obtain ⟨hh',ld⟩:=ld
    have:=tb.dz i i' y y' b sz cL g2 QZ (jw.1 h2) (jw.1 ic) ⟨hh,g4 _ h3.1,h3.2⟩ ⟨hh',g4' _ ld.1,ld.2⟩
    rw [<- p,<- p',this]
   .obtain ⟨hh,h3⟩:=h3
    have h4:=hatE YA Wg ld
    have hb:=hR.cJ q' z' b cL QZ ic h4
    exact ((notown QZ ic Wg h4) ((tb.cJ i y b sz g2 (jw.1 h2) ⟨hh,g4 _ h3.1,h3.2⟩).1.own hb.2)).elim
   .obtain ⟨hh',ld⟩:=ld
    have h4:=hatE g1 g3 h3
    have hb:=hR.cJ q z b sz g2 h2 h4
    exact ((notown g2 h2 g3 h4) ((tb.cJ i' y' b cL QZ (jw.1 ic) ⟨hh',g4' _ ld.1,ld.2⟩).1.own hb.2)).elim
   .exact hR.dz q q' z z' b sz cL g2 QZ h2 ic (hatE g1 g3 h3) (hatE YA Wg ld))
 exact ⟨v,E',rfl,hkept,hbig2,aQ.mono (Env.le_refl E') (aW.refl _ w') (λb _ q=>hsub b q) ((vh he').1 hd)⟩
theorem bB.jm (h:bB T P f ds rs d aG) (π:List Nat) (RS:List ae) (uS:gW π=true) (ok:Jb (o6 π RS.length) RS π rs aG) :
  bB T P f (nK (Jl (o6 π RS.length)) ds) RS (Jl (o6 π RS.length) d) (sI (o6 π RS.length) π rs aG RS):=
 h.frm uS (oS uS rfl (λ_ _=>rfl) ok)
end
section
variable {P:Program} {T:dk} {f:FuncId} {ds:List D} {rs:List ae} {d:D}
theorem Lu {q:Nat} {x:ae} {rs:List ae} (h:q<rs.length):place q x rs=rs.set q x:=by
 have e:Nat.beq q rs.length=false:=by
  grind [cg]
 unfold place
 rw [e]
 exact ba _ _ _
theorem wh.jm {i:Nat} {y:ae} (h:bB T P f ds rs d (rs.set i y)) (π:List Nat) (RS:List ae) (uS:gW π=true) (ok:Jb (o6 π RS.length) RS π rs (rs.set i y)) {q:Nat} (hi:π[i]?=some q) (hl:∃ x,rs[i]?=some x/\x.live) :
  wh T P f (nK (Jl (o6 π RS.length)) ds) RS (Jl (o6 π RS.length) d) q (yJ (o6 π RS.length) y):=by
 refine ⟨λRS2 hlen hle=>?_⟩
 have F:=oS (RS:=RS) uS rfl (λ_ _=>rfl) ok
 have hndp:=kK uS
 have hq:q<RS2.length:=by rw [<- hlen]; exact F.lt q (List.mem_of_getElem? hi)
 have hil:i<rs.length:=by grind
 rw [Lu hq]
 rw [hlen]
 rw [hlen] at F
 refine h.frm uS ⟨F.BF,λk hk=>by rw [<- hlen]; exact F.lt k hk,by simp,by simp,λj x h1 h2=>?_,λk hk hout=>?_,λj=>?_,λj hj=>F.dead j hj⟩
 .obtain ⟨k,z,p1,p2,p3,_⟩:=F.Ys j x h1 h2
  have p2':RS2[k]?=some (yJ (o6 π RS2.length) x):=by
   have:=hle k (yJ (o6 π RS2.length) x) (by rw [bW]; exact p2) (jw.2 h2)
   rwa [bW] at this
  grind
 all_goals grind
end
open Go.RowKit
section
variable {P:Program} {T:dk} {N:Nat} {ax:Nat->Prop} {w0:Kp} {sp:List (D×Value)} {s s':VS} {a:Act} {w w':World} {E E':Env} {f:FuncId} {b:Frame} {cs:List Frame} {ro:Option Nat} {n0:Nat} {ey:Option Code->VS->Prop} {todo:List Item}
def cd (rs:List ae) (d:D) (aG:List ae) (d1:D) (fQ:List ae):Prop:=
 ∃ (π:List Nat) (d2:D) (oU Vf:List ae),OP rs.length π ⟨[(0,d1,[])],fQ,[]⟩=some ⟨[(0,d2,[])],oU,[]⟩/\az bZ oU Vf/\Ends rs d aG d2 Vf
theorem R.Uy {rs aG fQ:List ae} {d d1:D} {v:Value} (he:cd rs d aG d1 fQ) (dr:∀ x∈sp,jf rs.length x.1=true) (h:R T N ax w0 sp ⟨[],rs,[]⟩ a w E) (h':R T N ax w0 sp ⟨[],fQ,[]⟩ a w' E') (hk:Kept E E') (hv:aQ E' (AV ax fQ E') w' d1 v) :
  ∃ sA,Kept E sA/\R T N ax w0 sp ⟨[],aG,[]⟩ a w' sA/\aQ sA (AV ax aG sA) w' d v:=by
 obtain ⟨π,d2,oU,Vf,h1,h2,h3⟩:=he
 have hlE:E.length=rs.length:=h.len
 have hlE':E'.length=fQ.length:=h'.len
 have hle:rs.length<=fQ.length:=by have:=hk.len; omega
 have hR1:R T 1 ax w0 sp ⟨[(0,d1,[])],fQ,[]⟩ { tmps := #[v],defers:=[] } w' E':=⟨rfl,.nil,h'.spec,h'.below,h'.len,h'.outer,h'.roots,h'.cJ,h'.dz,λt d c hl=>by
  simp only [look] at hl
  split at hl
  all_goals simp_all,h'.fS⟩
 obtain ⟨E2,g1,g2,g3⟩:=R.renamed h1 dr hle hR1 (λx hx=>by simp at hx; rw [hx])
 have hk2:Kept E E2:=by
  have q1:Kept E (E'.take rs.length):=by
   have:=hk.take rs.length
   grind
  rw [<- g1] at q1
  exact q1.trans (Kept.kX E2 _)
 have hR3:=g2.le (s':=⟨[(0,d2,[])],Vf,[]⟩) g3 ⟨⟨rfl,d2,rfl,bf.refl _⟩,trivial⟩ h2 rfl
 have hv3:aQ E2 (AV ax Vf E2) w' d2 v:=(hR3.slots 0 d2 [] rfl).2.1 λp hp=>by cases hp
 have hR4:R T 1 ax w0 sp ⟨[],Vf,[]⟩ { tmps := #[v],defers:=[] } w' E2:=⟨rfl,.nil,hR3.spec,hR3.below,hR3.len,hR3.outer,hR3.roots,hR3.cJ,hR3.dz,λt d c q=>by simp [look] at q,hR3.fS⟩
 have hR0:R T 1 ax w0 sp ⟨[],rs,[]⟩ { tmps := #[v],defers:=[] } w E:=⟨rfl,.nil,h.spec,h.below,h.len,h.outer,h.roots,h.cJ,h.dz,λt d c q=>by simp [look] at q,h.fS⟩
 obtain ⟨E3,p1,p2,p3⟩:=hR0.ends (λt d c q=>by simp [look] at q) hR4 hk2 h3 hv3
 have Qt:az (λr (d:Deferred)=>∃ b sz,bh E3 r b sz/\d={ target:=.collected b,args := #[] }) [] a.defers:=by
  have:=h'.defers
  revert this
  cases a.defers with
  | nil=>exact λ_=>.nil
  | cons x l=>exact λq=>by cases q
 exact ⟨E3,p1,⟨h'.size,Qt,p2.spec,p2.below,p2.len,p2.outer,p2.roots,p2.cJ,p2.dz,λt d c q=>by simp [look] at q,p2.fS⟩,p3⟩
theorem Ou (bC:cZ P T) {fn:Func} (hf:P.funcs[f]?=some fn) (oo:(fn.name == "runtime.NumGoroutine")=false) {c:Code} (hc:fn.body=some c) {ds:List D} {rs:List ae} {d:D} {aG:List ae} (hlen:ds.length<=fn.ntmps)
  (hg:∀ (b:Frame) (cs:List Frame),b.fn=f->Goal P T fn.ntmps b cs none rs.length (rz T fn.results.toList (cd rs d aG)) [.code c] ⟨cP 0 ds,rs,[]⟩):bB T P f ds rs d aG:=
 vG bC hf oo hc hlen (λhq dr h h' hk hv=>R.Uy hq dr h h' hk hv) hg
def Pk (r j q m el sz n:Nat) (get:Nat->Nat->I) (l:List C) (s:VS):VS:={ s with rs:=setAt (setAt s.rs q .dead) r (.box (setAt l j (.sa s.rs.length m)))++[.arr el sz n get] }
theorem Goal.Cg {r j q m el sz n:Nat} {get:Nat->Nat->I} {l:List C} (hr:aR s.rs r=some (.box l)) (hj:aR l j=some (.sa q m)) (hq:aR s.rs q=some (.arr el sz n get)) (g:Goal P T N b cs ro n0 ey todo (Pk r j q m el sz n get l s)):Goal P T N b cs ro n0 ey todo s:=
 g.ghost λax w0 sp a w E dr uw hR hn=>by
  rw [bW] at hr hj hq
  have hrl:r<s.rs.length:=(List.getElem?_eq_some_iff.1 hr).1
  have hql:q<s.rs.length:=(List.getElem?_eq_some_iff.1 hq).1
  have Yv:r≠q:=by grind
  have hqE:q<E.length:=by rw [hR.len]; exact hql
  let e:=E[q]
  have he:E[q]?=some e:=ka hqE
  let E':Env:=E++[e]
  have hEle:=Env.et E [e]
  let fQ:=(s.rs.set q .dead).set r (.box (setAt l j (.sa s.rs.length m)))
  have hl1:fQ.length=s.rs.length:=by simp [fQ]
  have iL:∀ {k bb z:Nat},cM E' k bb z->(k<s.rs.length/\cM E k bb z)∨(k=s.rs.length/\cM E q bb z):=by
   rintro k bb z ⟨hh,h1,h9⟩
   rcases Nat.lt_or_ge k E.length with hk|hk
   .rw [iU hk] at h1
    exact .inl ⟨by rw [<- hR.len]; exact hk,hh,h1,h9⟩
   .rw [nD hk] at h1
    rcases Nat.eq_zero_or_pos (k-E.length) with e0|e0
    .rw [e0] at h1
     simp at h1
     refine .inr ⟨by rw [<- hR.len]; omega,hh,?_,h9⟩
     rw [he,h1]
    grind
  have key:∀ (k:Nat) (y:ae) (bb z:Nat),(fQ++[ae.arr el sz n get])[k]?=some y->y.live->cM E' k bb z->∃ k0 x,s.rs[k0]?=some x/\x.live/\cM E k0 bb z/\k0=(if k=s.rs.length then q else k)/\(k≠s.rs.length->k≠q):=by
   intro k y bb z h1 h2 h3
   rcases iL h3 with ⟨hk,h4⟩|⟨hk,h4⟩
   .rw [iU (by rw [hl1]; exact hk)] at h1
    have wc:k≠s.rs.length:=by omega
    have hkq:k≠q:=by
     intro e0
     subst e0
     simp only [fQ] at h1
     rw [jE,if_neg Yv,jE,if_pos rfl,if_pos hql] at h1
     simp only [au] at h1
     subst h1; exact h2
    refine ⟨k,?_⟩
    rw [if_neg wc]
    by_cases hkr:r=k
    .subst hkr
     exact ⟨_,hr,trivial,h4,rfl,λ_=>hkq⟩
    grind
   grind
  have eT:∀ bb,AV ax (fQ++[ae.arr el sz n get]) E' bb->AV ax s.rs E bb:=by
   rintro bb (h1|⟨k,y,z,h1,h2,h3⟩)
   .exact .inl h1
   .obtain ⟨k0,x,g1,g2,g3,_⟩:=key k y bb z h1 h2 h3
    exact .inr ⟨k0,x,z,g1,g2,g3⟩
  have hR2:=hR.zP (aG:=fQ++[ae.arr el sz n get]) (E':=E') (w':=w) hEle (aW.refl _ w) hR.below (λbb _ h1=>eT bb h1) (by simp [E',hl1,hR.len])
   (by
    intro k y sB h1 h2
    rcases Nat.lt_or_ge k s.rs.length with hk|hk
    .rw [iU (by rw [hl1]; exact hk)] at h1
     have h2:(E++[e])[k]?=some sB:=h2
     rw [iU (by rw [hR.len]; exact hk)] at h2
     simp only [fQ] at h1
     by_cases hkr:r=k
     .subst hkr
      rw [jE,if_pos rfl,if_pos (by simpa using hrl)] at h1
      simp only [au] at h1
      subst h1
      obtain ⟨bb,vs,Tc,p1,p2,p3,p4⟩:=aO.mono (cG:=AV ax (fQ++[ae.arr el sz n get]) E') hEle (aW.refl _ w) (λb _ h=>eT b h) (λ_ _ _=>rfl) (hR.roots r _ sB hr h2)
      refine ⟨bb,vs,Tc,p1,by rw [ba]; simpa using p2,p3,?_⟩
      rw [ba]
      refine az.xh (by simpa using p4.length) λi x v hx hv=>?_
      rw [jE] at hx
      split at hx
      .rename_i hji
       subst hji
       split at hx
       .simp only [au] at hx
        subst hx
        obtain ⟨e',a',n',cap,q1,q2,q3,q4⟩:=p4.get hj hv
        have q1:(E++[e])[q]?=some e':=q1
        rw [iU hqE,he] at q1
        refine ⟨e,a',n',cap,?_,?_,q3,q4⟩
        .show (E++[e])[s.rs.length]?=some e
         rw [<- hR.len]; simp
        grind
       .simp at hx
      .exact p4.get hx hv
     .rw [jE,if_neg hkr,jE] at h1
      split at h1
      .first
       | (simp only [au] at h1; subst h1; trivial)
       | (split at h1
          .simp only [au] at h1; subst h1; trivial
          .simp at h1)
      .exact aO.mono hEle (aW.refl _ w) (λb _ h=>eT b h) (λ_ _ _=>rfl) (hR.roots k y sB h1 h2)
    .rw [nD (by rw [hl1]; exact hk),hl1] at h1
     rcases Nat.eq_zero_or_pos (k-s.rs.length) with e0|e0
     .rw [e0] at h1
      simp at h1
      have hk0:k=s.rs.length:=by omega
      subst hk0
      have h2:(E++[e])[s.rs.length]?=some sB:=h2
      rw [<- hR.len] at h2
      simp at h2
      subst h1 h2
      exact aO.mono hEle (aW.refl _ w) (λb _ h=>eT b h) (λ_ _ _=>rfl) (hR.roots q _ e hq he)
     grind)
   (by
    intro k y bb z h1 h2 h3
    obtain ⟨k0,x,g1,g2,g3,_⟩:=key k y bb z h1 h2 h3
    exact hR.cJ k0 x bb z g1 g2 g3)
   (by
    intro k k' y y' bb z z' h1 nA h2 ic h3 ld
    obtain ⟨k0,x,g1,g2,g3,g4,g5⟩:=key k y bb z h1 h2 h3
    obtain ⟨k0',x',YA,QZ,Wg,g4',g5'⟩:=key k' y' bb z' nA ic ld
    have:=hR.dz k0 k0' x x' bb z z' g1 YA g2 QZ g3 Wg
    grind)
  refine ⟨E',?_,?_,hn⟩
  .show (E++[e]).take n0=_
   rw [List.take_append_of_le_length (by rw [hR.len]; exact uw)]
  grind [Pk,ba]
end
section
variable {P:Program} {T:dk} {N:Nat} {b:Frame} {cs:List Frame} {ro:Option Nat} {n0:Nat} {ey:Option Code->VS->Prop} {todo:List Item} {s s':VS} {ax:Nat->Prop} {w0:Kp} {sp:List (D×Value)} {a:Act} {w:World} {E:Env}
theorem Goal.PJ (g:Goal P T N b cs ro n0 ey todo s') (h:∀ ax w0 sp a w E,(∀ x∈sp,jf n0 x.1=true)->n0<=s.rs.length->R T N ax w0 sp s a w E->bw s.sl->∃ E',Kept (E.take n0) (E'.take n0)/\n0<=s'.rs.length/\R T N ax w0 sp s' a w E'/\bw s'.sl):Goal P T N b cs ro n0 ey todo s:=by
 intro ax w0 sp a w E uw dr Fe hR hn
 obtain ⟨E',h1,hl,h2,h3⟩:=h ax w0 sp a w E dr uw hR hn
 obtain ⟨j,s2,a2,w2,E2,t2,q1,q2⟩:=g ax w0 sp a w E' hl dr (Fe.mono h1.le) h2 h3
 exact ⟨j,s2,a2,w2,E2,t2,h1.trans q1,q2⟩
def du (x y:Fc):Prop:=∀ (E:Env) (av:Nat->Prop) (base:Nat) (w:World) (K:Nat->Prop) (v:Value),iX E av base w x K v->iX E av base w y K v
theorem du.refl (x:Fc):du x x:=λ_ _ _ _ _ _ h=>h
theorem du.cB (x:I):du (.c (.im x)) (.o (.im x)):=λ_ _ _ _ _ _ h=>h
theorem du.im {x y:I} (h:dK x y):du (.o (.im x)) (.o (.im y)):=λ_ av _ w _ v q=>h av w v q
theorem Hz {el sz n:Nat} {get get':Nat->Nat->O} {dJ lu:Option (Nat×List Fc)} (hf:∀ x,lu=some x->x.1<n/\x.2.length=sz) (h:∀ i,i<n->∀ j,j<sz->∀ c,fR get dJ i j=some c->∃ c',fR get' lu i j=some c'/\du c c')
  {E:Env} {av:Nat->Prop} {base:Nat} {w:World} {e:fJ} (hr:aO E av base w e (.bL el sz n get dJ)):aO E av base w e (.bL el sz n get' lu):=by
 obtain ⟨p1,p2,xs,p3,Ks,p4,_,p5⟩:=hr
 refine ⟨p1,p2,xs,p3,Ks,p4,hf,λi hi j hj=>?_⟩
 obtain ⟨x,c,q1,q2,q3⟩:=p5 i hi j hj
 obtain ⟨c',q4,q5⟩:=h i hi j hj c q2
 exact ⟨x,c',q1,q4,q5 _ _ _ _ _ _ q3⟩
theorem Goal.bL {r el sz n:Nat} {get get':Nat->Nat->O} {dJ lu:Option (Nat×List Fc)} (hr:aR s.rs r=some (.bL el sz n get dJ)) (hf:∀ x,lu=some x->x.1<n/\x.2.length=sz)
  (h:∀ i,i<n->∀ j,j<sz->∀ c,fR get dJ i j=some c->∃ c',fR get' lu i j=some c'/\du c c')
  (g:Goal P T N b cs ro n0 ey todo { s with rs:=setAt s.rs r (.bL el sz n get' lu) }):Goal P T N b cs ro n0 ey todo s:=
 Goal.swap (x:=.bL el sz n get dJ) hr (λ_=>trivial) (λbase E w e av q=>Hz hf h q) g
theorem IK {el sz n:Nat} {get:Nat->Nat->I} {get':Nat->Nat->O} (h:∀ i,i<n->∀ j,j<sz->get' i j=.im (get i j)) {E:Env} {av:Nat->Prop} {base:Nat} {w:World} {e:fJ} (hr:aO E av base w e (.arr el sz n get)):aO E av base w e (.bL el sz n get' none):=by
 obtain ⟨p1,p2,xs,p3,p4⟩:=hr
 refine ⟨p1,p2,xs,p3,λ_ _ _=>False,⟨λ_ _ _ q=>q.elim,λ_ _ _ q=>q.elim,λ_ _ _ _ _ q=>q.elim⟩,λx hx=>(by cases hx),λi hi j hj=>?_⟩
 obtain ⟨x,q1,q2⟩:=p4 i hi j hj
 refine ⟨x,_,q1,rfl,?_⟩
 rw [h i hi j hj]
 exact q2
theorem Goal.QI {r el sz n:Nat} {get:Nat->Nat->I} {get':Nat->Nat->O} (hr:aR s.rs r=some (.arr el sz n get)) (h:∀ i,i<n->∀ j,j<sz->get' i j=.im (get i j))
  (g:Goal P T N b cs ro n0 ey todo { s with rs:=setAt s.rs r (.bL el sz n get' none) }):Goal P T N b cs ro n0 ey todo s:=
 Goal.swap (x:=.arr el sz n get) hr (λ_=>trivial) (λbase E w e av q=>IK h q) g
def ZZ:O->Fc:=O.rec (λx=>.c (.im x)) (λe sz n get=>.o (.ar e sz n get)) (λe sz n get _=>.o (.ns e sz n get))
def kI (f:Nat->O) (n:Nat):Nat->List Fc:=Nat.rec (λ_=>[]) (λ_ ih j=>ZZ (f j)::ih (j+1)) n
theorem Ya (x:O):du (.o x) (ZZ x):=by cases x<;>exact λ_ _ _ _ _ _ h=>h
theorem Fa (f:Nat->O):∀ (n j:Nat),(kI f n j).length=n
 | 0,_=>rfl
 | n+1,j=>by show (ZZ (f j)::kI f n (j+1)).length=_; rw [List.length_cons,Fa f n]
theorem Dv (f:Nat->O):∀ (n j k:Nat),k<n->(kI f n j)[k]?=some (ZZ (f (j+k)))
 | 0,_,_,h=>by omega
 | n+1,j,0,_=>rfl
 | n+1,j,k+1,h=>by
   show (ZZ (f j)::kI f n (j+1))[k+1]?=_
   rw [List.getElem?_cons_succ,Dv f n (j+1) k (by omega),show j+1+k=j+(k+1) by omega]
theorem Goal.focus {r k el sz n:Nat} {get:Nat->Nat->O} (hr:aR s.rs r=some (.bL el sz n get none)) (hk:k<n)
  (g:Goal P T N b cs ro n0 ey todo { s with rs:=setAt s.rs r (.bL el sz n get (some (k,kI (get k) sz 0))) }):Goal P T N b cs ro n0 ey todo s:=
 Goal.bL hr (λx hx=>by grind [Fa]) (λi hi j hj c hc=>by
  grind [fR,Nat.eq_of_beq_eq_true,bg,Dv,Ya,du.refl]) g
theorem fO.Zb {av:Nat->Prop} {base:Nat} {w:World} {x:O} {K K':Nat->Prop} {v:Value} (hK:∀ b,K b->K' b) (h:fO av base w x K v):fO av base w x K' v:=by
 cases x with
 | im x=>exact h
 | ar el sz n get=>exact ⟨λb q=>hK b (h.1 b q),h.2⟩
 | ns el sz n get=>
   obtain ⟨h0,xs,h1,Ks,hp,h2⟩:=h
   exact ⟨λb q=>hK b (h0 b q),xs,h1,Ks,⟨λi j b q=>hK b (hp.sub i j b q),hp.ne,hp.inj⟩,h2⟩
theorem A6 {get:Nat->Nat->O} {k:Nat} {l:List Fc} {j:Nat}:fR get (some (k,l)) k j=l[j]?:=by
 unfold fR
 simp only [gu,bg]
theorem DT {get:Nat->Nat->O} {k:Nat} {l:List Fc} {j:Nat} {x:Fc} (hj:j<l.length) (i' j':Nat):(i'=k/\j'=j/\fR get (some (k,l.set j x)) i' j'=some x)∨(¬ (i'=k/\j'=j)/\fR get (some (k,l.set j x)) i' j'=fR get (some (k,l)) i' j'):=by
 grind [A6,fR,Nat.eq_of_beq_eq_true]
def nk:O->ae
 | .im _=>.dead
 | .ar e sz n get=>.arr e sz n get
 | .ns e sz n get=>.bL e sz n get none
def wz:O->Nat
 | .im _=>0
 | .ar _ _ n _=>n
 | .ns _ _ n _=>n
theorem fO.root {av:Nat->Prop} {base:Nat} {w:World} {x:O} (hx:(nk x).live) {K:Nat->Prop} {v:Value} (h:fO av base w x K v) :
  ∃ (a:Option Addr) (cap sz:Nat),v=.slice a (wz x) cap/\(∀ b,v.ownBlock=some b->K b)/\∀ E:Env,aO E av base w (v.ownBlock,(v,λb=>K b/\v.ownBlock≠some b),sz) (nk x):=by
 cases x with
 | im x=>exact hx.elim
 | ar el sz n get=>
   obtain ⟨h0,xs,h1,h2⟩:=h
   obtain ⟨ao,cap,rfl⟩:=cS h1
   exact ⟨ao,cap,sz,rfl,h0,λE=>⟨rfl,rfl,xs,h1,h2⟩⟩
 | ns el sz n get=>
   obtain ⟨h0,xs,h1,Ks,hp,h2⟩:=h
   obtain ⟨ao,cap,rfl⟩:=cS h1
   refine ⟨ao,cap,sz,rfl,h0,λE=>⟨rfl,rfl,xs,h1,Ks,⟨λi j b q=>⟨hp.sub i j b q,hp.ne i j b q⟩,hp.ne,hp.inj⟩,λx hx=>(by cases hx),λi hi j hj=>?_⟩⟩
   obtain ⟨x,q1,q2⟩:=h2 i hi j hj
   exact ⟨x,_,q1,rfl,q2⟩
theorem R.open (h:R T N ax w0 sp s a w E) {r k j el sz n:Nat} {get:Nat->Nat->O} {l:List Fc} {x:O} (hr:s.rs[r]?=some (.bL el sz n get (some (k,l)))) (hj:l[j]?=some (.o x)) (hx:(nk x).live) :
  ∃ E',Kept E E'/\R T N ax w0 sp { s with rs:=s.rs.set r (.bL el sz n get (some (k,l.set j (.c (.sa s.rs.length (wz x))))))++[nk x] } a w E':=by
 have hrl:r<s.rs.length:=(List.getElem?_eq_some_iff.1 hr).1
 have hrE:r<E.length:=by rw [h.len]; exact hrl
 have he:=ka hrE
 generalize VB:E[r]=e at he
 obtain ⟨p1,p2,xs,p3,Ks,p4,pf,p5⟩:=h.roots r _ _ hr he
 obtain ⟨f1,f2⟩:=pf _ rfl
 have f1:k<n:=f1
 have f2:l.length=sz:=f2
 have hjl:j<l.length:=(List.getElem?_eq_some_iff.1 hj).1
 obtain ⟨v,c,g1,g2,g3⟩:=p5 k f1 j (by omega)
 rw [A6,hj] at g2
 simp only [au] at g2
 subst g2
 obtain ⟨ao,cap,Ti,hv,dX,hroot⟩:=fO.root hx (show fO (AV ax s.rs E) w0.base w x (Ks k j) v from g3)
 have wc:e≠hole:=by
  grind [cS,fJ.I9]
 let K1:Nat->Prop:=λb=>e.2.1.2 b/\¬ Ks k j b
 let e1:fJ:=e.wk K1
 let e2:fJ:=(v.ownBlock,(v,λb=>Ks k j b/\v.ownBlock≠some b),Ti)
 let E':Env:=E.set r e1++[e2]
 have hEl:(E.set r e1).length=s.rs.length:=by rw [List.length_set,h.len]
 have hE'r:E'[r]?=some e1:=by
  grind
 have hE'q:∀ {q:Nat},q<s.rs.length->q≠r->E'[q]?=E[q]?:=λ{q} hq hn=>by
  grind
 have hE'p:E'[s.rs.length]?=some e2:=by
  grind
 have hE'o:∀ {q:Nat} {y:fJ},E'[q]?=some y->q<=s.rs.length:=λ{q y} hq=>by
  grind
 have hle:Env.le E E':=λq y h1 h2=>by
  have hq:q<s.rs.length:=by grind
  by_cases hqr:q=r
  .subst hqr
   rw [he] at h1
   simp only [au] at h1
   subst h1
   exact ⟨K1,hE'r,λe3=>by
    have:=congrArg (λz:fJ=>z.2.1.1) e3
    obtain ⟨a2,c2,h4⟩:=cS p3
    have h5:e.2.1.1=undef:=this
    rw [h4] at h5
    simp [undef] at h5⟩
  .exact ⟨y.2.1.2,by rw [hE'q hq hqr]; exact h1,h2⟩
 have hkept:Kept E E':=⟨hle,λq h1=>by
  grind⟩
 refine ⟨E',hkept,?_⟩
 let y1:ae:=.bL el sz n get (some (k,l.set j (.c (.sa s.rs.length (wz x)))))
 have key:∀ (q:Nat) (y:ae) (bb z:Nat),(s.rs.set r y1++[nk x])[q]?=some y->y.live->cM E' q bb z->
   (q≠r/\q<s.rs.length/\s.rs[q]?=some y/\cM E q bb z)∨(q=r/\e.has bb/\¬ Ks k j bb)∨(q=s.rs.length/\Ks k j bb):=by
  rintro q y bb z h1 h2 ⟨sB,h3,h4,h5⟩
  rcases Nat.lt_trichotomy q s.rs.length with hq|hq|hq
  .rw [iU (by grind),jE] at h1
   by_cases hqr:r=q
   .subst hqr
    rw [hE'r] at h3
    simp only [au] at h3
    subst h3
    refine .inr (.inl ⟨rfl,?_⟩)
    rcases h5 with h5|h5
    .have h5:e.1=some bb:=h5
     exact ⟨.inl h5,λq=>p4.ne k j bb q (p2.symm.trans h5)⟩
    .exact ⟨.inr h5.1,h5.2⟩
   .rw [if_neg hqr] at h1
    rw [hE'q hq (λe=>hqr e.symm)] at h3
    exact .inl ⟨λe=>hqr e.symm,hq,h1,sB,h3,h4,h5⟩
  .subst hq
   rw [hE'p] at h3
   simp only [au] at h3
   subst h3
   refine .inr (.inr ⟨rfl,?_⟩)
   rcases h5 with h5|h5
   all_goals grind
  .have:=hE'o h3; omega
 have hKe:∀ {bb:Nat},Ks k j bb->e.has bb:=λq=>.inr (p4.sub k j _ q)
 have hrown:∀ {bb:Nat},e.has bb->cM E r bb e.2.2:=λq=>⟨e,he,rfl,q⟩
 have eT:∀ bb,AV ax (s.rs.set r y1++[nk x]) E' bb->AV ax s.rs E bb:=by
  rintro bb (q|⟨q,y,z,h1,h2,h3⟩)
  .exact .inl q
  .rcases key q y bb z h1 h2 h3 with ⟨_,_,g5,g6⟩|⟨_,g5,_⟩|⟨_,g5⟩
   .exact .inr ⟨q,y,z,g5,h2,g6⟩
   .exact .inr ⟨r,_,_,hr,trivial,hrown g5⟩
   .exact .inr ⟨r,_,_,hr,trivial,hrown (hKe g5)⟩
 refine h.zP (aG:=s.rs.set r y1++[nk x]) hle (aW.refl _ w) h.below (λbb _ q=>eT bb q) (by grind) ?_ ?_ ?_
 .intro q y sB h1 h2
  rcases Nat.lt_trichotomy q s.rs.length with hq|hq|hq
  .rw [iU (by grind),jE] at h1
   by_cases hqr:r=q
   .subst hqr
    rw [if_pos rfl,if_pos hrl] at h1
    simp only [au] at h1
    subst h1
    rw [hE'r] at h2
    simp only [au] at h2
    subst h2
    refine ⟨p1,p2,xs,p3,λi' j' bb=>Ks i' j' bb/\¬ (i'=k/\j'=j),⟨λi' j' bb q=>⟨p4.sub _ _ _ q.1,λq2=>q.2 (p4.inj _ _ _ _ _ q.1 q2)⟩,λi' j' bb q=>p4.ne _ _ _ q.1,λi1 j1 i2 j2 bb q1 q2=>p4.inj _ _ _ _ _ q1.1 q2.1⟩,λz hz=>?_,λi' gI j' hj'=>?_⟩
    .grind
    .rcases DT (get:=get) (k:=k) (x:=.c (.sa s.rs.length (wz x))) hjl i' j' with ⟨rfl,rfl,q3⟩|⟨q2,q3⟩
     .exact ⟨v,_,g1,q3,e2,ao,wz x,cap,hE'p,hv,bl _,hv⟩
     .obtain ⟨v',c',r1,r2,r3⟩:=p5 i' gI j' hj'
      refine ⟨v',c',r1,by rw [q3]; exact r2,?_⟩
      have:=iX.mono (E':=E') (cG:=AV ax (s.rs.set r y1++[nk x]) E') hle (aW.refl _ w) (λbb _ q=>eT bb q) (λ_ _=>rfl) r3
      simp_all
   .rw [if_neg hqr] at h1
    rw [hE'q hq (λe=>hqr e.symm)] at h2
    exact aO.mono hle (aW.refl _ w) (λbb _ q=>eT bb q) (λ_ _ _=>rfl) (h.roots q y sB h1 h2)
  .subst hq
   rw [hE'p] at h2
   simp only [au] at h2
   subst h2
   rw [nD (by grind),List.length_set] at h1
   simp at h1
   subst h1
   exact aO.mono hle (aW.refl _ w) (λbb _ q=>eT bb q) (λ_ _ _=>rfl) (hroot E)
  .have:=hE'o h2; omega
 .intro q y bb z h1 h2 h3
  rcases key q y bb z h1 h2 h3 with ⟨_,_,g5,g6⟩|⟨_,g5,_⟩|⟨_,g5⟩
  .exact h.cJ q y bb z g5 h2 g6
  .exact h.cJ r _ bb _ hr trivial (hrown g5)
  .exact h.cJ r _ bb _ hr trivial (hrown (hKe g5))
 .intro q q' y y' bb z z' h1 nA h2 ic h3 ld
  rcases key q y bb z h1 h2 h3 with ⟨g4,_,g5,g6⟩|⟨g4,g5,g6⟩|⟨g4,g5⟩<;>rcases key q' y' bb z' nA ic ld with ⟨g4',_,g5',g6'⟩|⟨g4',g5',g6'⟩|⟨g4',g5'⟩
  .exact h.dz q q' y y' bb z z' g5 g5' h2 ic g6 g6'
  .exact (g4 (h.dz q r y _ bb z _ g5 hr h2 trivial g6 (hrown g5'))).elim
  .exact (g4 (h.dz q r y _ bb z _ g5 hr h2 trivial g6 (hrown (hKe g5')))).elim
  .exact (g4' (h.dz q' r y' _ bb z' _ g5' hr ic trivial g6' (hrown g5))).elim
  .rw [g4,g4']
  .exact (g6 g5').elim
  .exact (g4' (h.dz q' r y' _ bb z' _ g5' hr ic trivial g6' (hrown (hKe g5)))).elim
  all_goals grind
def WU:ae->Option O
 | .arr e sz n get=>some (.ar e sz n get)
 | .bL e sz n get none=>some (.ns e sz n get)
 | _=>none
theorem Qj {x:ae} {o:O} (h:WU x=some o):x.live:=by
 unfold WU at h
 split at h<;>first|trivial|simp at h
theorem fO.Tr {E:Env} {av:Nat->Prop} {base:Nat} {w:World} {e:fJ} {x:ae} {o:O} (ho:WU x=some o) (h:aO E av base w e x) {m:Nat} (hm:m=wz o) {v:Value} {ao:Option Addr} {n cap:Nat} (h2:e.2.1.1=.slice ao n cap) (hv:v=.slice ao m cap) :
  v=e.2.1.1/\fO av base w o e.has v:=by
 unfold WU at ho
 split at ho
 .simp only [au] at ho
  subst ho
  obtain ⟨p1,p2,xs,p3,p4⟩:=h
  obtain ⟨a2,c2,h3⟩:=cS p3
  have hve:v=e.2.1.1:=by
   rw [hv,h2]; rw [h2] at h3; simp only [iP] at h3; rw [h3.2.1,hm]; rfl
  subst hve
  exact ⟨rfl,λb q=>.inl (p2.trans q),xs,p3,p4⟩
 .simp only [au] at ho
  subst ho
  obtain ⟨p1,p2,xs,p3,Ks,p4,_,p5⟩:=h
  obtain ⟨a2,c2,h3⟩:=cS p3
  have hve:v=e.2.1.1:=by
   rw [hv,h2]; rw [h2] at h3; simp only [iP] at h3; rw [h3.2.1,hm]; rfl
  subst hve
  refine ⟨rfl,λb q=>.inl (p2.trans q),xs,p3,Ks,⟨λi j b q=>.inr (p4.sub i j b q),p4.ne,p4.inj⟩,λi hi j hj=>?_⟩
  obtain ⟨x,c,q1,q2,q3⟩:=p5 i hi j hj
  simp only [fR,au] at q2
  subst q2
  exact ⟨x,q1,q3⟩
 .simp at ho
theorem R.close (h:R T N ax w0 sp s a w E) {r q m k j el sz n:Nat} {get:Nat->Nat->O} {l:List Fc} {x:ae} {o:O} (hr:s.rs[r]?=some (.bL el sz n get (some (k,l)))) (hj:l[j]?=some (.c (.sa q m))) (hq:s.rs[q]?=some x) (ho:WU x=some o) (hm:m=wz o) (Yv:r≠q) :
  ∃ E',E'.length=E.length/\(∀ i,i≠r->E'[i]?=E[i]?)/\Kept E E'/\R T N ax w0 sp { s with rs:=(s.rs.set q .dead).set r (.bL el sz n get (some (k,l.set j (.o o)))) } a w E':=by
 have hx:=Qj ho
 have hrl:r<s.rs.length:=(List.getElem?_eq_some_iff.1 hr).1
 have hql:q<s.rs.length:=(List.getElem?_eq_some_iff.1 hq).1
 have hrE:r<E.length:=by rw [h.len]; exact hrl
 have hqE:q<E.length:=by rw [h.len]; exact hql
 have he:=ka hrE
 generalize VB:E[r]=e at he
 have heq:=ka hqE
 generalize heeq:E[q]=eq at heq
 obtain ⟨p1,p2,xs,p3,Ks,p4,pf,p5⟩:=h.roots r _ _ hr he
 obtain ⟨f1,f2⟩:=pf _ rfl
 have f1:k<n:=f1
 have f2:l.length=sz:=f2
 have hjl:j<l.length:=(List.getElem?_eq_some_iff.1 hj).1
 obtain ⟨v,c,g1,g2,g3⟩:=p5 k f1 j (by omega)
 rw [A6,hj] at g2
 simp only [au] at g2
 subst g2
 obtain ⟨e0,ao,n',cap,g4,g5,g6,g7⟩:=g3
 rw [heq] at g4
 simp only [au] at g4
 subst g4
 obtain ⟨hve,hO⟩:=fO.Tr ho (h.roots q _ _ hq heq) hm g5 g7
 have wc:e≠hole:=by
  grind [cS,fJ.I9]
 have dX:∀ {bb:Nat},eq.has bb->cM E q bb eq.2.2:=λq=>⟨eq,heq,rfl,q⟩
 have hrown:∀ {bb:Nat},e.has bb->cM E r bb e.2.2:=λq=>⟨e,he,rfl,q⟩
 have apart:∀ {bb:Nat},e.has bb->¬ eq.has bb:=λh1 h2=>Yv (h.dz r q _ _ _ _ _ hr hq trivial hx (hrown h1) (dX h2))
 let K1:Nat->Prop:=λb=>e.2.1.2 b∨eq.has b
 let e1:fJ:=e.wk K1
 let E':Env:=E.set r e1
 have hEl:E'.length=E.length:=List.length_set
 have hE'r:E'[r]?=some e1:=by
  grind
 have hE'q:∀ {i:Nat},i≠r->E'[i]?=E[i]?:=λ{i} hn=>by
  grind
 have hle:Env.le E E':=λi y h1 h2=>by
  by_cases hqr:i=r
  .subst hqr
   rw [he] at h1
   simp only [au] at h1
   subst h1
   exact ⟨K1,hE'r,λe3=>by
    have:=congrArg (λz:fJ=>z.2.1.1) e3
    obtain ⟨a2,c2,h4⟩:=cS p3
    have h5:e.2.1.1=undef:=this
    rw [h4] at h5
    simp [undef] at h5⟩
  .exact ⟨y.2.1.2,by rw [hE'q hqr]; exact h1,h2⟩
 have hkept:Kept E E':=⟨hle,λi h1=>by
  grind⟩
 refine ⟨E',hEl,λi hi=>hE'q hi,hkept,?_⟩
 let y1:ae:=.bL el sz n get (some (k,l.set j (.o o)))
 have key:∀ (i:Nat) (y:ae) (bb z:Nat),((s.rs.set q .dead).set r y1)[i]?=some y->y.live->cM E' i bb z->
   (i≠r/\i≠q/\s.rs[i]?=some y/\cM E i bb z)∨(i=r/\(e.has bb∨eq.has bb)):=by
  rintro i y bb z h1 h2 ⟨sB,h3,h4,h5⟩
  by_cases hir:i=r
  .subst hir
   rw [hE'r] at h3
   simp only [au] at h3
   subst h3
   refine .inr ⟨rfl,?_⟩
   rcases h5 with h5|h5
   .exact .inl (.inl h5)
   .rcases h5 with h5|h5
    .exact .inl (.inr h5)
    .exact .inr h5
  .rw [jE,if_neg (λe=>hir e.symm),jE] at h1
   by_cases hiq:q=i
   .rw [if_pos hiq] at h1
    subst hiq
    rw [if_pos hql] at h1
    simp only [au] at h1
    subst h1
    exact h2.elim
   .rw [if_neg hiq] at h1
    rw [hE'q hir] at h3
    exact .inl ⟨hir,λe=>hiq e.symm,h1,sB,h3,h4,h5⟩
 have eT:∀ bb,AV ax ((s.rs.set q .dead).set r y1) E' bb->AV ax s.rs E bb:=by
  rintro bb (h1|⟨i,y,z,h1,h2,h3⟩)
  .exact .inl h1
  .rcases key i y bb z h1 h2 h3 with ⟨_,_,g5,g6⟩|⟨_,g5|g5⟩
   .exact .inr ⟨i,y,z,g5,h2,g6⟩
   .exact .inr ⟨r,_,_,hr,trivial,hrown g5⟩
   .exact .inr ⟨q,_,_,hq,hx,dX g5⟩
 refine h.zP (aG:=(s.rs.set q .dead).set r y1) hle (aW.refl _ w) h.below (λbb _ q=>eT bb q) (by rw [hEl,List.length_set,List.length_set,h.len]) ?_ ?_ ?_
 .intro i y sB h1 h2
  by_cases hir:i=r
  .subst hir
   rw [jE,if_pos rfl,if_pos (by grind)] at h1
   simp only [au] at h1
   subst h1
   rw [hE'r] at h2
   simp only [au] at h2
   subst h2
   refine ⟨p1,p2,xs,p3,λi' j' bb=>(i'=k/\j'=j/\eq.has bb)∨(¬ (i'=k/\j'=j)/\Ks i' j' bb),⟨?_,?_,?_⟩,λz hz=>?_,λi' gI j' hj'=>?_⟩
   .rintro i' j' bb (⟨_,_,q3⟩|⟨_,q3⟩)
    .exact .inr q3
    .exact .inl (p4.sub _ _ _ q3)
   .rintro i' j' bb (⟨_,_,q3⟩|⟨_,q3⟩) q4
    .exact apart (.inl (p2.trans q4)) q3
    .exact p4.ne _ _ _ q3 q4
   .rintro i1 j1 i2 j2 bb (⟨a1,a2,a3⟩|⟨a1,a2⟩) (⟨b1,b2,b3⟩|⟨b1,b2⟩)
    .grind
    .exact (apart (.inr (p4.sub _ _ _ b2)) a3).elim
    .exact (apart (.inr (p4.sub _ _ _ a2)) b3).elim
    .exact p4.inj _ _ _ _ _ a2 b2
   .grind
   .rcases DT (get:=get) (k:=k) (x:=.o o) hjl i' j' with ⟨rfl,rfl,q3⟩|⟨q2,q3⟩
    .refine ⟨v,_,g1,q3,?_⟩
     exact fO.Zb (λbb q=>.inl ⟨rfl,rfl,q⟩) (fO.mono (aW.refl _ w) (λbb _ q=>eT bb q) (λ_ _=>rfl) hO)
    .obtain ⟨v',c',r1,r2,r3⟩:=p5 i' gI j' hj'
     refine ⟨v',c',r1,by rw [q3]; exact r2,?_⟩
     have:=iX.mono (E':=E') (cG:=AV ax ((s.rs.set q .dead).set i y1) E') hle (aW.refl _ w) (λbb _ q=>eT bb q) (λ_ _=>rfl) r3
     cases c' with
     | c z=>exact this
     | o z=>exact fO.Zb (λbb q=>.inr ⟨q2,q⟩) this
  .rw [jE,if_neg (λe=>hir e.symm),jE] at h1
   by_cases hiq:q=i
   .rw [if_pos hiq] at h1
    subst hiq
    rw [if_pos hql] at h1
    simp only [au] at h1
    subst h1
    trivial
   .rw [if_neg hiq] at h1
    rw [hE'q hir] at h2
    exact aO.mono hle (aW.refl _ w) (λbb _ q=>eT bb q) (λ_ _ _=>rfl) (h.roots i y sB h1 h2)
 .intro i y bb z h1 h2 h3
  rcases key i y bb z h1 h2 h3 with ⟨_,_,g5,g6⟩|⟨_,g5|g5⟩
  .exact h.cJ i y bb z g5 h2 g6
  .exact h.cJ r _ bb _ hr trivial (hrown g5)
  .exact h.cJ q _ bb _ hq hx (dX g5)
 .intro i i' y y' bb z z' h1 nA h2 ic h3 ld
  rcases key i y bb z h1 h2 h3 with ⟨g4,g8,g5,g6⟩|⟨g4,g5|g5⟩<;>rcases key i' y' bb z' nA ic ld with ⟨g4',g8',g5',g6'⟩|⟨g4',g5'|g5'⟩
  .exact h.dz i i' y y' bb z z' g5 g5' h2 ic g6 g6'
  .exact (g4 (h.dz i r y _ bb z _ g5 hr h2 trivial g6 (hrown g5'))).elim
  .exact (g8 (h.dz i q y _ bb z _ g5 hq h2 hx g6 (dX g5'))).elim
  .exact (g4' (h.dz i' r y' _ bb z' _ g5' hr ic trivial g6' (hrown g5))).elim
  .rw [g4,g4']
  .rw [g4,g4']
  .exact (g8' (h.dz i' q y' _ bb z' _ g5' hq ic hx g6' (dX g5))).elim
  all_goals grind
theorem Goal.open {r k j el sz n:Nat} {get:Nat->Nat->O} {l:List Fc} {x:O} (hr:aR s.rs r=some (.bL el sz n get (some (k,l)))) (hj:aR l j=some (.o x)) (hx:(nk x).live)
  (g:Goal P T N b cs ro n0 ey todo { s with rs:=setAt s.rs r (.bL el sz n get (some (k,setAt l j (.c (.sa s.rs.length (wz x))))))++[nk x] }):Goal P T N b cs ro n0 ey todo s:=
 g.PJ λax w0 sp a w E dr uw hR hn=>by
  rw [bW] at hr hj
  obtain ⟨E',h1,h2⟩:=hR.open hr hj hx
  rw [<- ba,<- ba] at h2
  exact ⟨E',h1.take n0,by grind [ba],h2,hn⟩
theorem Goal.close {r q m k j el sz n:Nat} {get:Nat->Nat->O} {l:List Fc} {x:ae} {o:O} (hr:aR s.rs r=some (.bL el sz n get (some (k,l)))) (hj:aR l j=some (.c (.sa q m))) (hq:aR s.rs q=some x) (ho:WU x=some o) (hm:m=wz o) (Yv:r≠q)
  (g:Goal P T N b cs ro n0 ey todo { s with rs:=setAt (setAt s.rs q .dead) r (.bL el sz n get (some (k,setAt l j (.o o)))) }):Goal P T N b cs ro n0 ey todo s:=
 g.PJ λax w0 sp a w E dr uw hR hn=>by
  rw [bW] at hr hj hq
  obtain ⟨E',_,_,h1,h2⟩:=hR.close hr hj hq ho hm Yv
  rw [<- ba,<- ba,<- ba] at h2
  exact ⟨E',h1.take n0,by simp only [ba,List.length_set]; omega,h2,hn⟩
end
section
variable {P:Program} {T:dk} {N:Nat} {b:Frame} {cs:List Frame} {ro:Option Nat} {n0:Nat} {ey:Option Code->VS->Prop} {todo:List Item} {s s':VS} {ax:Nat->Prop} {w0:Kp} {sp:List (D×Value)} {a:Act} {w:World} {E:Env}
end
section
variable {P:Program} {T:dk} {N:Nat} {b:Frame} {cs:List Frame} {ro:Option Nat} {n0:Nat} {ey:Option Code->VS->Prop} {todo:List Item} {s s':VS} {ax:Nat->Prop} {w0:Kp} {sp:List (D×Value)} {a:Act} {w w':World} {E E':Env} {f:FuncId}
theorem Goal.vf {t:Tmp} {sz:Nat} {get:Nat->Nat->I} (ht:dW s.sl t=some (.c (.im (.sl sz 0 get)))) (g:∀ (ad:Option Addr) (cap:Nat),Goal P T N b cs ro n0 ey todo ⟨(t,.c (.im (.v (.slice ad 0 cap))),[])::s.sl,s.rs,s.df⟩):Goal P T N b cs ro n0 ey todo s:=by
 intro ax w0 sp a w E uw dr Fe hR hn
 obtain ⟨q1,q2,q3⟩:=hR.slots t _ _ (ft hn ht)
 obtain ⟨ad,cap,hv,_⟩:=q2 λp hp=>by cases hp
 refine g ad cap ax w0 sp a w E uw dr Fe ⟨hR.size,hR.defers,hR.spec,hR.below,hR.len,hR.outer,hR.roots,hR.cJ,hR.dz,λu d c hl=>?_,hR.fS⟩ (hn.cons t _)
 simp only [look] at hl
 split at hl
 .rename_i he
  have he:=cg he
  subst he
  simp only [au,bs] at hl
  obtain ⟨rfl,rfl⟩:=hl
  exact ⟨q1,λ_=>⟨hv,rfl⟩,λq=>(q λp hp=>by cases hp).elim⟩
 .exact hR.slots u d c hl
theorem kx {ad:Option Addr} {cap sz:Nat} {get:Nat->Nat->I}:dK (.v (.slice ad 0 cap)) (.sl sz 0 get):=λav w v ⟨h,_⟩=>⟨ad,cap,h,bn _,bn _,λq=>absurd q (Nat.lt_irrefl 0)⟩
def lX (rs:List ae) (d:D) (aG:List ae) (d1:D) (fQ:List ae):Prop:=
 cd rs d aG d1 fQ∨(fQ=rs/\d1=.c (.im (.v (.slice none 0 0)))/\d=.c (.sa rs.length 0)/\∃ el sz get,aG=rs++[.arr el sz 0 get])
theorem R.Zs {rs aG fQ:List ae} {d d1:D} {v:Value} (he:lX rs d aG d1 fQ) (dr:∀ x∈sp,jf rs.length x.1=true) (h:R T N ax w0 sp ⟨[],rs,[]⟩ a w E) (h':R T N ax w0 sp ⟨[],fQ,[]⟩ a w' E') (hk:Kept E E') (hv:aQ E' (AV ax fQ E') w' d1 v) :
  ∃ sA,Kept E sA/\R T N ax w0 sp ⟨[],aG,[]⟩ a w' sA/\aQ sA (AV ax aG sA) w' d v:=by
 rcases he with he|⟨rfl,rfl,rfl,el,sz,get,rfl⟩
 .exact R.Uy he dr h h' hk hv
 .have h1:=h'.Gb el sz get
  obtain ⟨hv,_⟩:=hv
  refine ⟨_,hk.trans ⟨Env.et E' _,λq hq=>by grind⟩,h1,?_⟩
  rw [hv]
  exact ⟨(Option.none,mS (.slice Option.none 0 0),sz),Option.none,0,0,by show (E'++[_])[fQ.length]?=_; rw [show fQ.length=E'.length from h'.len.symm]; simp,rfl,bl _,rfl⟩
theorem LH (bC:cZ P T) {fn:Func} (hf:P.funcs[f]?=some fn) (oo:(fn.name == "runtime.NumGoroutine")=false) {c:Code} (hc:fn.body=some c) {ds:List D} {rs:List ae} {d:D} {aG:List ae} (hlen:ds.length<=fn.ntmps)
  (hg:∀ (b:Frame) (cs:List Frame),b.fn=f->Goal P T fn.ntmps b cs none rs.length (rz T fn.results.toList (lX rs d aG)) [.code c] ⟨cP 0 ds,rs,[]⟩):bB T P f ds rs d aG:=
 vG bC hf oo hc hlen (λhq dr h h' hk hv=>R.Zs hq dr h h' hk hv) hg
end
end
end Go.V
