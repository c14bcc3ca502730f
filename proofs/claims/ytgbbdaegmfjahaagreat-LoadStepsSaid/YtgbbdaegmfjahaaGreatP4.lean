/- A state said in other words: the machine stays where it is. -/
import Derived.Test.YtgbbdaegmfjahaaGreatP3
set_option linter.unusedSimpArgs false
set_option linter.unusedVariables false
namespace Go.V
open Go.RowKit
noncomputable section
section
variable {P:Program} {T:ec} {N:Nat} {aA:Nat->Prop} {w0:Kp} {sp:List (D×Value)} {s s':VS} {a:Act} {w w':World} {E E':Env} {f:FuncId} {b:Frame} {cs:List Frame} {ro:Option Nat} {n0:Nat} {eM:Option Code->VS->Prop} {todo:List Item}
def a7 (d:D) (d1:D) (fB:List ah):Prop:=gR (dZ fB d1) λd2=>aX d2 d
theorem Ug (bZ:dU P T) {fn:Func} (hf:P.funcs[f]?=some fn) (qc:(fn.name == "runtime.NumGoroutine")=false) {c:Code} (hc:fn.body=some c) {ds:List D} {d:D} (hlen:ds.length<=fn.ntmps)
  (hg:∀ (b:Frame) (cs:List Frame),b.fn=f->Goal P T fn.ntmps b cs none 0 (uJ T fn.results.toList (a7 d)) [.code c] ⟨dF 0 ds,[],[]⟩):bt T P f ds [] d []:=by
 refine ⟨⟨fn,hf,qc,by simp [hc]⟩,?_⟩
 intro N aA w0 sp sl df a w E vs h0 hv cs
 obtain ⟨b,tm,KM,hbr,hbk,henter,hR⟩:=Nj (P:=P) (f:=f) hf hc hlen h0 hv
 have hE0:E=[]:=List.eq_nil_of_length_eq_zero h0.len
 subst hE0
 have eb:∀ x∈pU sl a++sp,kf 0 x.1=true:=λx hx=>bj.low (hR.spec x hx)
 obtain ⟨j,s,a',w1,E',dN,hk,we,zd,hend,hpost,hsteps⟩:=hg b cs KM _ _ _ _ _ _ (bF _) eb hbr hR lk
 obtain ⟨hret,hpost⟩:=cg.1 hpost
 obtain ⟨x,hres0,hpost⟩:=cO hpost
 obtain ⟨d2,hreify,hle⟩:=cO hpost
 obtain ⟨d1,fB⟩:=x
 unfold Sw at hres0
 split at hres0
 case h_2=>simp at hres0
 rename_i rT htake
 split at hres0
 case h_2=>simp at hres0
 rename_i d3 BX
 simp only [aw,bN] at hres0
 obtain ⟨rfl,rfl⟩:=hres0
 have hback:Steps P (lone (b.atR a' dN) cs w1) (lone { b.atR a' dN with mode:=.returning } cs w1):=by
  cases j with
  | none=>
    have hend:dN=[]:=hend
    subst hend
    exact .one (stepR_end hbr)
  | some c' =>
    rcases hend with ⟨k,rfl,rfl⟩|⟨id,k,rfl,_,_⟩
    .exact .one (stepR_ret hbr)
    .simp [Vh] at hret
 have hR'':R T fn.ntmps aA w0 (pU sl a++sp) ⟨s.sl,s.rs,s.df⟩ a' w1 E':=we
 obtain ⟨w2,hR2,hst2⟩:=ui (P:=P) (cs:=cs) s.df (fr:={ b.atR a' dN with mode:=.returning }) htake hR'' rfl rfl
 obtain ⟨pr,hpr1,hpr2⟩:=Lf (s:=⟨s.sl,rT,[]⟩) zd BX
 obtain ⟨v,hrv,hdv⟩:=nu bZ hR2 hpr1 hpr2
 have hR3:R T fn.ntmps aA w0 (pU sl a++sp) ⟨[],rT,[]⟩ { a' with defers:=[] } w2 E':=⟨hR2.size,hR2.defers,hR2.spec,hR2.below,hR2.len,hR2.outer,hR2.roots,hR2.dp,hR2.dT,λt d c q=>by simp [look] at q,hR2.gP⟩
 have hcut:=hR3.cut (n:=0) (bk _) eb (λt d q=>by simp [look] at q) (λt d c q=>by simp [look] at q) (λr hr=>by cases hr) (λq x hx=>by simp at hx)
 have hd2:bj [] aA w2 d2 v:=tA hR2 (kS.outer hR2) hreify hdv
 refine ⟨.returned v,w2,{ { b.atR a' dN with mode:=.returning } with defers:=[] },⟨v,[],rfl,Kept.refl _,h0.back (s':=⟨[],[],[]⟩) hcut (Env.le_refl _),?_⟩,?_,?_,?_,?_,?_,fn,?_,hrv⟩
 .refine hle _ _ _ _ (bj.mono (Env.le_refl _) (bl.refl _ w2) (λb _ q=>(vS b).1 q) hd2)
 .rw [henter]
  exact (hsteps.trans hback).trans hst2
 all_goals first|rfl|exact KM|exact hbk|exact hbr|exact (show P.funcs[b.fn]?=some fn from KM▸hf)
theorem Goal.ghost (g:Goal P T N b cs ro n0 eM todo s') (h:∀ aA w0 sp a w E,(∀ x∈sp,kf n0 x.1=true)->n0<=s.rs.length->R T N aA w0 sp s a w E->bT s.sl->∃ E',E'.take n0=E.take n0/\R T N aA w0 sp s' a w E'/\bT s'.sl):Goal P T N b cs ro n0 eM todo s:=by
 intro aA w0 sp a w E vo eb Jv hR hn
 obtain ⟨E',h1,h2,h3⟩:=h aA w0 sp a w E eb vo hR hn
 have hl:n0<=s'.rs.length:=by
  have e:=congrArg List.length h1
  rw [List.length_take,List.length_take,hR.len,h2.len] at e
  omega
 have:=g aA w0 sp a w E' hl eb (by rw [h1]; exact Jv) h2 h3
 grind
theorem Goal.swap {r:Nat} {x y:ah} (hr:bh s.rs r=some x) (hl:y.live->x.live) (hx:∀ (base:Nat) (E:Env) (w:World) e av,ba E av base w e x->ba E av base w e y)
  (g:Goal P T N b cs ro n0 eM todo { s with rs:=setAt s.rs r y }):Goal P T N b cs ro n0 eM todo s:=
 g.ghost λaA w0 sp a w E eb vo hR hn=>⟨E,rfl,by
  rw [cj] at hr
  rw [bg]
  exact hR.swap hr hl λe av q _=>hx _ _ _ _ _ q,hn⟩
def cD (x y:I):Prop:=∀ av w v,dw av w x v->dw av w y v
theorem cD.refl (x:I):cD x x:=λ_ _ _ h=>h
theorem cD.nil (sz:Nat) (get:Nat->Nat->I):cD (.v (.slice none 0 0)) (.sl sz 0 get):=by
 rintro av w v ⟨rfl,_⟩
 exact ⟨none,0,rfl,bF _,bk _,λh=>by omega⟩
theorem Goal.arr {r el sz n:Nat} {get get':Nat->Nat->I} (hr:bh s.rs r=some (.arr el sz n get)) (h:∀ i,i<n->∀ j,j<sz->cD (get i j) (get' i j))
  (g:Goal P T N b cs ro n0 eM todo { s with rs:=setAt s.rs r (.arr el sz n get') }):Goal P T N b cs ro n0 eM todo s:=
 Goal.swap (x:=.arr el sz n get) hr (λ_=>trivial) (λbase E w e av q=>by
  obtain ⟨p1,p2,xs,p3,p4⟩:=q
  exact ⟨p1,p2,xs,p3,λi hi j hj=>by
   obtain ⟨x,p5,p6⟩:=p4 i hi j hj
   exact ⟨x,p5,h i hi j hj _ _ _ p6⟩⟩) g
theorem Goal.freeze {r:Nat} (h:Go.V.freeze r s=some s') (g:Goal P T N b cs ro n0 eM todo s'):Goal P T N b cs ro n0 eM todo s:=
 g.ghost λaA w0 sp a w E eb vo hR hn=>⟨E,rfl,(hR.freeze h).1,(hR.freeze h).2 hn⟩
def Xb (sl:a8):a8->Prop
 | []=>True
 | x::l=>(x.2.2=[]/\∃ d0,eT sl x.1=some d0/\aX d0 x.2.1)/\Xb sl l
theorem tT {sl:a8}:∀ {l:a8},Xb sl l->∀ x∈l,x.2.2=[]/\∃ d0,eT sl x.1=some d0/\aX d0 x.2.1
 | [],_,x,hx=>by cases hx
 | y::l,h,x,hx=>by
   rcases List.mem_cons.1 hx with rfl|hx
   .exact h.1
   .exact tT h.2 x hx
theorem Goal.slots {gB:a8} (h:Xb s.sl gB) (g:Goal P T N b cs ro n0 eM todo { s with sl:=gB }):Goal P T N b cs ro n0 eM todo s:=
 g.ghost λaA w0 sp a w E eb vo hR hn=>⟨E,rfl,⟨hR.size,hR.defers,hR.spec,hR.below,hR.len,hR.outer,hR.roots,hR.dp,hR.dT,λt d c hl=>by
  obtain ⟨h1,d0,h2,h3⟩:=tT h _ (jl hl)
  have h1:c=[]:=h1
  subst h1
  have h4:=gh hn h2
  obtain ⟨q1,q2,q3⟩:=hR.slots t d0 [] h4
  exact ⟨q1,λq=>h3 _ _ _ _ (q2 q),q3⟩,hR.gP⟩,λx hx=>(tT h x hx).1⟩
theorem R.K6 (h:R T N aA w0 sp s a w E) (el sz:Nat) (get:Nat->Nat->I):R T N aA w0 sp { s with rs:=s.rs++[.arr el sz 0 get] } a w (E++[(Option.none,oE (.slice Option.none 0 0),sz)]):=by
 have hE:=Env.ey E [(Option.none,oE (.slice Option.none 0 0),sz)]
 have jQ:∀ {r b z:Nat},dt (E++[(Option.none,oE (.slice Option.none 0 0),sz)]) r b z->dt E r b z:=by
  rintro r b z ⟨hh,q,q2⟩
  rcases Nat.lt_or_ge r E.length with hr|hr
  .rw [iz hr] at q; exact ⟨hh,q,q2⟩
  .rw [nv hr] at q
   rcases Nat.eq_zero_or_pos (r-E.length) with e|e
   .rw [e] at q; simp at q; subst q; rcases q2 with ⟨_,q2|q2⟩<;>simp at q2
   grind
 have key:∀ (r:Nat) (y:ah) (b z:Nat),(s.rs++[ah.arr el sz 0 get])[r]?=some y->y.live->dt (E++[(Option.none,oE (.slice Option.none 0 0),sz)]) r b z->s.rs[r]?=some y:=by
  intro r y b z h1 h2 h3
  have eW:r<E.length:=by obtain ⟨_,q,_⟩:=jQ h3; grind
  rw [h.len] at eW
  grind
 have fa:∀ b,AV aA (s.rs++[.arr el sz 0 get]) (E++[(Option.none,oE (.slice Option.none 0 0),sz)]) b->AV aA s.rs E b:=by
  rintro b (q|⟨r,x,z,h1,h2,h3⟩)
  .exact .inl q
  .exact .inr ⟨r,x,z,key r x b z h1 h2 h3,h2,jQ h3⟩
 refine h.BJ (aV:=s.rs++[.arr el sz 0 get]) hE (bl.refl _ w) h.below (λb _ q=>fa b q) (by simp [h.len]) ?_ ?_ ?_
 .intro r x e h1 h2
  rcases Nat.lt_or_ge r s.rs.length with hr|hr
  .rw [iz hr] at h1
   rw [iz (by rw [h.len]; exact hr)] at h2
   exact ba.mono hE (bl.refl _ w) (λb _ q=>fa b q) (λ_ _ _=>rfl) (h.roots r x e h1 h2)
  .have hr2:r<s.rs.length+1:=by grind
   have e0:r=s.rs.length:=by omega
   subst e0
   rw [nv (bF _)] at h1
   rw [nv (by rw [h.len]; exact bF _)] at h2
   simp at h1
   rw [h.len] at h2
   simp at h2
   subst h1 h2
   exact ⟨rfl,rfl,[],w.ownsRow_nil _ _ _,λi hi=>by omega⟩
 .intro r x b z h1 h2 h3
  exact h.dp r x b z (key r x b z h1 h2 h3) h2 (jQ h3)
 .intro r r' x x' b z z' h1 nD h2 ig h3 lD
  exact h.dT r r' x x' b z z' (key r x b z h1 h2 h3) (key r' x' b z' nD ig lD) h2 ig (jQ h3) (jQ lD)
def noI:Nat->Nat->I:=λ_ _=>.v (.bool false)
def JO (t:Tmp) (el sz:Nat) (s:VS):VS:={ s with sl:=(t,.c (.sa s.rs.length 0),[])::s.sl,rs:=s.rs++[.arr el sz 0 noI] }
theorem Goal.Cj {t:Tmp} {el sz:Nat} (ht:eT s.sl t=some (.c (.im (.v (.slice none 0 0))))) (g:Goal P T N b cs ro n0 eM todo (JO t el sz s)):Goal P T N b cs ro n0 eM todo s:=
 g.ghost λaA w0 sp a w E eb vo hR hn=>by
  have h1:=hR.K6 el sz noI
  refine ⟨_,?_,⟨h1.size,h1.defers,h1.spec,h1.below,h1.len,h1.outer,h1.roots,h1.dp,h1.dT,λu d c hl=>?_,h1.gP⟩,hn.cons t _⟩
  .rw [List.take_append_of_le_length (by rw [hR.len]; exact vo)]
  .simp only [JO,look] at hl
   split at hl
   .rename_i he
    have he:=cE he
    subst he
    simp only [aw,bN] at hl
    obtain ⟨rfl,rfl⟩:=hl
    obtain ⟨q1,q2,q3⟩:=hR.slots t _ _ (gh hn ht)
    refine ⟨q1,λq=>?_,q3⟩
    obtain ⟨hv,_⟩:=q2 q
    rw [hv]
    exact ⟨(none,oE (.slice none 0 0),sz),none,0,0,by rw [<- hR.len]; simp,rfl,bF _,rfl⟩
   .exact h1.slots u d c hl
def RN (r j el sz:Nat) (l:List C) (s:VS):VS:={ s with rs:=setAt s.rs r (.box (setAt l j (.sa s.rs.length 0)))++[.arr el sz 0 noI] }
theorem Goal.iQ {r j el sz:Nat} {l:List C} (hr:bh s.rs r=some (.box l)) (hj:bh l j=some (.im (.v (.slice none 0 0)))) (g:Goal P T N b cs ro n0 eM todo (RN r j el sz l s)):Goal P T N b cs ro n0 eM todo s:=
 g.ghost λaA w0 sp a w E eb vo hR hn=>by
  rw [cj] at hr hj
  have h1:=hR.K6 el sz noI
  have hrl:r<s.rs.length:=(List.getElem?_eq_some_iff.1 hr).1
  have h2:=h1.swap (r:=r) (x:=.box l) (y:=.box (setAt l j (.sa s.rs.length 0))) (by
   grind) (λ_=>trivial) (λe av ⟨bb,vs,Tc,p1,p2,p3,p4⟩ _=>⟨bb,vs,Tc,p1,by rw [bg]; simpa using p2,p3,by
    rw [bg]
    refine aF.wU (by simpa using p4.length) λi x v hx hv=>?_
    rw [jv] at hx
    split at hx
    .rename_i hji
     subst hji
     split at hx
     .simp only [aw] at hx
      subst hx
      obtain ⟨hv2,_⟩:=p4.get hj hv
      rw [hv2]
      exact ⟨(none,oE (.slice none 0 0),sz),none,0,0,by rw [<- hR.len]; simp,rfl,bF _,rfl⟩
     .simp at hx
    .exact p4.get hx hv⟩)
  refine ⟨E++[(none,oE (.slice none 0 0),sz)],?_,?_,hn⟩
  rotate_left
  .have e:(s.rs++[ah.arr el sz 0 noI]).set r (.box (setAt l j (.sa s.rs.length 0)))=setAt s.rs r (.box (setAt l j (.sa s.rs.length 0)))++[.arr el sz 0 noI]:=by
    rw [bg,bg,List.set_append,if_pos hrl]
   have h2:R T N aA w0 sp { s with rs:=(s.rs++[ah.arr el sz 0 noI]).set r (.box (setAt l j (.sa s.rs.length 0))) } a w (E++[(none,oE (.slice none 0 0),sz)]):=h2
   rw [e] at h2
   exact h2
  .rw [List.take_append_of_le_length (by rw [hR.len]; exact vo)]
def xK (q:Nat) (l:List Nat):Option Nat:=List.rec none (λx _ ih=>Bool.rec (match ih with
 | some k=>some (k+1)
 | none=>none) (some 0) (Nat.beq x q)) l
def Pf (π:List Nat) (l:List Nat):Option (List Nat):=List.rec (some []) (λx _ ih=>match xK x π,ih with
 | some y,some r=>some (y::r)
 | _,_=>none) l
def PU (π:List Nat) (c:C):Option C:=match c with
 | .im x=>some (.im x)
 | .rt r i j=>match xK r π with
   | some k=>some (.rt k i j)
   | none=>none
 | .sa r m=>match xK r π with
   | some k=>some (.sa k m)
   | none=>none
 | .mp r=>match xK r π with
   | some k=>some (.mp k)
   | none=>none
 | .yl r=>match xK r π with
   | some k=>some (.yl k)
   | none=>none
 | .ow r j=>match xK r π with
   | some k=>some (.ow k j)
   | none=>none
 | .fL f l=>match Pf π l with
   | some l'=>some (.fL f l')
   | none=>none
def Iz (π:List Nat) (l:List C):Option (List C):=List.rec (some []) (λx _ ih=>match PU π x,ih with
 | some y,some r=>some (y::r)
 | _,_=>none) l
def OS (π:List Nat) (d:D):Option D:=match d with
 | .c x=>match PU π x with
   | some y=>some (.c y)
   | none=>none
 | .a l=>match Iz π l with
   | some m=>some (.a m)
   | none=>none
 | .t []=>some (.t [])
 | .t _=>none
def CY (π:List Nat) (l:a8):Option a8:=List.rec (some []) (λx _ ih=>match OS π x.2.1,ih with
 | some y,some r=>some ((x.1,y,x.2.2)::r)
 | _,_=>none) l
def TM (π:List Nat) (x:Fc):Option Fc:=match x with
 | .c c=>match PU π c with
   | some d=>some (.c d)
   | none=>none
 | .o x=>some (.o x)
def Uy (π:List Nat) (l:List Fc):Option (List Fc):=List.rec (some []) (λx _ ih=>match TM π x,ih with
 | some y,some r=>some (y::r)
 | _,_=>none) l
def LH (π:List Nat) (x:ah):Option ah:=match x with
 | .bo el sz n get (some x)=>match Uy π x.2 with
   | some m=>some (.bo el sz n get (some (x.1,m)))
   | none=>none
 | .box l=>match Iz π l with
   | some m=>some (.box m)
   | none=>none
 | .row el sz n l=>match Iz π l with
   | some m=>some (.row el sz n m)
   | none=>none
 | .loop f N sl ps as bd st fP=>match CY π sl with
   | some gB=>some (.loop f N gB ps as bd st fP)
   | none=>none
 | x=>some x
def RR (π:List Nat) (rs:List ah) (l:List Nat):Option (List ah):=List.rec (some []) (λq _ ih=>match bh rs q with
 | some x=>match LH π x,ih with
   | some y,some r=>some (y::r)
   | _,_=>none
 | none=>none) l
def jj (l:List Nat):Bool:=List.rec true (λx l ih=>Bool.rec ih false (qj x l)) l
def SZ (n:Nat) (k:Nat):List Nat->Bool:=Nat.rec (λ_ _=>true) (λ_ ih k l=>match l with
 | x::l=>Bool.rec false (ih (k+1) l) (Nat.beq x k)
 | []=>false) n k
def TZ (n0:Nat) (π:List Nat) (s:VS):Option VS:=match CY π s.sl,RR π s.rs π,Pf π s.df with
 | some sl,some rs,some df=>Bool.rec none (some ⟨sl,rs,df⟩) (jj π&&SZ n0 0 π)
 | _,_,_=>none
theorem rH:∀ {l:List Nat} {q k:Nat},xK q l=some k->l[k]?=some q
 | [],q,k,h=>by simp [xK] at h
 | x::l,q,k,h=>by
   have h:(Bool.rec (match xK q l with
    | some k=>some (k+1)
    | none=>none) (some 0) (Nat.beq x q):Option Nat)=some k:=h
   cases hb:Nat.beq x q with
   | true=>
     rw [hb] at h
     grind [cE]
   | false=>
     rw [hb] at h
     simp only at h
     split at h
     .rename_i k' hk
      simp only [aw] at h
      subst h
      simpa using rH hk
     .simp at h
def mb (π:List Nat) (E:Env):Env:=π.map λq=>E.getD q hole
theorem nY {π:List Nat} {k q:Nat} (h:π[k]?=some q) {e:fG} (he:E[q]?=some e):(mb π E)[k]?=some e:=by
 grind [mb]
theorem WV {π:List Nat} {k:Nat} {e:fG} (he:(mb π E)[k]?=some e) (qG:e≠hole):∃ q,π[k]?=some q/\E[q]?=some e:=by
 grind [mb]
theorem uk {π:List Nat} {k q b sz:Nat} (h:xK q π=some k):bB E q b sz->bB (mb π E) k b sz:=λ⟨hh,q1⟩=>⟨hh,nY (rH h) q1⟩
section
variable {π:List Nat} {av dx:Nat->Prop}
theorem IC {E:Env}:∀ {l l':List Nat} {vs:List Value},Pf π l=some l'->aF (λr x=>∃ b sz,bB E r b sz/\x=.pointer (some ⟨b,0,none⟩)) l vs->aF (λr x=>∃ b sz,bB (mb π E) r b sz/\x=.pointer (some ⟨b,0,none⟩)) l' vs
 | [],l',_,h,.nil=>by
   have h:some []=some l':=h
   simp only [aw] at h
   subst h; exact .nil
 | x::l,l',_,h,.cons q k=>by
   have h:(match xK x π,Pf π l with
    | some y,some r=>some (y::r)
    | _,_=>none)=some l':=h
   split at h
   case h_2=>simp at h
   rename_i h1 h2
   simp only [aw] at h
   subst h
   obtain ⟨b,sz,q1,q2⟩:=q
   exact .cons ⟨b,sz,uk h1 q1,q2⟩ (IC h2 k)
theorem Nu {E:Env}:∀ {l l':List Nat} {ds:List Deferred},Pf π l=some l'->aF (λr (d:Deferred)=>∃ b sz,bB E r b sz/\d={ target:=.collected b,args := #[] }) l ds->aF (λr (d:Deferred)=>∃ b sz,bB (mb π E) r b sz/\d={ target:=.collected b,args := #[] }) l' ds
 | [],l',_,h,.nil=>by
   have h:some []=some l':=h
   simp only [aw] at h
   subst h; exact .nil
 | x::l,l',_,h,.cons q k=>by
   have h:(match xK x π,Pf π l with
    | some y,some r=>some (y::r)
    | _,_=>none)=some l':=h
   split at h
   case h_2=>simp at h
   rename_i h1 h2
   simp only [aw] at h
   subst h
   obtain ⟨b,sz,q1,q2⟩:=q
   exact .cons ⟨b,sz,uk h1 q1,q2⟩ (Nu h2 k)
theorem yQ (ha:∀ b,dx b->av b) {c c':C} {v:Value} (h:PU π c=some c') (hv:bp E av w c v):bp (mb π E) dx w c' v:=by
 unfold PU at h
 split at h
 .simp only [aw] at h; subst h; exact dw.mono (bl.refl _ w) (λb _ q=>ha b q) hv
 .split at h
  case h_2=>simp at h
  rename_i hk
  simp only [aw] at h; subst h
  obtain ⟨b,sz,h1,h2⟩:=hv
  exact ⟨b,sz,uk hk h1,h2⟩
 .split at h
  case h_2=>simp at h
  rename_i hk
  simp only [aw] at h; subst h
  obtain ⟨e,ao,n,cap,h1,h2⟩:=hv
  exact ⟨e,ao,n,cap,nY (rH hk) h1,h2⟩
 .split at h
  case h_2=>simp at h
  rename_i hk
  simp only [aw] at h; subst h
  obtain ⟨b,sz,h1,h2⟩:=hv
  exact ⟨b,sz,uk hk h1,h2⟩
 .split at h
  case h_2=>simp at h
  rename_i hk
  simp only [aw] at h; subst h
  obtain ⟨b,sz,h1,h2⟩:=hv
  exact ⟨b,sz,uk hk h1,h2⟩
 .split at h
  case h_2=>simp at h
  rename_i hk
  simp only [aw] at h; subst h
  obtain ⟨e,vs,h1,h2⟩:=hv
  exact ⟨e,vs,nY (rH hk) h1,h2⟩
 .split at h
  case h_2=>simp at h
  rename_i hk
  simp only [aw] at h; subst h
  obtain ⟨vs,h1,h2⟩:=hv
  exact ⟨vs,h1,IC hk h2⟩
theorem rV (ha:∀ b,dx b->av b):∀ {l l':List C} {vs:List Value},Iz π l=some l'->aF (bp E av w) l vs->aF (bp (mb π E) dx w) l' vs
 | [],l',_,h,.nil=>by
   have h:some []=some l':=h
   simp only [aw] at h
   subst h; exact .nil
 | x::l,l',_,h,.cons q k=>by
   have h:(match PU π x,Iz π l with
    | some y,some r=>some (y::r)
    | _,_=>none)=some l':=h
   split at h
   case h_2=>simp at h
   rename_i h1 h2
   simp only [aw] at h
   subst h
   exact .cons (yQ ha h1 q) (rV ha h2 k)
theorem Ir (ha:∀ b,dx b->av b) {d d':D} {v:Value} (h:OS π d=some d') (hv:bj E av w d v):bj (mb π E) dx w d' v:=by
 unfold OS at h
 split at h
 .split at h
  case h_2=>simp at h
  rename_i hk
  simp only [aw] at h; subst h
  exact yQ ha hk hv
 .split at h
  case h_2=>simp at h
  rename_i hk
  simp only [aw] at h; subst h
  obtain ⟨vs,h1,h2⟩:=hv
  exact ⟨vs,h1,rV ha hk h2⟩
 .simp only [aw] at h; subst h
  obtain ⟨vs,h1,h2⟩:=hv
  cases h3:vs.toList with
  | nil=>exact ⟨vs,h1,by rw [h3]; exact .nil⟩
  | cons y l=>rw [h3] at h2; cases h2
 .simp at h
theorem sT:∀ {sl gB:a8},CY π sl=some gB->∀ t d c,look gB t=some (d,c)->∃ d0,OS π d0=some d/\look sl t=some (d0,c)
 | [],gB,h,t,d,c,hl=>by
   have h:some []=some gB:=h
   grind [look]
 | x::sl,gB,h,t,d,c,hl=>by
   have h:(match OS π x.2.1,CY π sl with
    | some y,some r=>some ((x.1,y,x.2.2)::r)
    | _,_=>none)=some gB:=h
   split at h
   case h_2=>simp at h
   rename_i h1 h2
   simp only [aw] at h
   subst h
   obtain ⟨k,d1,c1⟩:=x
   simp only [look] at hl ⊢
   split at hl
   .grind
   .rename_i hb
    exact sT h2 t d c hl
theorem w5:∀ {sl gB:a8},CY π sl=some gB->bT sl->bT gB
 | [],gB,h,_=>by
   have h:some []=some gB:=h
   grind
 | x::sl,gB,h,hn=>by
   have h:(match OS π x.2.1,CY π sl with
    | some y,some r=>some ((x.1,y,x.2.2)::r)
    | _,_=>none)=some gB:=h
   split at h
   case h_2=>simp at h
   rename_i h1 h2
   simp only [aw] at h
   subst h
   intro z hz
   rcases List.mem_cons.1 hz with rfl|hz
   .exact hn x (kz ..)
   .exact w5 h2 (λy hy=>hn y (gJ _ hy)) z hz
theorem ba.aM6 {E E':Env} {av dx:Nat->Prop} {base:Nat} {w:World} {e:fG} {x:ah} (ha:∀ b,dx b->av b) (hx:match x with
  | .bo _ _ _ _ none=>True
  | _=>False) (h:ba E av base w e x):ba E' dx base w e x:=by
 cases x with
 | bo el sz n get eI=>
   cases eI with
   | some y=>exact hx.elim
   | none=>
     obtain ⟨p1,p2,xs,p3,Ks,p4,pf,p5⟩:=h
     refine ⟨p1,p2,xs,p3,Ks,p4,pf,λi hi j hj=>?_⟩
     obtain ⟨v,c,g1,g2,g3⟩:=p5 i hi j hj
     simp only [gy,aw] at g2
     subst g2
     exact ⟨v,_,g1,rfl,fx.mono (bl.refl _ w) (λb _ q=>ha b q) (λ_ _=>rfl) g3⟩
 | _=>exact hx.elim
theorem C6:∀ {l m:List Fc},Uy π l=some m->m.length=l.length/\∀ (j:Nat) (c:Fc),l[j]?=some c->∃ c',m[j]?=some c'/\TM π c=some c'
 | [],m,h=>by
   have h:some []=some m:=h
   grind
 | x::l,m,h=>by
   have h:(match TM π x,Uy π l with
    | some y,some r=>some (y::r)
    | _,_=>none)=some m:=h
   split at h
   case h_2=>simp at h
   rename_i y r h1 h2
   simp only [aw] at h
   subst h
   obtain ⟨h3,h4⟩:=C6 h2
   grind
theorem QU (ha:∀ b,dx b->av b) {base:Nat} {c c':Fc} {K:Nat->Prop} {v:Value} (h:TM π c=some c') (hv:jq E av base w c K v):jq (mb π E) dx base w c' K v:=by
 unfold TM at h
 split at h
 .split at h
  case h_2=>simp at h
  rename_i h1
  simp only [aw] at h; subst h
  exact yQ ha h1 hv
 .simp only [aw] at h; subst h
  exact fx.mono (bl.refl _ w) (λb _ q=>ha b q) (λ_ _=>rfl) hv
theorem QG (ha:∀ b,dx b->av b) {x y:ah} {base:Nat} {e:fG} (h:LH π x=some y) (hx:ba E av base w e x):ba (mb π E) dx base w e y:=by
 unfold LH at h
 split at h
 .split at h
  case h_2=>simp at h
  rename_i x0 _ m hk
  simp only [aw] at h; subst h
  obtain ⟨h1,h2⟩:=C6 hk
  obtain ⟨p1,p2,xs,p3,Ks,p4,pf,p5⟩:=hx
  obtain ⟨f1,f2⟩:=pf _ rfl
  refine ⟨p1,p2,xs,p3,Ks,p4,λx hx=>?_,λi hi j hj=>?_⟩
  .grind
  .obtain ⟨v,c,g1,g2,g3⟩:=p5 i hi j hj
   unfold gy at g2 ⊢
   cases hb:Nat.beq i x0.1 with
   | true=>
     grind [bz,QU]
   | false=>
     simp only [hb,aw] at g2 ⊢
     subst g2
     exact ⟨v,_,g1,rfl,fx.mono (bl.refl _ w) (λb _ q=>ha b q) (λ_ _=>rfl) g3⟩
 .split at h
  case h_2=>simp at h
  rename_i hk
  simp only [aw] at h; subst h
  obtain ⟨b,cs,Tc,p1,p2,p3,p4⟩:=hx
  have h4:=rV ha hk p4
  exact ⟨b,cs,Tc,p1,by rw [p2,p4.length,h4.length],p3,h4⟩
 .split at h
  case h_2=>simp at h
  rename_i hk
  simp only [aw] at h; subst h
  obtain ⟨p1,p2,xs,p3,p4⟩:=hx
  exact ⟨p1,p2,xs,p3,rV ha hk p4⟩
 .split at h
  case h_2=>simp at h
  rename_i hk
  simp only [aw] at h; subst h
  obtain ⟨b,db,tm,p1,p2,p3,p4,p5⟩:=hx
  refine ⟨b,db,tm,p1,p2,p3,λt d c hl=>?_,w5 hk p5⟩
  obtain ⟨d0,q1,q2⟩:=sT hk t d c hl
  obtain ⟨s1,s2,s3⟩:=p4 t d0 c q2
  exact ⟨s1,λq=>Ir ha q1 (s2 q),s3⟩
 .rename_i n0 n1 n2 n3
  simp only [aw] at h; subst h
  cases x with
  | dead=>trivial
  | box l=>exact (n1 _ rfl).elim
  | row el sz n l=>grind
  | loop f N sl ps as bd st fP=>grind
  | bo el sz n get eI=>
    cases eI with
    | some x=>grind
    | none=>grind [ba.aM6]
  | arr el sz n get=>
    obtain ⟨p1,p2,xs,p3,p4⟩:=hx
    refine ⟨p1,p2,xs,p3,λi hi j hj=>?_⟩
    obtain ⟨x,p5,p6⟩:=p4 i hi j hj
    exact ⟨x,p5,dw.mono (bl.refl _ w) (λb _ q=>ha b q) p6⟩
  | own l=>
    obtain ⟨p1,p2,vs,p3,p4,Ks,p5,p6,p7⟩:=hx
    refine ⟨p1,p2,vs,p3,p4,Ks,p5,p6,λi o ho=>?_⟩
    obtain ⟨v,g1,g2⟩:=p7 i o ho
    exact ⟨v,g1,fx.mono (bl.refl _ w) (λb _ q=>ha b q) (λ_ _=>rfl) g2⟩
  | set l=>exact hx
  | mi=>exact hx
theorem Cp {rs:List ah}:∀ {l:List Nat} {aV:List ah},RR π rs l=some aV->aV.length=l.length/\∀ (k:Nat) (y:ah),aV[k]?=some y->∃ q x,l[k]?=some q/\rs[q]?=some x/\LH π x=some y
 | [],aV,h=>by
   have h:some []=some aV:=h
   grind
 | q::l,aV,h=>by
   have h:(match bh rs q with
    | some x=>match LH π x,RR π rs l with
      | some y,some r=>some (y::r)
      | _,_=>none
    | none=>none)=some aV:=h
   split at h
   case h_2=>simp at h
   rename_i x hx
   split at h
   case h_2=>simp at h
   rename_i y r h1 h2
   simp only [aw] at h
   subst h
   obtain ⟨h3,h4⟩:=Cp h2
   grind [cj]
theorem Qn {x y:ah} (h:LH π x=some y):y.live->x.live:=by
 unfold LH at h
 split at h
 .exact λ_=>trivial
 .exact λ_=>trivial
 .exact λ_=>trivial
 .exact λ_=>trivial
 grind
theorem mG:∀ {l:List Nat},jj l=true->∀ (i j:Nat) (q:Nat),l[i]?=some q->l[j]?=some q->i=j
 | [],_,i,j,q,h,_=>by simp at h
 | x::l,h,i,j,q,h1,h2=>by
   have h:(Bool.rec (jj l) false (qj x l):Bool)=true:=h
   cases hb:qj x l with
   | true=>rw [hb] at h; simp at h
   | false=>
     rw [hb] at h
     have hx:x ∉ l:=λq=>by rw [lu.2 q] at hb; simp at hb
     cases i with
     | zero=>
       grind
     | succ i=>
       cases j with
       | zero=>
         grind
       | succ j=>rw [mG h i j q (by simpa using h1) (by simpa using h2)]
theorem Bt:∀ {n k:Nat} {l:List Nat},SZ n k l=true->∀ i,i<n->l[i]?=some (k+i)
 | 0,k,l,_,i,hi=>by omega
 | n+1,k,[],h,i,hi=>by
   have h:(false:Bool)=true:=h
   simp at h
 | n+1,k,x::l,h,i,hi=>by
   obtain ⟨h1,h2⟩:=Bool.gU (show (Bool.rec false (SZ n (k+1) l) (Nat.beq x k):Bool)=true from h)
   cases i with
   | zero=>simp [cE h1]
   | succ i=>
     have:=Bt h2 i (by omega)
     grind
end
theorem R.renamed {π:List Nat} (h:TZ n0 π s=some s') (eb:∀ x∈sp,kf n0 x.1=true) (vo:n0<=s.rs.length) (hR:R T N aA w0 sp s a w E) (hn:bT s.sl):∃ E',E'.take n0=E.take n0/\R T N aA w0 sp s' a w E'/\bT s'.sl:=by
  unfold TZ at h
  split at h
  case h_2=>simp at h
  rename_i sl rs df Qv Ju US
  obtain ⟨hb,h⟩:=Bool.ay h
  simp only [fC] at hb
  simp only [aw] at h
  subst h
  obtain ⟨hlen,hget⟩:=Cp Ju
  have vp:=mG hb.1
  have hhead:=Bt hb.2
  simp only [Nat.zero_add] at hhead
  have htake:(mb π E).take n0=E.take n0:=by
   apply List.ext_getElem?
   intro i
   rw [nH,nH]
   split
   .rename_i hi
    have eW:i<E.length:=by rw [hR.len]; omega
    grind [nY]
   .rfl
  have hinv:∀ {k b sz:Nat},dt (mb π E) k b sz->∃ q,π[k]?=some q/\dt E q b sz:=λ⟨hh,q,g2,g3⟩=>by
   obtain ⟨q,h1,h2⟩:=WV q (by rintro rfl; exact M0 g3)
   exact ⟨q,h1,hh,h2,g2,g3⟩
  have key:∀ (k:Nat) (y:ah) (b sz:Nat),rs[k]?=some y->y.live->dt (mb π E) k b sz->∃ q x,π[k]?=some q/\s.rs[q]?=some x/\x.live/\dt E q b sz:=by
   grind [Qn]
  have fa:∀ b,AV aA rs (mb π E) b->AV aA s.rs E b:=by
   rintro b (q|⟨k,y,sz,h1,h2,h3⟩)
   .exact .inl q
   .obtain ⟨q,x,_,h5,h6,h7⟩:=key k y b sz h1 h2 h3
    exact .inr ⟨q,x,sz,h5,h6,h7⟩
  refine ⟨mb π E,htake,⟨hR.size,?_,λx hx=>?_,hR.below,by simp [mb,hlen],hR.outer,?_,?_,?_,?_,hR.gP.mono (bl.refl _ w) (λb _ q=>fa b q)⟩,w5 Qv hn⟩
  .exact Nu US hR.defers
  .have h1:=bj.shrink (Kept.mv E n0) (Kc:=AV aA rs (mb π E)) (λb q=>fa b q) (by rw [List.length_take,hR.len,Nat.min_eq_left vo]; exact eb x hx) (hR.spec x hx)
   rw [<- htake] at h1
   exact bj.mono (Kept.mv (mb π E) n0).le (bl.refl _ w) (λb _ q=>q) h1
  .intro k y e h1 h2
   obtain ⟨q,x,h4,h5,h6⟩:=hget k y h1
   have eW:q<E.length:=by rw [hR.len]; grind
   have hE:=ib eW
   rw [nY h4 hE] at h2
   simp only [aw] at h2
   subst h2
   exact QG fa h6 (hR.roots q x _ h5 hE)
  .intro k y b sz h1 h2 h3
   obtain ⟨q,x,_,h5,h6,h7⟩:=key k y b sz h1 h2 h3
   exact hR.dp q x b sz h5 h6 h7
  .intro k k' y y' b sz dE h1 nD h2 ig h3 lD
   obtain ⟨q,x,h4,h5,h6,h7⟩:=key k y b sz h1 h2 h3
   obtain ⟨q',x',h4',h5',h6',h7'⟩:=key k' y' b dE nD ig lD
   have:=hR.dT q q' x x' b sz dE h5 h5' h6 h6' h7 h7'
   grind
  .intro t d c hl
   obtain ⟨d0,q1,q2⟩:=sT Qv t d c hl
   obtain ⟨s1,s2,s3⟩:=hR.slots t d0 c q2
   exact ⟨s1,λq=>Ir fa q1 (s2 q),s3⟩
theorem Goal.rename (π:List Nat) (h:TZ n0 π s=some s') (g:Goal P T N b cs ro n0 eM todo s'):Goal P T N b cs ro n0 eM todo s:=
 g.ghost λaA w0 sp a w E eb vo hR hn=>R.renamed h eb vo hR hn
end
section
variable {P:Program} {T:ec} {N:Nat} {aA:Nat->Prop} {w0:Kp} {sp:List (D×Value)} {s s':VS} {a:Act} {w w':World} {E E':Env} {f:FuncId} {b:Frame} {cs:List Frame} {ro:Option Nat} {n0:Nat} {eM:Option Code->VS->Prop} {todo:List Item}
def aY (x y:ah):Prop:=(y.live->x.live)/\∀ (base:Nat) (E:Env) (w:World) e av,ba E av base w e x->ba E av base w e y
theorem aY.refl (x:ah):aY x x:=⟨id,λ_ _ _ _ _ h=>h⟩
def dI (c c':C):Prop:=∀ (E:Env) (av:Nat->Prop) (w:World) (v:Value),bp E av w c v->bp E av w c' v
theorem dI.refl (c:C):dI c c:=λ_ _ _ _ h=>h
theorem dI.im {x y:I} (h:cD x y):dI (.im x) (.im y):=λ_ av w v q=>h av w v q
theorem dI.nil (sz:Nat) (get:Nat->Nat->I):dI (.im (.v (.slice none 0 0))) (.im (.sl sz 0 get)):=dI.im (cD.nil sz get)
theorem aF.cle {E:Env} {av:Nat->Prop} {w:World}:∀ {l l':List C} {vs:List Value},aF dI l l'->aF (bp E av w) l vs->aF (bp E av w) l' vs
 | _,_,_,.nil,.nil=>.nil
 | _,_,_,.cons q k,.cons q' k'=>.cons (q _ _ _ _ q') (aF.cle k k')
theorem aY.box {l l':List C} (h:aF dI l l'):aY (.box l) (.box l'):=⟨λ_=>trivial,λbase E w e av q=>by
 obtain ⟨b,vs,Tc,p1,p2,p3,p4⟩:=q
 have h4:=aF.cle h p4
 exact ⟨b,vs,Tc,p1,by rw [p2,p4.length,h4.length],p3,h4⟩⟩
theorem aY.arr {el sz n:Nat} {get get':Nat->Nat->I} (h:∀ i,i<n->∀ j,j<sz->cD (get i j) (get' i j)):aY (.arr el sz n get) (.arr el sz n get'):=⟨λ_=>trivial,λbase E w e av q=>by
 obtain ⟨p1,p2,xs,p3,p4⟩:=q
 exact ⟨p1,p2,xs,p3,λi hi j hj=>by
  obtain ⟨x,p5,p6⟩:=p4 i hi j hj
  exact ⟨x,p5,h i hi j hj _ _ _ p6⟩⟩⟩
theorem aY.dead (x:ah):aY x .dead:=⟨λh=>h.elim,λ_ _ _ _ _ _=>trivial⟩
theorem aY.row {el sz n:Nat} {l:List C} {get:Nat->Nat->I} (h:∀ i,i<n->∀ j,j<sz->l[i*sz+j]?=some (.im (get i j))):aY (.row el sz n l) (.arr el sz n get):=⟨λ_=>trivial,λbase E w e av q=>Yc q h⟩
theorem aF.at_ {α β:Type} {Ra:α->β->Prop} {l:List α} {m:List β} (h:aF Ra l m) {i:Nat} {y:β} (e:m[i]?=some y):∃ x,l[i]?=some x/\Ra x y:=by
 induction h generalizing i with
 | nil=>simp at e
 | cons q _ ih=>
   grind
theorem R.le (h:R T N aA w0 sp s a w E) (hn:bT s.sl) (h1:Xb s.sl s'.sl) (h2:aF aY s.rs s'.rs) (h3:s'.df=s.df):R T N aA w0 sp s' a w E:=by
 have key:∀ (q:Nat) (y:ah),s'.rs[q]?=some y->∃ x,s.rs[q]?=some x/\aY x y:=λq y e=>h2.at_ e
 have fa:∀ b,AV aA s'.rs E b->AV aA s.rs E b:=by
  rintro b (q|⟨q,y,sz,g1,g2,g3⟩)
  .exact .inl q
  .obtain ⟨x,g4,g5⟩:=key q y g1
   exact .inr ⟨q,x,sz,g4,g5.1 g2,g3⟩
 have h':=h.BJ (aV:=s'.rs) (Env.le_refl E) (bl.refl _ w) h.below (λb _ q=>fa b q) (by rw [h.len,h2.length]) (λq y e g1 g2=>by
   obtain ⟨x,g4,g5⟩:=key q y g1
   exact g5.2 _ _ _ _ _ (ba.mono (Env.le_refl E) (bl.refl _ w) (λb _ q=>fa b q) (λ_ _ _=>rfl) (h.roots q x e g4 g2))) (λq y b sz g1 g2 g3=>by
   obtain ⟨x,g4,g5⟩:=key q y g1
   exact h.dp q x b sz g4 (g5.1 g2) g3) (λq q' y y' b sz dE g1 g1' g2 Ql g3 g3'=>by
   obtain ⟨x,g4,g5⟩:=key q y g1
   obtain ⟨x',g4',g5'⟩:=key q' y' g1'
   exact h.dT q q' x x' b sz dE g4 g4' (g5.1 g2) (g5'.1 Ql) g3 g3')
 exact ⟨h'.size,by rw [h3]; exact h'.defers,h'.spec,h'.below,h'.len,h'.outer,h'.roots,h'.dp,h'.dT,λt d c hl=>by
  obtain ⟨g1,d0,g2,g3⟩:=tT h1 _ (jl hl)
  have g1:c=[]:=g1
  subst g1
  obtain ⟨q1,q2,q3⟩:=h'.slots t d0 [] (gh hn g2)
  exact ⟨q1,λq=>g3 _ _ _ _ (q2 q),q3⟩,h'.gP⟩
theorem Goal.le (h1:Xb s.sl s'.sl) (h2:aF aY s.rs s'.rs) (h3:s'.df=s.df) (g:Goal P T N b cs ro n0 eM todo s'):Goal P T N b cs ro n0 eM todo s:=
 Goal.ghost g λaA w0 sp a w E eb vo hR hn=>⟨E,rfl,hR.le hn h1 h2 h3,λx hx=>(tT h1 x hx).1⟩
end
open Go.RowKit
section
def qN {α β:Type} (f:α->β) (l:List α):List β:=List.rec [] (λx _ ih=>f x::ih) l
theorem iP {α β:Type} (f:α->β) (l:List α):qN f l=l.map f:=by
 induction l with
 | nil=>rfl
 | cons x l ih=>exact congrArg (f x::·) ih
def rX (π:List Nat) (n i:Nat):Nat:=match bh π i with
 | some q=>q
 | none=>n+(i-π.length)
def Jw (ρ:Nat->Nat) (c:C):C:=match c with
 | .im x=>.im x
 | .rt r i j=>.rt (ρ r) i j
 | .sa r m=>.sa (ρ r) m
 | .mp r=>.mp (ρ r)
 | .fL f l=>.fL f (qN ρ l)
 | .yl r=>.yl (ρ r)
 | .ow r j=>.ow (ρ r) j
def N6 (ρ:Nat->Nat) (d:D):D:=match d with
 | .c x=>.c (Jw ρ x)
 | .a l=>.a (qN (Jw ρ) l)
 | .t l=>.t (qN (λx=>(x.1,qN (Jw ρ) x.2)) l)
def P3 (ρ:Nat->Nat) (l:a8):a8:=qN (λx=>(x.1,N6 ρ x.2.1,x.2.2)) l
def mvF (ρ:Nat->Nat) (x:Fc):Fc:=match x with
 | .c x=>.c (Jw ρ x)
 | .o x=>.o x
def B8 (ρ:Nat->Nat) (x:ah):ah:=match x with
 | .box l=>.box (qN (Jw ρ) l)
 | .row el sz n l=>.row el sz n (qN (Jw ρ) l)
 | .loop f N sl ps as bd st fP=>.loop f N (P3 ρ sl) ps as bd st fP
 | .dead=>.dead
 | .arr el sz n get=>.arr el sz n get
 | .bo el sz n get none=>.bo el sz n get none
 | .bo el sz n get (some x)=>.bo el sz n get (some (x.1,qN (mvF ρ) x.2))
 | .own l=>.own l
 | .set l=>.set l
 | .mi=>.mi
def wQ (ρ:Nat->Nat) (π:List Nat):List ah->List ah->List ah->List ah:=List.rec (λ_ aV RS=>RS++qN (B8 ρ) aV) (λq _ ih rs aV RS=>match rs,aV with
 | x::rs,y::aV=>match x with
   | .dead=>ih rs aV RS
   | _=>ih rs aV (setAt RS q (B8 ρ y))
 | _,_=>[]) π
def aO8 (ρ:Nat->Nat) (RS:List ah) (q:Nat) (x y:ah):Prop:=match x with
 | .dead=>y=.dead
 | x=>bh RS q=some (B8 ρ x)
def M1 (ρ:Nat->Nat) (RS:List ah) (π:List Nat):List ah->List ah->Prop:=List.rec (λrs _=>rs=[]) (λq _ ih rs aV=>match rs,aV with
 | x::rs,y::aV=>aO8 ρ RS q x y/\q<RS.length/\ih rs aV
 | _,_=>False) π
end
section
variable {e E:Env} {av:Nat->Prop} {w:World} {ρ:Nat->Nat}
theorem aF.nM {α β γ:Type} {S:β->γ->Prop} {f:α->β}:∀ {l:List α} {m:List γ},aF S (l.map f) m↔aF (λx y=>S (f x) y) l m
 | [],m=>⟨λh=>by cases h; exact .nil,λh=>by cases h; exact .nil⟩
 | x::l,m=>⟨λh=>by cases h with|cons a b=>exact .cons a (aF.nM.1 b),λh=>by cases h with|cons a b=>exact .cons a (aF.nM.2 b)⟩
theorem aF.iff {α β:Type} {R S:α->β->Prop} (h:∀ x y,R x y↔S x y) {l:List α} {m:List β}:aF R l m↔aF S l m:=⟨λk=>k.mono λx y=>(h x y).1,λk=>k.mono λx y=>(h x y).2⟩
def kV (e E:Env) (ρ:Nat->Nat):Prop:=∀ i,(e[i]?).map (λx:fG=>x.wk λ_=>False)=(E[ρ i]?).map λx:fG=>x.wk λ_=>False
theorem kV.of {e E:Env} {ρ:Nat->Nat} (h:∀ i,e[i]?=E[ρ i]?):kV e E ρ:=λi=>by rw [h i]
theorem OG {x y:fG} {o:Option fG} (h:o=some x) {p:Option fG} (hp:o.map (λx:fG=>x.wk λ_=>False)=p.map λx:fG=>x.wk λ_=>False):∃ K,p=some (x.wk K):=by
 subst h
 cases p with
 | none=>simp at hp
 | some y=>
   simp only [Option.map_some,aw] at hp
   obtain ⟨y1,⟨y2,y3⟩,y4⟩:=y
   simp only [fG.wk,bN] at hp
   obtain ⟨h1,⟨h2,_⟩,h3⟩:=hp
   exact ⟨y3,by simp only [fG.wk,h1,h2,h3]⟩
theorem kV.to {e E:Env} {ρ:Nat->Nat} (he:kV e E ρ) {r:Nat} {x:fG} (h:e[r]?=some x):∃ K,E[ρ r]?=some (x.wk K):=OG (y:=x) h (he r)
theorem kV.back {e E:Env} {ρ:Nat->Nat} (he:kV e E ρ) {r:Nat} {x:fG} (h:E[ρ r]?=some x):∃ K,e[r]?=some (x.wk K):=OG (y:=x) h (he r).symm
theorem Ob (he:kV e E ρ) {r b sz:Nat}:bB e r b sz↔bB E (ρ r) b sz:=by
 constructor
 .rintro ⟨h,q⟩
  obtain ⟨K,q⟩:=he.to q
  exact ⟨(h.1,K),q⟩
 .rintro ⟨h,q⟩
  obtain ⟨K,q⟩:=he.back q
  exact ⟨(h.1,K),q⟩
theorem at1 (he:∀ i,e[i]?=E[ρ i]?) {r b sz:Nat}:dt e r b sz↔dt E (ρ r) b sz:=by
 unfold dt; rw [he]
theorem uH (he:kV e E ρ) {c:C} {v:Value}:bp e av w c v↔bp E av w (Jw ρ c) v:=by
 cases c with
 | im x=>exact Iff.rfl
 | rt r i j=>simp only [bp,Jw,Ob he]
 | sa r m=>
   simp only [bp,Jw]
   constructor
   .rintro ⟨x,a,n,cap,h1,h2,h3⟩
    obtain ⟨K,h1⟩:=he.to h1
    exact ⟨_,a,n,cap,h1,h2,h3⟩
   .rintro ⟨x,a,n,cap,h1,h2,h3⟩
    obtain ⟨K,h1⟩:=he.back h1
    exact ⟨_,a,n,cap,h1,h2,h3⟩
 | mp r=>simp only [bp,Jw,Ob he]
 | yl r=>simp only [bp,Jw,Ob he]
 | ow r j=>
   simp only [bp,Jw]
   constructor
   .rintro ⟨x,vs,h1,h2,h3⟩
    obtain ⟨K,h1⟩:=he.to h1
    exact ⟨_,vs,h1,h2,h3⟩
   .rintro ⟨x,vs,h1,h2,h3⟩
    obtain ⟨K,h1⟩:=he.back h1
    exact ⟨_,vs,h1,h2,h3⟩
 | fL f l=>simp only [bp,Jw,iP,aF.nM,Ob he]
theorem uh (he:kV e E ρ) {l:List C} {m:List Value}:aF (bp e av w) l m↔aF (bp E av w) (qN (Jw ρ) l) m:=by
 grind [iP,aF.nM,aF.iff,uH]
theorem yM (he:kV e E ρ) {d:D} {v:Value}:bj e av w d v↔bj E av w (N6 ρ d) v:=by
 cases d with
 | c x=>exact uH he
 | a l=>simp only [bj,N6,uh he]
 | t l=>
   simp only [bj,N6,iP (λx:Bool×List C=>(x.1,qN (Jw ρ) x.2)),aF.nM]
   refine exists_congr λvs=>and_congr Iff.rfl (aF.iff λx y=>?_)
   obtain ⟨b,l⟩:=x
   cases b with
   | true=>simp only [uh he]
   | false=>
     simp only
     constructor
     .rintro ⟨c,rfl,h⟩
      exact ⟨Jw ρ c,rfl,(uH he).1 h⟩
     .rintro ⟨c,h1,h⟩
      rw [iP] at h1
      match l,h1 with
      | [c0],h1=>
        grind [uH]
      | [],h1=>simp at h1
      | _::_::_,h1=>simp at h1
theorem QQ (he:kV e E ρ) {l:List D} {m:List Value}:aF (bj e av w) l m↔aF (bj E av w) (qN (N6 ρ) l) m:=by
 grind [iP,aF.nM,aF.iff,yM]
theorem E9:∀ {sl:a8} {t:Tmp},look (P3 ρ sl) t=(look sl t).map λx=>(N6 ρ x.1,x.2)
 | [],t=>rfl
 | (k,d,c)::sl,t=>by
   show look ((k,N6 ρ d,c)::P3 ρ sl) t=_
   simp only [look]
   split
   .rfl
   .exact E9
theorem R5 {sl:a8}:(∀ x∈P3 ρ sl,x.2.2=[])↔∀ x∈sl,x.2.2=[]:=by
 unfold P3
 rw [iP]
 refine ⟨λh x hx=>?_,λh y hy=>?_⟩
 .have:=h _ (List.mem_map.2 ⟨x,hx,rfl⟩)
  exact this
 grind
theorem HD (he:kV e E ρ) {N:Nat} {sl:a8} {tm:Array Value}:iJ e av w N sl tm↔iJ E av w N (P3 ρ sl) tm:=by
 constructor
 .intro h t d c hl
  rw [E9] at hl
  cases hx:look sl t with
  | none=>rw [hx] at hl; simp at hl
  | some x=>
    rw [hx] at hl
    simp only [Option.map_some,aw,bN] at hl
    obtain ⟨rfl,rfl⟩:=hl
    obtain ⟨q1,q2,q3⟩:=h t x.1 x.2 hx
    exact ⟨q1,λq=>(yM he).1 (q2 q),q3⟩
 .intro h t d c hl
  obtain ⟨q1,q2,q3⟩:=h t (N6 ρ d) c (by rw [E9,hl]; rfl)
  exact ⟨q1,λq=>(yM he).2 (q2 q),q3⟩
theorem Ip {α β:Type} (f:α->β) (l:List α):(qN f l).length=l.length:=by rw [iP]; simp
theorem zj (he:kV e E ρ) {base:Nat} {pZ:fG} {x:ah}:ba e av base w pZ x↔ba E av base w pZ (B8 ρ x):=by
 cases x with
 | dead=>exact Iff.rfl
 | box l=>simp only [ba,B8,Ip,uh he]
 | arr el sz n get=>exact Iff.rfl
 | row el sz n l=>simp only [ba,B8,uh he]
 | bo el sz n get eI=>
   have hF:∀ {c:Fc} {K:Nat->Prop} {v:Value},jq e av base w c K v↔jq E av base w (mvF ρ c) K v:=λ{c K v}=>by
    cases c with
    | c x=>exact uH he
    | o x=>exact Iff.rfl
   cases eI with
   | none=>
     constructor<;>rintro ⟨p1,p2,xs,p3,Ks,p4,pf,p5⟩<;>refine ⟨p1,p2,xs,p3,Ks,p4,pf,λi hi j hj=>?_⟩<;>obtain ⟨v,c,g1,g2,g3⟩:=p5 i hi j hj<;>(simp only [gy,aw] at g2; subst g2; exact ⟨v,_,g1,rfl,g3⟩)
   | some x=>
     constructor
     .rintro ⟨p1,p2,xs,p3,Ks,p4,pf,p5⟩
      obtain ⟨f1,f2⟩:=pf _ rfl
      refine ⟨p1,p2,xs,p3,Ks,p4,λy hy=>?_,λi hi j hj=>?_⟩
      all_goals grind [gy,bz,mvF,iP]
     .rintro ⟨p1,p2,xs,p3,Ks,p4,pf,p5⟩
      obtain ⟨f1,f2⟩:=pf _ rfl
      refine ⟨p1,p2,xs,p3,Ks,p4,λy hy=>?_,λi hi j hj=>?_⟩
      .grind [Ip]
      .obtain ⟨v,c,g1,g2,g3⟩:=p5 i hi j hj
       unfold gy at g2 ⊢
       cases hb:Nat.beq i x.1 with
       | true=>
         grind [bz,iP]
       | false=>
         simp only [hb,aw] at g2 ⊢
         subst g2
         exact ⟨v,_,g1,rfl,g3⟩
 | own l=>exact Iff.rfl
 | set l=>exact Iff.rfl
 | mi=>exact Iff.rfl
 | loop f N sl ps as bd st fP=>
   simp only [ba,B8,HD he,R5]
theorem ky {x:ah}:(B8 ρ x).live↔x.live:=by
 cases x with
 | bo el sz n get eI=>cases eI<;>exact Iff.rfl
 | _=>exact Iff.rfl
end
structure Frm (ρ:Nat->Nat) (π:List Nat) (rs aV RS Ti:List ah):Prop where
 DD:π.length=rs.length
 lt:∀ q∈π,q<RS.length
 len:rs.length<=aV.length
 len':Ti.length=RS.length+(aV.length-rs.length)
 img:∀ (i:Nat) (x:ah),rs[i]?=some x->x.live->∃ q y,π[i]?=some q/\RS[q]?=some (B8 ρ x)/\aV[i]?=some y/\Ti[q]?=some (B8 ρ y)
 out:∀ q:Nat,q<RS.length->(∀ (i:Nat) (x:ah),rs[i]?=some x->x.live->π[i]?≠some q)->Ti[q]?=RS[q]?
 new:∀ j:Nat,Ti[RS.length+j]?=(aV[rs.length+j]?).map (B8 ρ)
 dead:∀ i:Nat,rs[i]?=some .dead->aV[i]?=some .dead
theorem rB {ρ:Nat->Nat}:∀ {π:List Nat} {rs aV RS Qj:List ah},jj π=true->RS.length=Qj.length->(∀ q∈π,RS[q]?=Qj[q]?)->M1 ρ Qj π rs aV->
  Frm ρ π rs aV RS (wQ ρ π rs aV RS)
 | [],rs,aV,RS,Qj,_,_,_,h=>by
   have h:rs=[]:=h
   subst h
   have e:wQ ρ [] [] aV RS=RS++aV.map (B8 ρ):=by rw [<- iP]; rfl
   rw [e]
   refine ⟨rfl,λq hq=>(by cases hq),bk _,(by simp),λi x hx=>(by simp at hx),λq hq _=>iz hq,λj=>?_,λi hi=>(by simp at hi)⟩
   grind
 | q::π,rs,aV,RS,Qj,vp,hl,N9,h=>by
   have hnd0:jj (q::π)=true:=vp
   have hnd1:(Bool.rec (jj π) false (qj q π):Bool)=true:=vp
   have hq:q ∉ π:=λhm=>by rw [lu.2 hm] at hnd1; simp at hnd1
   have hnd2:jj π=true:=by
    cases hb:qj q π with
    | true=>simp_all
    | false=>simp_all
   match rs,aV,h with
   | x::rs,y::aV,h=>
     obtain ⟨h1,h2,h3⟩:aO8 ρ Qj q x y/\q<Qj.length/\M1 ρ Qj π rs aV:=h
     by_cases hx:x.live
     .have e:wQ ρ (q::π) (x::rs) (y::aV) RS=wQ ρ π rs aV (RS.set q (B8 ρ y)):=by
       rw [<- bg]
       cases x<;>first|exact hx.elim|rfl
      have h1:Qj[q]?=some (B8 ρ x):=by
       rw [<- cj]
       cases x<;>first|exact hx.elim|exact h1
      have ih:=rB (RS:=RS.set q (B8 ρ y)) (Qj:=Qj) hnd2 (by simpa using hl) (λk hk=>by
       grind) h3
      rw [e]
      have hqout:∀ (i:Nat) (z:ah),rs[i]?=some z->z.live->π[i]?≠some q:=λi z _ _ hp=>hq (List.mem_of_getElem? hp)
      have hql:q<RS.length:=by rw [hl]; exact h2
      refine ⟨by simp [ih.DD],λk hk=>?_,by simpa using ih.len,?_,λi z hz Gz=>?_,λk hk hout=>?_,λj=>?_,λi hi=>?_⟩
      .rcases List.mem_cons.1 hk with rfl|hk
       .exact hql
       .simpa using ih.lt k hk
      .rw [ih.len']; simp
      .cases i with
       | zero=>
         simp at hz
         subst hz
         refine ⟨q,y,rfl,by grind,rfl,?_⟩
         rw [ih.out q (by simpa using hql) hqout,jv,if_pos rfl,if_pos hql]
       | succ i=>
         obtain ⟨k,z',p1,p2,p3,p4⟩:=ih.img i z (by simpa using hz) Gz
         grind
      .have qG:q≠k:=λe=>hout 0 x rfl hx (by simp [e])
       rw [ih.out k (by simpa using hk) (λi z hz Gz hp=>hout (i+1) z (by simpa using hz) Gz (by simpa using hp)),jv,if_neg qG]
      .have:=ih.new j
       grind
      .cases i with
       | zero=>simp at hi; subst hi; exact hx.elim
       | succ i=>simpa using ih.dead i (by simpa using hi)
     .have hx:x=.dead:=by cases x<;>first|rfl|exact (hx trivial).elim
      subst hx
      have h1:y=.dead:=h1
      subst h1
      have ih:=rB (RS:=RS) (Qj:=Qj) hnd2 hl (λk hk=>N9 k (gJ _ hk)) h3
      show Frm ρ (q::π) (.dead::rs) (.dead::aV) RS (wQ ρ π rs aV RS)
      refine ⟨by simp [ih.DD],λk hk=>?_,by simpa using ih.len,?_,λi z hz Gz=>?_,λk hk hout=>?_,λj=>?_,λi hi=>?_⟩
      .rcases List.mem_cons.1 hk with rfl|hk
       .rw [hl]; exact h2
       .exact ih.lt k hk
      .rw [ih.len']; simp
      .cases i with
       | zero=>grind
       | succ i=>
         obtain ⟨k,z',p1,p2,p3,p4⟩:=ih.img i z (by simpa using hz) Gz
         grind
      .exact ih.out k hk λi z hz Gz hp=>hout (i+1) z (by simpa using hz) Gz (by simpa using hp)
      .rw [ih.new j,show (ah.dead::rs).length+j=(rs.length+j)+1 by simp; omega]
       simp
      .cases i with
       | zero=>rfl
       | succ i=>simpa using ih.dead i (by simpa using hi)
   | [],_,h=>exact h.elim
   | _::_,[],h=>exact h.elim
section
variable {P:Program} {T:ec} {f:FuncId} {ds:List D} {rs aV RS Ti:List ah} {d:D}
theorem bt.frm {π:List Nat} (h:bt T P f ds rs d aV) (vp:jj π=true) (hF:Frm (rX π RS.length) π rs aV RS Ti):bt T P f (qN (N6 (rX π RS.length)) ds) RS (N6 (rX π RS.length) d) Ti:=by
 refine ⟨h.out.1,?_⟩
 intro N aA w0 sp sl df a w E VS hR hv
 have hndp:=mG vp
 let ρ:=rX π RS.length
 have hEl:E.length=RS.length:=hR.len
 have rho_in:∀ {i q:Nat},π[i]?=some q->ρ i=q:=λ{i q} hi=>by
  grind [rX,cj]
 have rho_out:∀ {i:Nat},π.length<=i->ρ i=RS.length+(i-π.length):=λ{i} hi=>by
  grind [rX,cj]
 let e:=mb π E
 have hel:e.length=rs.length:=by show (mb π E).length=_; unfold mb; simp [hF.DD]
 have he:∀ i,e[i]?=E[ρ i]?:=by
  intro i
  rcases Nat.lt_or_ge i π.length with hi|hi
  .have hq:=ib hi
   have eW:π[i]<E.length:=by rw [hEl]; exact hF.lt _ (List.getElem_mem hi)
   grind [nY]
  .rw [rho_out hi,List.getElem?_eq_none (by rw [hel,<- hF.DD]; exact hi),List.getElem?_eq_none (by omega)]
 let own:Nat->Prop:=λb=>∃ i x sz,rs[i]?=some x/\x.live/\dt e i b sz
 let k0:Kp:=⟨w,w0.base,own⟩
 let av1:Nat->Prop:=λb=>AV aA RS E b/\¬ own b
 have L3:∀ {i:Nat} {x:ah} {b sz:Nat},rs[i]?=some x->x.live->dt e i b sz->∃ q,π[i]?=some q/\RS[q]?=some (B8 ρ x)/\(B8 ρ x).live/\dt E q b sz:=by
  intro i x b sz h1 h2 h3
  obtain ⟨q,y,p1,p2,_⟩:=hF.img i x h1 h2
  refine ⟨q,p1,p2,ky.2 h2,?_⟩
  have:=(at1 he).1 h3
  rwa [rho_in p1] at this
 have hownAV:∀ {b:Nat},own b->AV aA RS E b/\w0.In b/\b<w.heap.size:=by
  rintro b ⟨i,x,sz,h1,h2,h3⟩
  obtain ⟨q,_,p2,p3,p4⟩:=L3 h1 h2 h3
  exact ⟨.inr ⟨q,_,sz,p2,p3,p4⟩,hR.dp q _ b sz p2 p3 p4⟩
 have hAVlt:∀ {b:Nat},AV aA RS E b->b<w.heap.size:=by
  rintro b (q|⟨q,x,sz,h1,h2,h3⟩)
  .exact hR.kr q
  .exact (hR.dp q x b sz h1 h2 h3).2
 have hav0:∀ {b:Nat},aA b->¬ own b:=λ{b} q ho=>(hR.outer b q).2 ((hownAV ho).2.1.own (hR.outer b q).1)
 have avEq:AV av1 rs e=AV aA RS E:=by
  funext b
  refine propext ⟨?_,λq=>?_⟩
  .rintro (q|⟨i,x,sz,h1,h2,h3⟩)
   all_goals grind
  .by_cases ho:own b
   .obtain ⟨i,x,sz,h1,h2,h3⟩:=ho
    exact .inr ⟨i,x,sz,h1,h2,h3⟩
   .exact .inl ⟨q,ho⟩
 have hsmall:R T 0 av1 k0 [] ⟨[],rs,[]⟩ { tmps := #[],defers:=[] } w e:=by
  refine ⟨rfl,.nil,λ_ hx=>(by cases hx),⟨rfl,rfl,rfl,bF _,hR.below.base,λ_ _ _=>rfl⟩,hel,λb q=>⟨hAVlt q.1,q.2⟩,?_,?_,?_,λt d c h1=>(by simp [look] at h1),?_⟩
  .intro i x pZ h1 h2
   by_cases hx:x.live
   .obtain ⟨q,y,p1,p2,_⟩:=hF.img i x h1 hx
    have h2:e[i]?=some pZ:=h2
    rw [he,rho_in p1] at h2
    show ba e (AV av1 rs e) w0.base w pZ x
    rw [avEq]
    exact (zj (kV.of he)).2 (hR.roots q _ pZ p2 h2)
   .have hx:x=.dead:=by cases x<;>first|rfl|exact (hx trivial).elim
    subst hx; trivial
  .intro i x b sz h1 h2 h3
   obtain ⟨_,q1,q2⟩:=hownAV ⟨i,x,sz,h1,h2,h3⟩
   exact ⟨⟨q1.base,λ_=>⟨i,x,sz,h1,h2,h3⟩⟩,q2⟩
  .intro i j x y b sz dE h1 nD h2 ig h3 lD
   obtain ⟨q,p1,p2,p3,p4⟩:=L3 h1 h2 h3
   obtain ⟨q',p1',p2',p3',p4'⟩:=L3 nD ig lD
   have:=hR.dT q q' _ _ b sz dE p2 p2' p3 p3' p4 p4'
   grind
  .show sq T (AV av1 rs e) w
   rw [avEq]; exact hR.gP
 have uF:aF (bj e (AV av1 rs e) w) ds VS:=by
  rw [avEq]
  exact (QQ (kV.of he)).2 hv
 refine (h.out.2 0 av1 k0 [] [] [] _ w e VS hsmall uF).mono ?_
 rintro en w' ⟨v,e',rfl,hk,we,hd⟩
 have hel':e'.length=aV.length:=we.len
 have hge:rs.length<=e'.length:=by rw [<- hel]; exact hk.len
 let live:Nat->Nat->Prop:=λi q=>(∃ x:ah,rs[i]?=some x/\x.live)/\π[i]?=some q
 have hlive:∀ {i j q:Nat},live i q->live j q->i=j:=λ{i j q} h1 h2=>hndp i j q h1.2 h2.2
 open Classical in
 let val:Nat->fG->fG:=λq x=>if h:∃ i,live i q then e'.getD (Classical.choose h) x else x
 let E':Env:=E.mapIdx val++e'.drop rs.length
 have hE'q:∀ {q:Nat},q<RS.length->E'[q]?=(E[q]?).map (val q):=λ{q} hq=>by
  grind
 have hE'live:∀ {i q:Nat},live i q->E'[q]?=e'[i]?:=λ{i q} hq=>by
  obtain ⟨⟨x,h1,h2⟩,h3⟩:=hq
  have eW:q<RS.length:=hF.lt _ (List.mem_of_getElem? h3)
  have hex:∃ i,live i q:=⟨i,⟨x,h1,h2⟩,h3⟩
  grind
 have hE'in:∀ {q:Nat},q<RS.length->(¬ ∃ i,live i q)->E'[q]?=E[q]?:=λ{q} hq hn=>by
  grind
 have hE'new:∀ j:Nat,E'[RS.length+j]?=e'[rs.length+j]?:=λj=>by
  grind
 have heq:∀ {i q:Nat},live i q->e[i]?=E[q]?:=λ{i q} hq=>by rw [he,rho_in hq.2]
 have hEle:Env.le E E':=λq x h1 h2=>by
  have eW:q<RS.length:=by grind
  by_cases hex:∃ i,live i q
  .obtain ⟨i,hi⟩:=hex
   rw [hE'live hi]
   exact hk.le i x (by rw [heq hi]; exact h1) h2
  .rw [hE'in eW hex]; exact ⟨x.2.1.2,h1,h2⟩
 have hkept:Kept E E':=⟨hEle,λq h1=>by
  have eW:q<RS.length:=by grind
  by_cases hex:∃ i,live i q
  .obtain ⟨i,hi⟩:=hex
   rw [hE'live hi]
   exact hk.free i (by rw [heq hi]; exact h1)
  grind⟩
 have hnk:∀ {F G:Env} {i:Nat},Kept F G->i<F.length->(G[i]?).map (λx:fG=>x.wk λ_=>False)=(F[i]?).map λx:fG=>x.wk λ_=>False:=λ{F G i} hFG hi=>by
  have h1:=ib hi
  by_cases h2:F[i]=hole
  .rw [h2] at h1; rw [h1,hFG.free i h1]
  .obtain ⟨K,h3,_⟩:=hFG.le i _ h1 h2
   rw [h3,h1]; rfl
 have he':kV e' E' ρ:=by
  intro i
  rcases Nat.lt_or_ge i π.length with hi|hi
  .have hq:=ib hi
   have eW:π[i]<RS.length:=hF.lt _ (List.getElem_mem hi)
   grind
  .rw [rho_out hi,hE'new,hF.DD]
   have e1:rs.length+(i-rs.length)=i:=by rw [hF.DD] at hi; omega
   rw [e1]
 have whr:∀ (q:Nat) (z:ah),Ti[q]?=some z->(∃ i y,ρ i=q/\aV[i]?=some y/\z=B8 ρ y/\(∀ pZ,E'[q]?=some pZ->e'[i]?=some pZ))∨(q<RS.length/\RS[q]?=some z/\∀ (i:Nat) (x:ah),rs[i]?=some x->x.live->π[i]?≠some q):=by
  intro q z hz
  rcases Nat.lt_or_ge q RS.length with hq|hq
  .by_cases hex:∃ (i:Nat) (x:ah),rs[i]?=some x/\x.live/\π[i]?=some q
   .obtain ⟨i,x,h1,h2,h3⟩:=hex
    obtain ⟨q',y,p1,p2,p3,p4⟩:=hF.img i x h1 h2
    grind
   .refine .inr ⟨hq,?_,λi x h1 h2 h3=>hex ⟨i,x,h1,h2,h3⟩⟩
    rw [<- hF.out q hq λi x h1 h2 h3=>hex ⟨i,x,h1,h2,h3⟩]; exact hz
  .have e1:q=RS.length+(q-RS.length):=by omega
   rw [e1,hF.new] at hz
   cases hy:aV[rs.length+(q-RS.length)]? with
   | none=>rw [hy] at hz; simp at hz
   | some y=>
     rw [hy] at hz
     simp only [Option.map_some,aw] at hz
     have hρ:ρ (rs.length+(q-RS.length))=q:=by
      rw [rho_out (by rw [hF.DD]; omega),hF.DD]; omega
     grind
 have nolive:∀ {q:Nat},(∀ (i:Nat) (x:ah),rs[i]?=some x->x.live->π[i]?≠some q)->¬ ∃ i,live i q:=λhn ⟨i,⟨x,h1,h2⟩,h3⟩=>hn i x h1 h2 h3
 have hatE:∀ {q b sz:Nat},q<RS.length->(∀ (i:Nat) (x:ah),rs[i]?=some x->x.live->π[i]?≠some q)->dt E' q b sz->dt E q b sz:=λhq hn ⟨hh,h1,h2⟩=>⟨hh,by grind,h2⟩
 have notown:∀ {q b sz:Nat} {z:ah},RS[q]?=some z->z.live->(∀ (i:Nat) (x:ah),rs[i]?=some x->x.live->π[i]?≠some q)->dt E q b sz->¬ own b:=by
  rintro q b sz z h1 h2 h3 h4 ⟨i,x,dE,g1,g2,g3⟩
  obtain ⟨q',p1,p2,p3,p4⟩:=L3 g1 g2 g3
  have:=hR.dT q q' _ _ b sz dE h1 p2 h2 p3 h4 p4
  grind
 have hsub:∀ b,AV aA Ti E' b->AV av1 aV e' b:=by
  rintro b (q|⟨q,z,sz,h1,h2,h3⟩)
  .exact .inl ⟨.inl q,hav0 q⟩
  .rcases whr q z h1 with ⟨i,y,_,g2,rfl,g4⟩|⟨g1,g2,g3⟩
   .obtain ⟨hh,h3⟩:=h3
    exact .inr ⟨i,y,sz,g2,ky.1 h2,hh,g4 _ h3.1,h3.2⟩
   .have h4:=hatE g1 g3 h3
    exact .inl ⟨.inr ⟨q,z,sz,g2,h2,h4⟩,notown g2 h2 g3 h4⟩
 have hold:∀ b,b<w.heap.size->¬ own b->w'.heap[b]?=w.heap[b]?:=we.below.block
 have ik:w.heap.size<=w'.heap.size:=we.below.size
 have hkeeps:bl (AV aA RS E) w w':=⟨ik,λb hb hn=>hold b hb λho=>hn (hownAV ho).1⟩
 have fa:∀ b,b<w.heap.size->AV aA Ti E' b->AV aA RS E b:=by
  intro b hb q
  rcases hsub b q with q|⟨i,y,sz,h1,h2,h3⟩
  .exact q.1
  .exact (hownAV ((we.dp i y b sz h1 h2 h3).1.own hb)).1
 have hbig2:=hR.BJ (aV:=Ti) (E':=E') (w':=w') hEle hkeeps (hR.below.grown we.below.os we.below.tape we.below.output ik λk hk hn=>hold k hk λho=>hn (hownAV ho).2.1) fa
  (by show (E.mapIdx val++e'.drop rs.length).length=_; rw [List.length_append,List.length_mapIdx,List.length_drop,hel',hF.len',hEl])
  (by
   intro q z pZ h1 h2
   rcases whr q z h1 with ⟨i,y,_,g2,rfl,g4⟩|⟨g1,g2,g3⟩
   .have:=(zj he').1 (we.roots i y pZ g2 (g4 pZ h2))
    exact ba.mono (Env.le_refl E') (bl.refl _ w') (λb _ q=>hsub b q) (λ_ _ _=>rfl) this
   .rw [hE'in g1 (nolive g3)] at h2
    refine ba.mono hEle hkeeps fa (λhl b hb=>?_) (hR.roots q z pZ g2 h2)
    have ho:dt E q b pZ.2.2:=⟨pZ,h2,rfl,hb⟩
    exact hold b (hR.dp q z b _ g2 hl ho).2 (notown g2 hl g3 ho))
  (by
   intro q z b sz h1 h2 h3
   rcases whr q z h1 with ⟨i,y,_,g2,rfl,g4⟩|⟨g1,g2,g3⟩
   .obtain ⟨hh,h3⟩:=h3
    have hb:=we.dp i y b sz g2 (ky.1 h2) ⟨hh,g4 _ h3.1,h3.2⟩
    exact ⟨⟨hb.1.base,λeW=>(hownAV (hb.1.own (Nat.lt_of_lt_of_le eW hR.below.size))).2.1.own eW⟩,hb.2⟩
   .have hb:=hR.dp q z b sz g2 h2 (hatE g1 g3 h3)
    grind)
  (by
   intro q q' z z' b sz dE h1 nD h2 ig h3 lD
   rcases whr q z h1 with ⟨i,y,p,g2,rfl,g4⟩|⟨g1,g2,g3⟩<;>rcases whr q' z' nD with ⟨i',y',p',Ql,rfl,g4'⟩|⟨g1',Ql,g3'⟩
   .obtain ⟨hh,h3⟩:=h3
    obtain ⟨hh',lD⟩:=lD
    have:=we.dT i i' y y' b sz dE g2 Ql (ky.1 h2) (ky.1 ig) ⟨hh,g4 _ h3.1,h3.2⟩ ⟨hh',g4' _ lD.1,lD.2⟩
    rw [<- p,<- p',this]
   .obtain ⟨hh,h3⟩:=h3
    have h4:=hatE g1' g3' lD
    have hb:=hR.dp q' z' b dE Ql ig h4
    exact ((notown Ql ig g3' h4) ((we.dp i y b sz g2 (ky.1 h2) ⟨hh,g4 _ h3.1,h3.2⟩).1.own hb.2)).elim
   .obtain ⟨hh',lD⟩:=lD
    have h4:=hatE g1 g3 h3
    have hb:=hR.dp q z b sz g2 h2 h4
    exact ((notown g2 h2 g3 h4) ((we.dp i' y' b dE Ql (ky.1 ig) ⟨hh',g4' _ lD.1,lD.2⟩).1.own hb.2)).elim
   .exact hR.dT q q' z z' b sz dE g2 Ql h2 ig (hatE g1 g3 h3) (hatE g1' g3' lD))
 exact ⟨v,E',rfl,hkept,hbig2,bj.mono (Env.le_refl E') (bl.refl _ w') (λb _ q=>hsub b q) ((yM he').1 hd)⟩
theorem bt.gQ (h:bt T P f ds rs d aV) (π:List Nat) (RS:List ah) (vp:jj π=true) (ok:M1 (rX π RS.length) RS π rs aV) :
  bt T P f (qN (N6 (rX π RS.length)) ds) RS (N6 (rX π RS.length) d) (wQ (rX π RS.length) π rs aV RS):=
 h.frm vp (rB vp rfl (λ_ _=>rfl) ok)
end
section
variable {P:Program} {T:ec} {f:FuncId} {ds:List D} {rs:List ah} {d:D}
theorem Qq {q:Nat} {x:ah} {rs:List ah} (h:q<rs.length):place q x rs=rs.set q x:=by
 have e:Nat.beq q rs.length=false:=by
  grind [cE]
 unfold place
 rw [e]
 exact bg _ _ _
theorem zC.gQ {i:Nat} {y:ah} (h:bt T P f ds rs d (rs.set i y)) (π:List Nat) (RS:List ah) (vp:jj π=true) (ok:M1 (rX π RS.length) RS π rs (rs.set i y)) {q:Nat} (hi:π[i]?=some q) (hl:∃ x,rs[i]?=some x/\x.live) :
  zC T P f (qN (N6 (rX π RS.length)) ds) RS (N6 (rX π RS.length) d) q (B8 (rX π RS.length) y):=by
 refine ⟨λRS2 hlen hle=>?_⟩
 have F:=rB (RS:=RS) vp rfl (λ_ _=>rfl) ok
 have hndp:=mG vp
 have hq:q<RS2.length:=by rw [<- hlen]; exact F.lt q (List.mem_of_getElem? hi)
 have hil:i<rs.length:=by grind
 rw [Qq hq]
 rw [hlen]
 rw [hlen] at F
 refine h.frm vp ⟨F.DD,λk hk=>by rw [<- hlen]; exact F.lt k hk,by simp,by simp,λj x h1 h2=>?_,λk hk hout=>?_,λj=>?_,λj hj=>F.dead j hj⟩
 .obtain ⟨k,z,p1,p2,p3,_⟩:=F.img j x h1 h2
  have p2':RS2[k]?=some (B8 (rX π RS2.length) x):=by
   have:=hle k (B8 (rX π RS2.length) x) (by rw [cj]; exact p2) (ky.2 h2)
   rwa [cj] at this
  grind
 all_goals grind
end
open Go.RowKit
section
variable {P:Program} {T:ec} {N:Nat} {aA:Nat->Prop} {w0:Kp} {sp:List (D×Value)} {s s':VS} {a:Act} {w w':World} {E E':Env} {f:FuncId} {b:Frame} {cs:List Frame} {ro:Option Nat} {n0:Nat} {eM:Option Code->VS->Prop} {todo:List Item}
def bA (rs:List ah) (d:D) (aV:List ah) (d1:D) (fB:List ah):Prop:=
 ∃ (π:List Nat) (d2:D) (rT rs3:List ah),TZ rs.length π ⟨[(0,d1,[])],fB,[]⟩=some ⟨[(0,d2,[])],rT,[]⟩/\aF aY rT rs3/\Ends rs d aV d2 rs3
theorem R.am6 {rs aV fB:List ah} {d d1:D} {v:Value} (he:bA rs d aV d1 fB) (eb:∀ x∈sp,kf rs.length x.1=true) (h:R T N aA w0 sp ⟨[],rs,[]⟩ a w E) (h':R T N aA w0 sp ⟨[],fB,[]⟩ a w' E') (hk:Kept E E') (hv:bj E' (AV aA fB E') w' d1 v) :
  ∃ vq,Kept E vq/\R T N aA w0 sp ⟨[],aV,[]⟩ a w' vq/\bj vq (AV aA aV vq) w' d v:=by
 obtain ⟨π,d2,rT,rs3,h1,h2,h3⟩:=he
 have hlE:E.length=rs.length:=h.len
 have hlE':E'.length=fB.length:=h'.len
 have hle:rs.length<=fB.length:=by have:=hk.len; omega
 have hR1:R T 1 aA w0 sp ⟨[(0,d1,[])],fB,[]⟩ { tmps := #[v],defers:=[] } w' E':=⟨rfl,.nil,h'.spec,h'.below,h'.len,h'.outer,h'.roots,h'.dp,h'.dT,λt d c hl=>by
  simp only [look] at hl
  split at hl
  all_goals simp_all,h'.gP⟩
 obtain ⟨E2,g1,g2,g3⟩:=R.renamed h1 eb hle hR1 (λx hx=>by simp at hx; rw [hx])
 have hk2:Kept E E2:=by
  have q1:Kept E (E'.take rs.length):=by
   have:=hk.take rs.length
   grind
  rw [<- g1] at q1
  exact q1.trans (Kept.mv E2 _)
 have hR3:=g2.le (s':=⟨[(0,d2,[])],rs3,[]⟩) g3 ⟨⟨rfl,d2,rfl,aX.refl _⟩,trivial⟩ h2 rfl
 have hv3:bj E2 (AV aA rs3 E2) w' d2 v:=(hR3.slots 0 d2 [] rfl).2.1 λp hp=>by cases hp
 have hR4:R T 1 aA w0 sp ⟨[],rs3,[]⟩ { tmps := #[v],defers:=[] } w' E2:=⟨rfl,.nil,hR3.spec,hR3.below,hR3.len,hR3.outer,hR3.roots,hR3.dp,hR3.dT,λt d c q=>by simp [look] at q,hR3.gP⟩
 have hR0:R T 1 aA w0 sp ⟨[],rs,[]⟩ { tmps := #[v],defers:=[] } w E:=⟨rfl,.nil,h.spec,h.below,h.len,h.outer,h.roots,h.dp,h.dT,λt d c q=>by simp [look] at q,h.gP⟩
 obtain ⟨E3,p1,p2,p3⟩:=hR0.ends (λt d c q=>by simp [look] at q) hR4 hk2 h3 hv3
 have US:aF (λr (d:Deferred)=>∃ b sz,bB E3 r b sz/\d={ target:=.collected b,args := #[] }) [] a.defers:=by
  have:=h'.defers
  revert this
  cases a.defers with
  | nil=>exact λ_=>.nil
  | cons x l=>exact λq=>by cases q
 exact ⟨E3,p1,⟨h'.size,US,p2.spec,p2.below,p2.len,p2.outer,p2.roots,p2.dp,p2.dT,λt d c q=>by simp [look] at q,p2.gP⟩,p3⟩
theorem S6 (bZ:dU P T) {fn:Func} (hf:P.funcs[f]?=some fn) (qc:(fn.name == "runtime.NumGoroutine")=false) {c:Code} (hc:fn.body=some c) {ds:List D} {rs:List ah} {d:D} {aV:List ah} (hlen:ds.length<=fn.ntmps)
  (hg:∀ (b:Frame) (cs:List Frame),b.fn=f->Goal P T fn.ntmps b cs none rs.length (uJ T fn.results.toList (bA rs d aV)) [.code c] ⟨dF 0 ds,rs,[]⟩):bt T P f ds rs d aV:=
 AR bZ hf qc hc hlen (λhq eb h h' hk hv=>R.am6 hq eb h h' hk hv) hg
def Sg (r j q m el sz n:Nat) (get:Nat->Nat->I) (l:List C) (s:VS):VS:={ s with rs:=setAt (setAt s.rs q .dead) r (.box (setAt l j (.sa s.rs.length m)))++[.arr el sz n get] }
theorem Goal.Eu {r j q m el sz n:Nat} {get:Nat->Nat->I} {l:List C} (hr:bh s.rs r=some (.box l)) (hj:bh l j=some (.sa q m)) (hq:bh s.rs q=some (.arr el sz n get)) (g:Goal P T N b cs ro n0 eM todo (Sg r j q m el sz n get l s)):Goal P T N b cs ro n0 eM todo s:=
 g.ghost λaA w0 sp a w E eb vo hR hn=>by
  rw [cj] at hr hj hq
  have hrl:r<s.rs.length:=(List.getElem?_eq_some_iff.1 hr).1
  have hql:q<s.rs.length:=(List.getElem?_eq_some_iff.1 hq).1
  have hrq:r≠q:=by grind
  have hqE:q<E.length:=by rw [hR.len]; exact hql
  let e:=E[q]
  have he:E[q]?=some e:=ib hqE
  let E':Env:=E++[e]
  have hEle:=Env.ey E [e]
  let fB:=(s.rs.set q .dead).set r (.box (setAt l j (.sa s.rs.length m)))
  have hl1:fB.length=s.rs.length:=by simp [fB]
  have jQ:∀ {k bb z:Nat},dt E' k bb z->(k<s.rs.length/\dt E k bb z)∨(k=s.rs.length/\dt E q bb z):=by
   rintro k bb z ⟨hh,h1,h9⟩
   rcases Nat.lt_or_ge k E.length with hk|hk
   .rw [iz hk] at h1
    exact .inl ⟨by rw [<- hR.len]; exact hk,hh,h1,h9⟩
   .rw [nv hk] at h1
    rcases Nat.eq_zero_or_pos (k-E.length) with e0|e0
    .rw [e0] at h1
     simp at h1
     refine .inr ⟨by rw [<- hR.len]; omega,hh,?_,h9⟩
     rw [he,h1]
    grind
  have key:∀ (k:Nat) (y:ah) (bb z:Nat),(fB++[ah.arr el sz n get])[k]?=some y->y.live->dt E' k bb z->∃ k0 x,s.rs[k0]?=some x/\x.live/\dt E k0 bb z/\k0=(if k=s.rs.length then q else k)/\(k≠s.rs.length->k≠q):=by
   intro k y bb z h1 h2 h3
   rcases jQ h3 with ⟨hk,h4⟩|⟨hk,h4⟩
   .rw [iz (by rw [hl1]; exact hk)] at h1
    have qG:k≠s.rs.length:=by omega
    have hkq:k≠q:=by
     intro e0
     subst e0
     simp only [fB] at h1
     rw [jv,if_neg hrq,jv,if_pos rfl,if_pos hql] at h1
     simp only [aw] at h1
     subst h1; exact h2
    refine ⟨k,?_⟩
    rw [if_neg qG]
    by_cases hkr:r=k
    .subst hkr
     exact ⟨_,hr,trivial,h4,rfl,λ_=>hkq⟩
    grind
   grind
  have fa:∀ bb,AV aA (fB++[ah.arr el sz n get]) E' bb->AV aA s.rs E bb:=by
   rintro bb (h1|⟨k,y,z,h1,h2,h3⟩)
   .exact .inl h1
   .obtain ⟨k0,x,g1,g2,g3,_⟩:=key k y bb z h1 h2 h3
    exact .inr ⟨k0,x,z,g1,g2,g3⟩
  have hR2:=hR.BJ (aV:=fB++[ah.arr el sz n get]) (E':=E') (w':=w) hEle (bl.refl _ w) hR.below (λbb _ h1=>fa bb h1) (by simp [E',hl1,hR.len])
   (by
    intro k y pZ h1 h2
    rcases Nat.lt_or_ge k s.rs.length with hk|hk
    .rw [iz (by rw [hl1]; exact hk)] at h1
     have h2:(E++[e])[k]?=some pZ:=h2
     rw [iz (by rw [hR.len]; exact hk)] at h2
     simp only [fB] at h1
     by_cases hkr:r=k
     .subst hkr
      rw [jv,if_pos rfl,if_pos (by simpa using hrl)] at h1
      simp only [aw] at h1
      subst h1
      obtain ⟨bb,vs,Tc,p1,p2,p3,p4⟩:=ba.mono (dx:=AV aA (fB++[ah.arr el sz n get]) E') hEle (bl.refl _ w) (λb _ h=>fa b h) (λ_ _ _=>rfl) (hR.roots r _ pZ hr h2)
      refine ⟨bb,vs,Tc,p1,by rw [bg]; simpa using p2,p3,?_⟩
      rw [bg]
      refine aF.wU (by simpa using p4.length) λi x v hx hv=>?_
      rw [jv] at hx
      split at hx
      .rename_i hji
       subst hji
       split at hx
       .simp only [aw] at hx
        subst hx
        obtain ⟨e',a',n',cap,q1,q2,q3,q4⟩:=p4.get hj hv
        have q1:(E++[e])[q]?=some e':=q1
        rw [iz hqE,he] at q1
        refine ⟨e,a',n',cap,?_,?_,q3,q4⟩
        .show (E++[e])[s.rs.length]?=some e
         rw [<- hR.len]; simp
        grind
       .simp at hx
      .exact p4.get hx hv
     .rw [jv,if_neg hkr,jv] at h1
      split at h1
      .first
       | (simp only [aw] at h1; subst h1; trivial)
       | (split at h1
          .simp only [aw] at h1; subst h1; trivial
          .simp at h1)
      .exact ba.mono hEle (bl.refl _ w) (λb _ h=>fa b h) (λ_ _ _=>rfl) (hR.roots k y pZ h1 h2)
    .rw [nv (by rw [hl1]; exact hk),hl1] at h1
     rcases Nat.eq_zero_or_pos (k-s.rs.length) with e0|e0
     .rw [e0] at h1
      simp at h1
      have hk0:k=s.rs.length:=by omega
      subst hk0
      have h2:(E++[e])[s.rs.length]?=some pZ:=h2
      rw [<- hR.len] at h2
      simp at h2
      subst h1 h2
      exact ba.mono hEle (bl.refl _ w) (λb _ h=>fa b h) (λ_ _ _=>rfl) (hR.roots q _ e hq he)
     grind)
   (by
    intro k y bb z h1 h2 h3
    obtain ⟨k0,x,g1,g2,g3,_⟩:=key k y bb z h1 h2 h3
    exact hR.dp k0 x bb z g1 g2 g3)
   (by
    intro k k' y y' bb z z' h1 nD h2 ig h3 lD
    obtain ⟨k0,x,g1,g2,g3,g4,g5⟩:=key k y bb z h1 h2 h3
    obtain ⟨k0',x',g1',Ql,g3',g4',g5'⟩:=key k' y' bb z' nD ig lD
    have:=hR.dT k0 k0' x x' bb z z' g1 g1' g2 Ql g3 g3'
    grind)
  refine ⟨E',?_,?_,hn⟩
  .show (E++[e]).take n0=_
   rw [List.take_append_of_le_length (by rw [hR.len]; exact vo)]
  grind [Sg,bg]
end
section
variable {P:Program} {T:ec} {N:Nat} {b:Frame} {cs:List Frame} {ro:Option Nat} {n0:Nat} {eM:Option Code->VS->Prop} {todo:List Item} {s s':VS} {aA:Nat->Prop} {w0:Kp} {sp:List (D×Value)} {a:Act} {w:World} {E:Env}
theorem Goal.Fz (g:Goal P T N b cs ro n0 eM todo s') (h:∀ aA w0 sp a w E,(∀ x∈sp,kf n0 x.1=true)->n0<=s.rs.length->R T N aA w0 sp s a w E->bT s.sl->∃ E',Kept (E.take n0) (E'.take n0)/\n0<=s'.rs.length/\R T N aA w0 sp s' a w E'/\bT s'.sl):Goal P T N b cs ro n0 eM todo s:=by
 intro aA w0 sp a w E vo eb Jv hR hn
 obtain ⟨E',h1,hl,h2,h3⟩:=h aA w0 sp a w E eb vo hR hn
 obtain ⟨j,s2,a2,w2,E2,t2,q1,q2⟩:=g aA w0 sp a w E' hl eb (Jv.mono h1.le) h2 h3
 exact ⟨j,s2,a2,w2,E2,t2,h1.trans q1,q2⟩
def aR (x y:Fc):Prop:=∀ (E:Env) (av:Nat->Prop) (base:Nat) (w:World) (K:Nat->Prop) (v:Value),jq E av base w x K v->jq E av base w y K v
theorem aR.refl (x:Fc):aR x x:=λ_ _ _ _ _ _ h=>h
theorem aR.aB (x:I):aR (.c (.im x)) (.o (.im x)):=λ_ _ _ _ _ _ h=>h
theorem aR.im {x y:I} (h:cD x y):aR (.o (.im x)) (.o (.im y)):=λ_ av _ w _ v q=>h av w v q
theorem Dj {el sz n:Nat} {get get':Nat->Nat->O} {eI mV:Option (Nat×List Fc)} (hf:∀ x,mV=some x->x.1<n/\x.2.length=sz) (h:∀ i,i<n->∀ j,j<sz->∀ c,gy get eI i j=some c->∃ c',gy get' mV i j=some c'/\aR c c')
  {E:Env} {av:Nat->Prop} {base:Nat} {w:World} {e:fG} (hr:ba E av base w e (.bo el sz n get eI)):ba E av base w e (.bo el sz n get' mV):=by
 obtain ⟨p1,p2,xs,p3,Ks,p4,_,p5⟩:=hr
 refine ⟨p1,p2,xs,p3,Ks,p4,hf,λi hi j hj=>?_⟩
 obtain ⟨x,c,q1,q2,q3⟩:=p5 i hi j hj
 obtain ⟨c',q4,q5⟩:=h i hi j hj c q2
 exact ⟨x,c',q1,q4,q5 _ _ _ _ _ _ q3⟩
theorem Goal.bo {r el sz n:Nat} {get get':Nat->Nat->O} {eI mV:Option (Nat×List Fc)} (hr:bh s.rs r=some (.bo el sz n get eI)) (hf:∀ x,mV=some x->x.1<n/\x.2.length=sz)
  (h:∀ i,i<n->∀ j,j<sz->∀ c,gy get eI i j=some c->∃ c',gy get' mV i j=some c'/\aR c c')
  (g:Goal P T N b cs ro n0 eM todo { s with rs:=setAt s.rs r (.bo el sz n get' mV) }):Goal P T N b cs ro n0 eM todo s:=
 Goal.swap (x:=.bo el sz n get eI) hr (λ_=>trivial) (λbase E w e av q=>Dj hf h q) g
theorem N5 {el sz n:Nat} {get:Nat->Nat->I} {get':Nat->Nat->O} (h:∀ i,i<n->∀ j,j<sz->get' i j=.im (get i j)) {E:Env} {av:Nat->Prop} {base:Nat} {w:World} {e:fG} (hr:ba E av base w e (.arr el sz n get)):ba E av base w e (.bo el sz n get' none):=by
 obtain ⟨p1,p2,xs,p3,p4⟩:=hr
 refine ⟨p1,p2,xs,p3,λ_ _ _=>False,⟨λ_ _ _ q=>q.elim,λ_ _ _ q=>q.elim,λ_ _ _ _ _ q=>q.elim⟩,λx hx=>(by cases hx),λi hi j hj=>?_⟩
 obtain ⟨x,q1,q2⟩:=p4 i hi j hj
 refine ⟨x,_,q1,rfl,?_⟩
 rw [h i hi j hj]
 exact q2
theorem Goal.vG {r el sz n:Nat} {get:Nat->Nat->I} {get':Nat->Nat->O} (hr:bh s.rs r=some (.arr el sz n get)) (h:∀ i,i<n->∀ j,j<sz->get' i j=.im (get i j))
  (g:Goal P T N b cs ro n0 eM todo { s with rs:=setAt s.rs r (.bo el sz n get' none) }):Goal P T N b cs ro n0 eM todo s:=
 Goal.swap (x:=.arr el sz n get) hr (λ_=>trivial) (λbase E w e av q=>N5 h q) g
def toF:O->Fc:=O.rec (λx=>.c (.im x)) (λe sz n get=>.o (.ar e sz n get)) (λe sz n get _=>.o (.ns e sz n get))
def gu (f:Nat->O) (n:Nat):Nat->List Fc:=Nat.rec (λ_=>[]) (λ_ ih j=>toF (f j)::ih (j+1)) n
theorem aI8 (x:O):aR (.o x) (toF x):=by cases x<;>exact λ_ _ _ _ _ _ h=>h
theorem HM (f:Nat->O):∀ (n j:Nat),(gu f n j).length=n
 | 0,_=>rfl
 | n+1,j=>by show (toF (f j)::gu f n (j+1)).length=_; rw [List.length_cons,HM f n]
theorem HT (f:Nat->O):∀ (n j k:Nat),k<n->(gu f n j)[k]?=some (toF (f (j+k)))
 | 0,_,_,h=>by omega
 | n+1,j,0,_=>rfl
 | n+1,j,k+1,h=>by
   show (toF (f j)::gu f n (j+1))[k+1]?=_
   rw [List.getElem?_cons_succ,HT f n (j+1) k (by omega),show j+1+k=j+(k+1) by omega]
theorem Goal.focus {r k el sz n:Nat} {get:Nat->Nat->O} (hr:bh s.rs r=some (.bo el sz n get none)) (hk:k<n)
  (g:Goal P T N b cs ro n0 eM todo { s with rs:=setAt s.rs r (.bo el sz n get (some (k,gu (get k) sz 0))) }):Goal P T N b cs ro n0 eM todo s:=
 Goal.bo hr (λx hx=>by grind [HM]) (λi hi j hj c hc=>by
  grind [gy,Nat.eq_of_beq_eq_true,bz,HT,aI8,aR.refl]) g
theorem fx.aA3 {av:Nat->Prop} {base:Nat} {w:World} {x:O} {K K':Nat->Prop} {v:Value} (hK:∀ b,K b->K' b) (h:fx av base w x K v):fx av base w x K' v:=by
 cases x with
 | im x=>exact h
 | ar el sz n get=>exact ⟨λb q=>hK b (h.1 b q),h.2⟩
 | ns el sz n get=>
   obtain ⟨h0,xs,h1,Ks,hp,h2⟩:=h
   exact ⟨λb q=>hK b (h0 b q),xs,h1,Ks,⟨λi j b q=>hK b (hp.sub i j b q),hp.ne,hp.inj⟩,h2⟩
theorem En {get:Nat->Nat->O} {k:Nat} {l:List Fc} {j:Nat}:gy get (some (k,l)) k j=l[j]?:=by
 unfold gy
 simp only [dv,bz]
theorem Ih {get:Nat->Nat->O} {k:Nat} {l:List Fc} {j:Nat} {x:Fc} (hj:j<l.length) (i' j':Nat):(i'=k/\j'=j/\gy get (some (k,l.set j x)) i' j'=some x)∨(¬ (i'=k/\j'=j)/\gy get (some (k,l.set j x)) i' j'=gy get (some (k,l)) i' j'):=by
 grind [En,gy,Nat.eq_of_beq_eq_true]
def iq:O->ah
 | .im _=>.dead
 | .ar e sz n get=>.arr e sz n get
 | .ns e sz n get=>.bo e sz n get none
def ml:O->Nat
 | .im _=>0
 | .ar _ _ n _=>n
 | .ns _ _ n _=>n
theorem fx.root {av:Nat->Prop} {base:Nat} {w:World} {x:O} (hx:(iq x).live) {K:Nat->Prop} {v:Value} (h:fx av base w x K v) :
  ∃ (a:Option Addr) (cap sz:Nat),v=.slice a (ml x) cap/\(∀ b,v.ownBlock=some b->K b)/\∀ E:Env,ba E av base w (v.ownBlock,(v,λb=>K b/\v.ownBlock≠some b),sz) (iq x):=by
 cases x with
 | im x=>exact hx.elim
 | ar el sz n get=>
   obtain ⟨h0,xs,h1,h2⟩:=h
   obtain ⟨ao,cap,rfl⟩:=dh h1
   exact ⟨ao,cap,sz,rfl,h0,λE=>⟨rfl,rfl,xs,h1,h2⟩⟩
 | ns el sz n get=>
   obtain ⟨h0,xs,h1,Ks,hp,h2⟩:=h
   obtain ⟨ao,cap,rfl⟩:=dh h1
   refine ⟨ao,cap,sz,rfl,h0,λE=>⟨rfl,rfl,xs,h1,Ks,⟨λi j b q=>⟨hp.sub i j b q,hp.ne i j b q⟩,hp.ne,hp.inj⟩,λx hx=>(by cases hx),λi hi j hj=>?_⟩⟩
   obtain ⟨x,q1,q2⟩:=h2 i hi j hj
   exact ⟨x,_,q1,rfl,q2⟩
theorem R.open (h:R T N aA w0 sp s a w E) {r k j el sz n:Nat} {get:Nat->Nat->O} {l:List Fc} {x:O} (hr:s.rs[r]?=some (.bo el sz n get (some (k,l)))) (hj:l[j]?=some (.o x)) (hx:(iq x).live) :
  ∃ E',Kept E E'/\R T N aA w0 sp { s with rs:=s.rs.set r (.bo el sz n get (some (k,l.set j (.c (.sa s.rs.length (ml x))))))++[iq x] } a w E':=by
 have hrl:r<s.rs.length:=(List.getElem?_eq_some_iff.1 hr).1
 have hrE:r<E.length:=by rw [h.len]; exact hrl
 have he:=ib hrE
 generalize hee:E[r]=e at he
 obtain ⟨p1,p2,xs,p3,Ks,p4,pf,p5⟩:=h.roots r _ _ hr he
 obtain ⟨f1,f2⟩:=pf _ rfl
 have f1:k<n:=f1
 have f2:l.length=sz:=f2
 have hjl:j<l.length:=(List.getElem?_eq_some_iff.1 hj).1
 obtain ⟨v,c,g1,g2,g3⟩:=p5 k f1 j (by omega)
 rw [En,hj] at g2
 simp only [aw] at g2
 subst g2
 obtain ⟨ao,cap,Y9,hv,eP,hroot⟩:=fx.root hx (show fx (AV aA s.rs E) w0.base w x (Ks k j) v from g3)
 have qG:e≠hole:=by
  grind [dh,fG.NY]
 let K1:Nat->Prop:=λb=>e.2.1.2 b/\¬ Ks k j b
 let e1:fG:=e.wk K1
 let e2:fG:=(v.ownBlock,(v,λb=>Ks k j b/\v.ownBlock≠some b),Y9)
 let E':Env:=E.set r e1++[e2]
 have hEl:(E.set r e1).length=s.rs.length:=by rw [List.length_set,h.len]
 have hE'r:E'[r]?=some e1:=by
  grind
 have hE'q:∀ {q:Nat},q<s.rs.length->q≠r->E'[q]?=E[q]?:=λ{q} hq hn=>by
  grind
 have hE'p:E'[s.rs.length]?=some e2:=by
  grind
 have hE'o:∀ {q:Nat} {y:fG},E'[q]?=some y->q<=s.rs.length:=λ{q y} hq=>by
  grind
 have hle:Env.le E E':=λq y h1 h2=>by
  have hq:q<s.rs.length:=by grind
  by_cases hqr:q=r
  .subst hqr
   rw [he] at h1
   simp only [aw] at h1
   subst h1
   exact ⟨K1,hE'r,λe3=>by
    have:=congrArg (λz:fG=>z.2.1.1) e3
    obtain ⟨a2,c2,h4⟩:=dh p3
    have h5:e.2.1.1=undef:=this
    rw [h4] at h5
    simp [undef] at h5⟩
  .exact ⟨y.2.1.2,by rw [hE'q hq hqr]; exact h1,h2⟩
 have hkept:Kept E E':=⟨hle,λq h1=>by
  grind⟩
 refine ⟨E',hkept,?_⟩
 let y1:ah:=.bo el sz n get (some (k,l.set j (.c (.sa s.rs.length (ml x)))))
 have key:∀ (q:Nat) (y:ah) (bb z:Nat),(s.rs.set r y1++[iq x])[q]?=some y->y.live->dt E' q bb z->
   (q≠r/\q<s.rs.length/\s.rs[q]?=some y/\dt E q bb z)∨(q=r/\e.has bb/\¬ Ks k j bb)∨(q=s.rs.length/\Ks k j bb):=by
  rintro q y bb z h1 h2 ⟨pZ,h3,h4,h5⟩
  rcases Nat.lt_trichotomy q s.rs.length with hq|hq|hq
  .rw [iz (by grind),jv] at h1
   by_cases hqr:r=q
   .subst hqr
    rw [hE'r] at h3
    simp only [aw] at h3
    subst h3
    refine .inr (.inl ⟨rfl,?_⟩)
    rcases h5 with h5|h5
    .have h5:e.1=some bb:=h5
     exact ⟨.inl h5,λq=>p4.ne k j bb q (p2.symm.trans h5)⟩
    .exact ⟨.inr h5.1,h5.2⟩
   .rw [if_neg hqr] at h1
    rw [hE'q hq (λe=>hqr e.symm)] at h3
    exact .inl ⟨λe=>hqr e.symm,hq,h1,pZ,h3,h4,h5⟩
  .subst hq
   rw [hE'p] at h3
   simp only [aw] at h3
   subst h3
   refine .inr (.inr ⟨rfl,?_⟩)
   rcases h5 with h5|h5
   all_goals grind
  .have:=hE'o h3; omega
 have hKe:∀ {bb:Nat},Ks k j bb->e.has bb:=λq=>.inr (p4.sub k j _ q)
 have hrown:∀ {bb:Nat},e.has bb->dt E r bb e.2.2:=λq=>⟨e,he,rfl,q⟩
 have fa:∀ bb,AV aA (s.rs.set r y1++[iq x]) E' bb->AV aA s.rs E bb:=by
  rintro bb (q|⟨q,y,z,h1,h2,h3⟩)
  .exact .inl q
  .rcases key q y bb z h1 h2 h3 with ⟨_,_,g5,g6⟩|⟨_,g5,_⟩|⟨_,g5⟩
   .exact .inr ⟨q,y,z,g5,h2,g6⟩
   .exact .inr ⟨r,_,_,hr,trivial,hrown g5⟩
   .exact .inr ⟨r,_,_,hr,trivial,hrown (hKe g5)⟩
 refine h.BJ (aV:=s.rs.set r y1++[iq x]) hle (bl.refl _ w) h.below (λbb _ q=>fa bb q) (by grind) ?_ ?_ ?_
 .intro q y pZ h1 h2
  rcases Nat.lt_trichotomy q s.rs.length with hq|hq|hq
  .rw [iz (by grind),jv] at h1
   by_cases hqr:r=q
   .subst hqr
    rw [if_pos rfl,if_pos hrl] at h1
    simp only [aw] at h1
    subst h1
    rw [hE'r] at h2
    simp only [aw] at h2
    subst h2
    refine ⟨p1,p2,xs,p3,λi' j' bb=>Ks i' j' bb/\¬ (i'=k/\j'=j),⟨λi' j' bb q=>⟨p4.sub _ _ _ q.1,λq2=>q.2 (p4.inj _ _ _ _ _ q.1 q2)⟩,λi' j' bb q=>p4.ne _ _ _ q.1,λi1 j1 i2 j2 bb q1 q2=>p4.inj _ _ _ _ _ q1.1 q2.1⟩,λz hz=>?_,λi' nA j' hj'=>?_⟩
    .grind
    .rcases Ih (get:=get) (k:=k) (x:=.c (.sa s.rs.length (ml x))) hjl i' j' with ⟨rfl,rfl,q3⟩|⟨q2,q3⟩
     .exact ⟨v,_,g1,q3,e2,ao,ml x,cap,hE'p,hv,bF _,hv⟩
     .obtain ⟨v',c',r1,r2,r3⟩:=p5 i' nA j' hj'
      refine ⟨v',c',r1,by rw [q3]; exact r2,?_⟩
      have:=jq.mono (E':=E') (dx:=AV aA (s.rs.set r y1++[iq x]) E') hle (bl.refl _ w) (λbb _ q=>fa bb q) (λ_ _=>rfl) r3
      simp_all
   .rw [if_neg hqr] at h1
    rw [hE'q hq (λe=>hqr e.symm)] at h2
    exact ba.mono hle (bl.refl _ w) (λbb _ q=>fa bb q) (λ_ _ _=>rfl) (h.roots q y pZ h1 h2)
  .subst hq
   rw [hE'p] at h2
   simp only [aw] at h2
   subst h2
   rw [nv (by grind),List.length_set] at h1
   simp at h1
   subst h1
   exact ba.mono hle (bl.refl _ w) (λbb _ q=>fa bb q) (λ_ _ _=>rfl) (hroot E)
  .have:=hE'o h2; omega
 .intro q y bb z h1 h2 h3
  rcases key q y bb z h1 h2 h3 with ⟨_,_,g5,g6⟩|⟨_,g5,_⟩|⟨_,g5⟩
  .exact h.dp q y bb z g5 h2 g6
  .exact h.dp r _ bb _ hr trivial (hrown g5)
  .exact h.dp r _ bb _ hr trivial (hrown (hKe g5))
 .intro q q' y y' bb z z' h1 nD h2 ig h3 lD
  rcases key q y bb z h1 h2 h3 with ⟨g4,_,g5,g6⟩|⟨g4,g5,g6⟩|⟨g4,g5⟩<;>rcases key q' y' bb z' nD ig lD with ⟨g4',_,g5',g6'⟩|⟨g4',g5',g6'⟩|⟨g4',g5'⟩
  .exact h.dT q q' y y' bb z z' g5 g5' h2 ig g6 g6'
  .exact (g4 (h.dT q r y _ bb z _ g5 hr h2 trivial g6 (hrown g5'))).elim
  .exact (g4 (h.dT q r y _ bb z _ g5 hr h2 trivial g6 (hrown (hKe g5')))).elim
  .exact (g4' (h.dT q' r y' _ bb z' _ g5' hr ig trivial g6' (hrown g5))).elim
  .rw [g4,g4']
  .exact (g6 g5').elim
  .exact (g4' (h.dT q' r y' _ bb z' _ g5' hr ig trivial g6' (hrown (hKe g5)))).elim
  all_goals grind
def PO:ah->Option O
 | .arr e sz n get=>some (.ar e sz n get)
 | .bo e sz n get none=>some (.ns e sz n get)
 | _=>none
theorem IG {x:ah} {o:O} (h:PO x=some o):x.live:=by
 unfold PO at h
 split at h<;>first|trivial|simp at h
theorem fx.NL {E:Env} {av:Nat->Prop} {base:Nat} {w:World} {e:fG} {x:ah} {o:O} (ho:PO x=some o) (h:ba E av base w e x) {m:Nat} (hm:m=ml o) {v:Value} {ao:Option Addr} {n cap:Nat} (h2:e.2.1.1=.slice ao n cap) (hv:v=.slice ao m cap) :
  v=e.2.1.1/\fx av base w o e.has v:=by
 unfold PO at ho
 split at ho
 .simp only [aw] at ho
  subst ho
  obtain ⟨p1,p2,xs,p3,p4⟩:=h
  obtain ⟨a2,c2,h3⟩:=dh p3
  have hve:v=e.2.1.1:=by
   rw [hv,h2]; rw [h2] at h3; simp only [jw] at h3; rw [h3.2.1,hm]; rfl
  subst hve
  exact ⟨rfl,λb q=>.inl (p2.trans q),xs,p3,p4⟩
 .simp only [aw] at ho
  subst ho
  obtain ⟨p1,p2,xs,p3,Ks,p4,_,p5⟩:=h
  obtain ⟨a2,c2,h3⟩:=dh p3
  have hve:v=e.2.1.1:=by
   rw [hv,h2]; rw [h2] at h3; simp only [jw] at h3; rw [h3.2.1,hm]; rfl
  subst hve
  refine ⟨rfl,λb q=>.inl (p2.trans q),xs,p3,Ks,⟨λi j b q=>.inr (p4.sub i j b q),p4.ne,p4.inj⟩,λi hi j hj=>?_⟩
  obtain ⟨x,c,q1,q2,q3⟩:=p5 i hi j hj
  simp only [gy,aw] at q2
  subst q2
  exact ⟨x,q1,q3⟩
 .simp at ho
theorem R.close (h:R T N aA w0 sp s a w E) {r q m k j el sz n:Nat} {get:Nat->Nat->O} {l:List Fc} {x:ah} {o:O} (hr:s.rs[r]?=some (.bo el sz n get (some (k,l)))) (hj:l[j]?=some (.c (.sa q m))) (hq:s.rs[q]?=some x) (ho:PO x=some o) (hm:m=ml o) (hrq:r≠q) :
  ∃ E',E'.length=E.length/\(∀ i,i≠r->E'[i]?=E[i]?)/\Kept E E'/\R T N aA w0 sp { s with rs:=(s.rs.set q .dead).set r (.bo el sz n get (some (k,l.set j (.o o)))) } a w E':=by
 have hx:=IG ho
 have hrl:r<s.rs.length:=(List.getElem?_eq_some_iff.1 hr).1
 have hql:q<s.rs.length:=(List.getElem?_eq_some_iff.1 hq).1
 have hrE:r<E.length:=by rw [h.len]; exact hrl
 have hqE:q<E.length:=by rw [h.len]; exact hql
 have he:=ib hrE
 generalize hee:E[r]=e at he
 have heq:=ib hqE
 generalize heeq:E[q]=eq at heq
 obtain ⟨p1,p2,xs,p3,Ks,p4,pf,p5⟩:=h.roots r _ _ hr he
 obtain ⟨f1,f2⟩:=pf _ rfl
 have f1:k<n:=f1
 have f2:l.length=sz:=f2
 have hjl:j<l.length:=(List.getElem?_eq_some_iff.1 hj).1
 obtain ⟨v,c,g1,g2,g3⟩:=p5 k f1 j (by omega)
 rw [En,hj] at g2
 simp only [aw] at g2
 subst g2
 obtain ⟨e0,ao,n',cap,g4,g5,g6,g7⟩:=g3
 rw [heq] at g4
 simp only [aw] at g4
 subst g4
 obtain ⟨hve,hO⟩:=fx.NL ho (h.roots q _ _ hq heq) hm g5 g7
 have qG:e≠hole:=by
  grind [dh,fG.NY]
 have eP:∀ {bb:Nat},eq.has bb->dt E q bb eq.2.2:=λq=>⟨eq,heq,rfl,q⟩
 have hrown:∀ {bb:Nat},e.has bb->dt E r bb e.2.2:=λq=>⟨e,he,rfl,q⟩
 have apart:∀ {bb:Nat},e.has bb->¬ eq.has bb:=λh1 h2=>hrq (h.dT r q _ _ _ _ _ hr hq trivial hx (hrown h1) (eP h2))
 let K1:Nat->Prop:=λb=>e.2.1.2 b∨eq.has b
 let e1:fG:=e.wk K1
 let E':Env:=E.set r e1
 have hEl:E'.length=E.length:=List.length_set
 have hE'r:E'[r]?=some e1:=by
  grind
 have hE'q:∀ {i:Nat},i≠r->E'[i]?=E[i]?:=λ{i} hn=>by
  grind
 have hle:Env.le E E':=λi y h1 h2=>by
  by_cases hqr:i=r
  .subst hqr
   rw [he] at h1
   simp only [aw] at h1
   subst h1
   exact ⟨K1,hE'r,λe3=>by
    have:=congrArg (λz:fG=>z.2.1.1) e3
    obtain ⟨a2,c2,h4⟩:=dh p3
    have h5:e.2.1.1=undef:=this
    rw [h4] at h5
    simp [undef] at h5⟩
  .exact ⟨y.2.1.2,by rw [hE'q hqr]; exact h1,h2⟩
 have hkept:Kept E E':=⟨hle,λi h1=>by
  grind⟩
 refine ⟨E',hEl,λi hi=>hE'q hi,hkept,?_⟩
 let y1:ah:=.bo el sz n get (some (k,l.set j (.o o)))
 have key:∀ (i:Nat) (y:ah) (bb z:Nat),((s.rs.set q .dead).set r y1)[i]?=some y->y.live->dt E' i bb z->
   (i≠r/\i≠q/\s.rs[i]?=some y/\dt E i bb z)∨(i=r/\(e.has bb∨eq.has bb)):=by
  rintro i y bb z h1 h2 ⟨pZ,h3,h4,h5⟩
  by_cases hir:i=r
  .subst hir
   rw [hE'r] at h3
   simp only [aw] at h3
   subst h3
   refine .inr ⟨rfl,?_⟩
   rcases h5 with h5|h5
   .exact .inl (.inl h5)
   .rcases h5 with h5|h5
    .exact .inl (.inr h5)
    .exact .inr h5
  .rw [jv,if_neg (λe=>hir e.symm),jv] at h1
   by_cases hiq:q=i
   .rw [if_pos hiq] at h1
    subst hiq
    rw [if_pos hql] at h1
    simp only [aw] at h1
    subst h1
    exact h2.elim
   .rw [if_neg hiq] at h1
    rw [hE'q hir] at h3
    exact .inl ⟨hir,λe=>hiq e.symm,h1,pZ,h3,h4,h5⟩
 have fa:∀ bb,AV aA ((s.rs.set q .dead).set r y1) E' bb->AV aA s.rs E bb:=by
  rintro bb (h1|⟨i,y,z,h1,h2,h3⟩)
  .exact .inl h1
  .rcases key i y bb z h1 h2 h3 with ⟨_,_,g5,g6⟩|⟨_,g5|g5⟩
   .exact .inr ⟨i,y,z,g5,h2,g6⟩
   .exact .inr ⟨r,_,_,hr,trivial,hrown g5⟩
   .exact .inr ⟨q,_,_,hq,hx,eP g5⟩
 refine h.BJ (aV:=(s.rs.set q .dead).set r y1) hle (bl.refl _ w) h.below (λbb _ q=>fa bb q) (by rw [hEl,List.length_set,List.length_set,h.len]) ?_ ?_ ?_
 .intro i y pZ h1 h2
  by_cases hir:i=r
  .subst hir
   rw [jv,if_pos rfl,if_pos (by grind)] at h1
   simp only [aw] at h1
   subst h1
   rw [hE'r] at h2
   simp only [aw] at h2
   subst h2
   refine ⟨p1,p2,xs,p3,λi' j' bb=>(i'=k/\j'=j/\eq.has bb)∨(¬ (i'=k/\j'=j)/\Ks i' j' bb),⟨?_,?_,?_⟩,λz hz=>?_,λi' nA j' hj'=>?_⟩
   .rintro i' j' bb (⟨_,_,q3⟩|⟨_,q3⟩)
    .exact .inr q3
    .exact .inl (p4.sub _ _ _ q3)
   .rintro i' j' bb (⟨_,_,q3⟩|⟨_,q3⟩) q4
    .exact apart (.inl (p2.trans q4)) q3
    .exact p4.ne _ _ _ q3 q4
   .rintro i1 j1 i2 j2 bb (⟨a1,a2,a3⟩|⟨a1,a2⟩) (⟨b1,b2,b3⟩|⟨b1,b2⟩)
    .grind
    .exact (apart (.inr (p4.sub _ _ _ b2)) a3).elim
    .exact (apart (.inr (p4.sub _ _ _ a2)) b3).elim
    .exact p4.inj _ _ _ _ _ a2 b2
   .grind
   .rcases Ih (get:=get) (k:=k) (x:=.o o) hjl i' j' with ⟨rfl,rfl,q3⟩|⟨q2,q3⟩
    .refine ⟨v,_,g1,q3,?_⟩
     exact fx.aA3 (λbb q=>.inl ⟨rfl,rfl,q⟩) (fx.mono (bl.refl _ w) (λbb _ q=>fa bb q) (λ_ _=>rfl) hO)
    .obtain ⟨v',c',r1,r2,r3⟩:=p5 i' nA j' hj'
     refine ⟨v',c',r1,by rw [q3]; exact r2,?_⟩
     have:=jq.mono (E':=E') (dx:=AV aA ((s.rs.set q .dead).set i y1) E') hle (bl.refl _ w) (λbb _ q=>fa bb q) (λ_ _=>rfl) r3
     cases c' with
     | c z=>exact this
     | o z=>exact fx.aA3 (λbb q=>.inr ⟨q2,q⟩) this
  .rw [jv,if_neg (λe=>hir e.symm),jv] at h1
   by_cases hiq:q=i
   .rw [if_pos hiq] at h1
    subst hiq
    rw [if_pos hql] at h1
    simp only [aw] at h1
    subst h1
    trivial
   .rw [if_neg hiq] at h1
    rw [hE'q hir] at h2
    exact ba.mono hle (bl.refl _ w) (λbb _ q=>fa bb q) (λ_ _ _=>rfl) (h.roots i y pZ h1 h2)
 .intro i y bb z h1 h2 h3
  rcases key i y bb z h1 h2 h3 with ⟨_,_,g5,g6⟩|⟨_,g5|g5⟩
  .exact h.dp i y bb z g5 h2 g6
  .exact h.dp r _ bb _ hr trivial (hrown g5)
  .exact h.dp q _ bb _ hq hx (eP g5)
 .intro i i' y y' bb z z' h1 nD h2 ig h3 lD
  rcases key i y bb z h1 h2 h3 with ⟨g4,g8,g5,g6⟩|⟨g4,g5|g5⟩<;>rcases key i' y' bb z' nD ig lD with ⟨g4',g8',g5',g6'⟩|⟨g4',g5'|g5'⟩
  .exact h.dT i i' y y' bb z z' g5 g5' h2 ig g6 g6'
  .exact (g4 (h.dT i r y _ bb z _ g5 hr h2 trivial g6 (hrown g5'))).elim
  .exact (g8 (h.dT i q y _ bb z _ g5 hq h2 hx g6 (eP g5'))).elim
  .exact (g4' (h.dT i' r y' _ bb z' _ g5' hr ig trivial g6' (hrown g5))).elim
  .rw [g4,g4']
  .rw [g4,g4']
  .exact (g8' (h.dT i' q y' _ bb z' _ g5' hq ig hx g6' (eP g5))).elim
  all_goals grind
theorem Goal.open {r k j el sz n:Nat} {get:Nat->Nat->O} {l:List Fc} {x:O} (hr:bh s.rs r=some (.bo el sz n get (some (k,l)))) (hj:bh l j=some (.o x)) (hx:(iq x).live)
  (g:Goal P T N b cs ro n0 eM todo { s with rs:=setAt s.rs r (.bo el sz n get (some (k,setAt l j (.c (.sa s.rs.length (ml x))))))++[iq x] }):Goal P T N b cs ro n0 eM todo s:=
 g.Fz λaA w0 sp a w E eb vo hR hn=>by
  rw [cj] at hr hj
  obtain ⟨E',h1,h2⟩:=hR.open hr hj hx
  rw [<- bg,<- bg] at h2
  exact ⟨E',h1.take n0,by grind [bg],h2,hn⟩
theorem Goal.close {r q m k j el sz n:Nat} {get:Nat->Nat->O} {l:List Fc} {x:ah} {o:O} (hr:bh s.rs r=some (.bo el sz n get (some (k,l)))) (hj:bh l j=some (.c (.sa q m))) (hq:bh s.rs q=some x) (ho:PO x=some o) (hm:m=ml o) (hrq:r≠q)
  (g:Goal P T N b cs ro n0 eM todo { s with rs:=setAt (setAt s.rs q .dead) r (.bo el sz n get (some (k,setAt l j (.o o)))) }):Goal P T N b cs ro n0 eM todo s:=
 g.Fz λaA w0 sp a w E eb vo hR hn=>by
  rw [cj] at hr hj hq
  obtain ⟨E',_,_,h1,h2⟩:=hR.close hr hj hq ho hm hrq
  rw [<- bg,<- bg,<- bg] at h2
  exact ⟨E',h1.take n0,by simp only [bg,List.length_set]; omega,h2,hn⟩
end
section
variable {P:Program} {T:ec} {N:Nat} {b:Frame} {cs:List Frame} {ro:Option Nat} {n0:Nat} {eM:Option Code->VS->Prop} {todo:List Item} {s s':VS} {aA:Nat->Prop} {w0:Kp} {sp:List (D×Value)} {a:Act} {w:World} {E:Env}
theorem R.split (h:R T N aA w0 sp s a w E) {q:Nat} {L:List O} (hq:s.rs[q]?=some (.own L)) (hL:∀ o∈L,(iq o).live) :
  ∃ E',Kept E E'/\(∀ (i:Nat) (o:O),L[i]?=some o->∀ (av:Nat->Prop) (w:World) (v:Value),bp E' av w (.ow q i) v->bp E' av w (.sa (s.rs.length+i) (ml o)) v)/\
   R T N aA w0 sp { s with rs:=s.rs.set q .dead++L.map iq } a w E':=by
 have hql:q<s.rs.length:=(List.getElem?_eq_some_iff.1 hq).1
 have hqE:q<E.length:=by rw [h.len]; exact hql
 have he:=ib hqE
 generalize hee:E[q]=e at he
 obtain ⟨p1,p2,vs,p3,p4,Ks,p5,p6,p7⟩:=h.roots q _ _ hq he
 have hrown:∀ {i bb:Nat},Ks i bb->dt E q bb e.2.2:=λg=>⟨e,he,rfl,.inr (p5 _ _ g)⟩
 have ex:∀ i:Nat,∃ x:fG,∀ o,L[i]?=some o->∃ (ao:Option Addr) (cap:Nat),vs[i]?=some x.2.1.1/\x.2.1.1=.slice ao (ml o) cap/\(∀ bb,x.has bb->Ks i bb)/\∀ F:Env,ba F (AV aA s.rs E) w0.base w x (iq o):=by
  intro i
  cases ho:L[i]? with
  | none=>simp_all
  | some o=>
    obtain ⟨v,g1,g2⟩:=p7 i o ho
    obtain ⟨ao,cap,sz,g3,g4,g5⟩:=fx.root (hL o (List.mem_of_getElem? ho)) g2
    refine ⟨(v.ownBlock,(v,λb=>Ks i b/\v.ownBlock≠some b),sz),λo' q=>?_⟩
    simp only [aw] at q
    subst q
    exact ⟨ao,cap,g1,g3,λbb q=>q.elim (λq=>g4 bb q) (λq=>q.1),g5⟩
 obtain ⟨f,hf⟩:=Classical.axiomOfChoice ex
 let ents:List fG:=(List.range L.length).map f
 let E':Env:=E++ents
 have hE'q:∀ {i:Nat},i<s.rs.length->E'[i]?=E[i]?:=λ{i} hi=>by
  show (E++ents)[i]?=_
  rw [iz (by rw [h.len]; exact hi)]
 have hE'n:∀ {i:Nat},i<L.length->E'[s.rs.length+i]?=some (f i):=λ{i} hi=>by
  show (E++ents)[s.rs.length+i]?=_
  rw [nv (by rw [h.len]; omega),h.len,Nat.add_sub_cancel_left]
  simp [ents,hi]
 have hE'o:∀ {i:Nat} {y:fG},E'[i]?=some y->i<s.rs.length+L.length:=λ{i y} hi=>by
  have:=(List.getElem?_eq_some_iff.1 hi).1
  have hl:E'.length=s.rs.length+L.length:=by show (E++ents).length=_; rw [List.length_append,h.len]; simp [ents]
  omega
 have hle:Env.le E E':=Env.ey E ents
 have hkept:Kept E E':=⟨hle,λi h1=>by
  grind⟩
 refine ⟨E',hkept,?_,?_⟩
 .rintro i o ho av w' v ⟨e2,vs2,g1,g2,g3,g4⟩
  rw [hE'q hql,he] at g1
  simp only [aw] at g1
  subst g1
  rw [p3] at g2
  simp only [Value.tuple.injEq] at g2
  subst g2
  obtain ⟨ao,cap,k1,k2,_⟩:=hf i o ho
  rw [g3] at k1
  simp only [aw] at k1
  exact ⟨f i,ao,ml o,cap,hE'n (List.getElem?_eq_some_iff.1 ho).1,k2,bF _,k1.trans k2⟩
 have key:∀ (i:Nat) (y:ah) (bb z:Nat),(s.rs.set q .dead++L.map iq)[i]?=some y->y.live->dt E' i bb z->
   (i≠q/\s.rs[i]?=some y/\dt E i bb z)∨(∃ k,i=s.rs.length+k/\Ks k bb):=by
  rintro i y bb z h1 h2 ⟨pZ,h3,h4,h5⟩
  rcases Nat.lt_or_ge i s.rs.length with hi|hi
  .rw [iz (by grind),jv] at h1
   by_cases hiq:q=i
   .rw [if_pos hiq,if_pos hql] at h1
    simp only [aw] at h1
    subst h1
    exact h2.elim
   .rw [if_neg hiq] at h1
    rw [hE'q hi] at h3
    exact .inl ⟨λe=>hiq e.symm,h1,pZ,h3,h4,h5⟩
  .obtain ⟨k,rfl⟩:∃ k,i=s.rs.length+k:=⟨i-s.rs.length,by omega⟩
   grind
 have fa:∀ bb,AV aA (s.rs.set q .dead++L.map iq) E' bb->AV aA s.rs E bb:=by
  rintro bb (g|⟨i,y,z,h1,h2,h3⟩)
  .exact .inl g
  .rcases key i y bb z h1 h2 h3 with ⟨_,g5,g6⟩|⟨k,_,g5⟩
   .exact .inr ⟨i,y,z,g5,h2,g6⟩
   .exact .inr ⟨q,_,_,hq,trivial,hrown g5⟩
 refine h.BJ (aV:=s.rs.set q .dead++L.map iq) hle (bl.refl _ w) h.below (λbb _ g=>fa bb g) (by show (E++ents).length=_; simp [ents,h.len]) ?_ ?_ ?_
 .intro i y pZ h1 h2
  rcases Nat.lt_or_ge i s.rs.length with hi|hi
  .rw [iz (by grind),jv] at h1
   by_cases hiq:q=i
   .rw [if_pos hiq,if_pos hql] at h1
    simp only [aw] at h1
    subst h1
    trivial
   .rw [if_neg hiq] at h1
    rw [hE'q hi] at h2
    exact ba.mono hle (bl.refl _ w) (λbb _ g=>fa bb g) (λ_ _ _=>rfl) (h.roots i y pZ h1 h2)
  .obtain ⟨k,rfl⟩:∃ k,i=s.rs.length+k:=⟨i-s.rs.length,by omega⟩
   have hk:k<L.length:=by have:=hE'o h2; omega
   rw [hE'n hk] at h2
   simp only [aw] at h2
   subst h2
   rw [nv (by grind),List.length_set,Nat.add_sub_cancel_left,List.getElem?_map,ib hk] at h1
   simp only [Option.map_some,aw] at h1
   subst h1
   obtain ⟨_,_,_,_,_,k4⟩:=hf k _ (ib hk)
   exact ba.mono (Env.le_refl E') (bl.refl _ w) (λbb _ g=>fa bb g) (λ_ _ _=>rfl) (k4 E')
 .intro i y bb z h1 h2 h3
  rcases key i y bb z h1 h2 h3 with ⟨_,g5,g6⟩|⟨k,_,g5⟩
  .exact h.dp i y bb z g5 h2 g6
  .exact h.dp q _ bb _ hq trivial (hrown g5)
 .intro i i' y y' bb z z' h1 nD h2 ig h3 lD
  rcases key i y bb z h1 h2 h3 with ⟨g4,g5,g6⟩|⟨k,g4,g5⟩<;>rcases key i' y' bb z' nD ig lD with ⟨g4',g5',g6'⟩|⟨k',g4',g5'⟩
  .exact h.dT i i' y y' bb z z' g5 g5' h2 ig g6 g6'
  .exact (g4 (h.dT i q y _ bb z _ g5 hq h2 trivial g6 (hrown g5'))).elim
  .exact (g4' (h.dT i' q y' _ bb z' _ g5' hq ig trivial g6' (hrown g5))).elim
  grind
theorem fx.aB8 {E:Env} {av:Nat->Prop} {base:Nat} {w:World} {e:fG} {x:ah} {o:O} (ho:PO x=some o) (h:ba E av base w e x):∃ (ao:Option Addr) (cap:Nat),e.2.1.1=.slice ao (ml o) cap/\fx av base w o e.has e.2.1.1:=by
 have Qv:∃ (ao:Option Addr) (cap:Nat),e.2.1.1=.slice ao (ml o) cap:=by
  unfold PO at ho
  split at ho
  .simp only [aw] at ho
   subst ho
   obtain ⟨_,_,xs,p3,_⟩:=h
   exact dh p3
  .simp only [aw] at ho
   subst ho
   obtain ⟨_,_,xs,p3,_⟩:=h
   exact dh p3
  .simp at ho
 grind [fx.NL]
theorem R.pack (h:R T N aA w0 sp s a w E) {ps:List Nat} {L:List O} (hL:L≠[]) (hp:aF (λp o=>∃ x,s.rs[p]?=some x/\PO x=some o) ps L) (vp:∀ (i j p:Nat),ps[i]?=some p->ps[j]?=some p->i=j) {fB:List ah} (hlen:fB.length=s.rs.length)
  (Ju:∀ (i:Nat) (y:ah),fB[i]?=some y->y.live->s.rs[i]?=some y/\i ∉ ps) :
  ∃ E',Kept E E'/\(∀ (i p:Nat) (o:O),ps[i]?=some p->L[i]?=some o->∀ (av:Nat->Prop) (w:World) (v:Value),bp E' av w (.sa p (ml o)) v->bp E' av w (.ow s.rs.length i) v)/\
   R T N aA w0 sp { s with rs:=fB++[.own L] } a w E':=by
 have JA:ps.length=L.length:=hp.length
 have ex:∀ (i p:Nat) (o:O),ps[i]?=some p->L[i]?=some o->∃ (e:fG) (x:ah) (ao:Option Addr) (cap:Nat),E[p]?=some e/\s.rs[p]?=some x/\x.live/\e.2.1.1=.slice ao (ml o) cap/\fx (AV aA s.rs E) w0.base w o e.has e.2.1.1:=by
  intro i p o g1 g2
  obtain ⟨x,g3,g4⟩:=hp.get g1 g2
  have eW:p<E.length:=by rw [h.len]; grind
  have he:=ib eW
  obtain ⟨ao,cap,g5,g6⟩:=fx.aB8 g4 (h.roots p _ _ g3 he)
  exact ⟨_,x,ao,cap,he,g3,IG g4,g5,g6⟩
 let entP:Nat->fG:=λp=>E.getD p hole
 let hd:Nat->Value:=λi=>(entP (ps.getD i 0)).2.1.1
 let K:Nat->Prop:=λbb=>∃ p∈ps,(entP p).has bb
 let vs:Array Value:=(ps.map λp=>(entP p).2.1.1).toArray
 let e1:fG:=(Option.none,(.tuple vs,K),0)
 let E':Env:=E++[e1]
 have entE:∀ {p:Nat} {e:fG},E[p]?=some e->entP p=e:=λ{p e} g=>by
  grind
 have hle:Env.le E E':=Env.ey E _
 have hE'q:∀ {i:Nat},i<s.rs.length->E'[i]?=E[i]?:=λ{i} hi=>by
  show (E++[e1])[i]?=_
  rw [iz (by rw [h.len]; exact hi)]
 have hE'p:E'[s.rs.length]?=some e1:=by
  show (E++[e1])[s.rs.length]?=_
  rw [<- h.len]; simp
 have hkept:Kept E E':=⟨hle,λi h1=>by
  grind⟩
 have xG:∀ (i p:Nat),ps[i]?=some p->vs[i]?=some (entP p).2.1.1:=λi p g=>by
  grind
 refine ⟨E',hkept,?_,?_⟩
 .rintro i p o g1 g2 av w' v ⟨e,ao,n,cap,k1,k2,k3,k4⟩
  obtain ⟨e',x,ao',cap',k5,k6,_,k7,_⟩:=ex i p o g1 g2
  have eW:=(List.getElem?_eq_some_iff.1 k6).1
  rw [hE'q eW,k5] at k1
  simp only [aw] at k1
  subst k1
  rw [k7] at k2
  simp only [jw] at k2
  obtain ⟨rfl,_,rfl⟩:=k2
  refine ⟨e1,vs,hE'p,rfl,?_,by rw [k4]; rfl⟩
  grind
 have hKo:∀ {bb:Nat},K bb->∃ p x,p∈ps/\s.rs[p]?=some x/\x.live/\dt E p bb (entP p).2.2:=by
  rintro bb ⟨p,g1,g2⟩
  obtain ⟨i,hi,rfl⟩:=List.getElem_of_mem g1
  have hi2:i<L.length:=by omega
  obtain ⟨e,x,_,_,k5,k6,k7,_⟩:=ex i _ _ (ib hi) (ib hi2)
  refine ⟨_,x,List.getElem_mem hi,k6,k7,e,k5,by rw [entE k5],?_⟩
  rwa [entE k5] at g2
 have key:∀ (i:Nat) (y:ah) (bb z:Nat),(fB++[.own L])[i]?=some y->y.live->dt E' i bb z->
   (s.rs[i]?=some y/\i ∉ ps/\dt E i bb z)∨(i=s.rs.length/\K bb):=by
  rintro i y bb z h1 h2 ⟨pZ,h3,h4,h5⟩
  rcases Nat.lt_trichotomy i s.rs.length with hi|hi|hi
  .rw [iz (by rw [hlen]; exact hi)] at h1
   obtain ⟨g1,g2⟩:=Ju i y h1 h2
   rw [hE'q hi] at h3
   exact .inl ⟨g1,g2,pZ,h3,h4,h5⟩
  .subst hi
   rw [hE'p] at h3
   simp only [aw] at h3
   subst h3
   rcases h5 with h5|h5
   all_goals grind
  grind
 have fa:∀ bb,AV aA (fB++[.own L]) E' bb->AV aA s.rs E bb:=by
  rintro bb (g|⟨i,y,z,h1,h2,h3⟩)
  .exact .inl g
  .rcases key i y bb z h1 h2 h3 with ⟨g5,_,g6⟩|⟨_,g5⟩
   .exact .inr ⟨i,y,z,g5,h2,g6⟩
   .obtain ⟨p,x,_,g6,g7,g8⟩:=hKo g5
    exact .inr ⟨p,x,_,g6,g7,g8⟩
 refine h.BJ (aV:=fB++[.own L]) hle (bl.refl _ w) h.below (λbb _ g=>fa bb g) (by show (E++[e1]).length=_; simp [h.len,hlen]) ?_ ?_ ?_
 .intro i y pZ h1 h2
  rcases Nat.lt_trichotomy i s.rs.length with hi|hi|hi
  .rw [iz (by rw [hlen]; exact hi)] at h1
   rw [hE'q hi] at h2
   by_cases hy:y.live
   .exact ba.mono hle (bl.refl _ w) (λbb _ g=>fa bb g) (λ_ _ _=>rfl) (h.roots i y pZ (Ju i y h1 hy).1 h2)
   .cases y with
    | dead=>trivial
    | _=>exact (hy trivial).elim
  .subst hi
   rw [hE'p] at h2
   simp only [aw] at h2
   subst h2
   rw [nv (by grind),hlen] at h1
   simp at h1
   subst h1
   refine ⟨rfl,hL,vs,rfl,by simp [vs,JA],λi bb=>∃ p,ps[i]?=some p/\(entP p).has bb,?_,?_,?_⟩
   .grind
   .rintro i j bb ⟨p,g1,g2⟩ ⟨p',g1',Ql⟩
    have hi2:i<L.length:=by grind
    have hj2:j<L.length:=by grind
    obtain ⟨e,x,_,_,k5,k6,k7,_⟩:=ex i _ _ g1 (ib hi2)
    obtain ⟨e',x',_,_,k5',k6',k7',_⟩:=ex j _ _ g1' (ib hj2)
    rw [entE k5] at g2
    rw [entE k5'] at Ql
    have:=h.dT p p' x x' bb _ _ k6 k6' k7 k7' ⟨e,k5,rfl,g2⟩ ⟨e',k5',rfl,Ql⟩
    grind
   .intro i o ho
    have hi2:i<ps.length:=by grind
    obtain ⟨e,x,_,_,k5,k6,k7,k8,k9⟩:=ex i _ _ (ib hi2) ho
    refine ⟨e.2.1.1,by grind,?_⟩
    exact fx.aA3 (λbb g=>⟨_,ib hi2,by rw [entE k5]; exact g⟩) (fx.mono (bl.refl _ w) (λbb _ g=>fa bb g) (λ_ _=>rfl) k9)
  grind
 .intro i y bb z h1 h2 h3
  rcases key i y bb z h1 h2 h3 with ⟨g5,_,g6⟩|⟨_,g5⟩
  .exact h.dp i y bb z g5 h2 g6
  .obtain ⟨p,x,_,g6,g7,g8⟩:=hKo g5
   exact h.dp p x bb _ g6 g7 g8
 .intro i i' y y' bb z z' h1 nD h2 ig h3 lD
  rcases key i y bb z h1 h2 h3 with ⟨g5,g4,g6⟩|⟨g4,g5⟩<;>rcases key i' y' bb z' nD ig lD with ⟨g5',g4',g6'⟩|⟨g4',g5'⟩
  .exact h.dT i i' y y' bb z z' g5 g5' h2 ig g6 g6'
  .obtain ⟨p,x,k1,k2,k3,k4⟩:=hKo g5'
   have:=h.dT i p y x bb z _ g5 k2 h2 k3 g6 k4
   grind
  .obtain ⟨p,x,k1,k2,k3,k4⟩:=hKo g5
   have:=h.dT i' p y' x bb z' _ g5' k2 ig k3 g6' k4
   grind
  .rw [g4,g4']
def UY (q n:Nat) (L:List O) (c:Fc):Fc:=match c with
 | .c (.ow r i)=>Bool.rec (.c (.ow r i)) (match bh L i with
   | some o=>.c (.sa (n+i) (ml o))
   | none=>.c (.ow r i)) (Nat.beq r q)
 | c=>c
theorem T1 {q n:Nat} {L:List O} {E:Env} (hE:∀ (i:Nat) (o:O),L[i]?=some o->∀ (av:Nat->Prop) (w:World) (v:Value),bp E av w (.ow q i) v->bp E av w (.sa (n+i) (ml o)) v) {c:Fc} {av:Nat->Prop} {base:Nat} {w:World} {K:Nat->Prop} {v:Value} (h:jq E av base w c K v):jq E av base w (UY q n L c) K v:=by
 unfold UY
 split
 .rename_i r i
  cases hb:Nat.beq r q with
  | false=>exact h
  | true=>
    grind [Nat.eq_of_beq_eq_true,jq,cj]
 .exact h
theorem Goal.split {r q k el sz n:Nat} {get:Nat->Nat->O} {l:List Fc} {L:List O} (hr:bh s.rs r=some (.bo el sz n get (some (k,l)))) (hq:bh s.rs q=some (.own L)) (hL:∀ o∈L,(iq o).live)
  (g:Goal P T N b cs ro n0 eM todo { s with rs:=setAt (setAt s.rs q .dead++L.map iq) r (.bo el sz n get (some (k,l.map (UY q s.rs.length L)))) }):Goal P T N b cs ro n0 eM todo s:=
 g.Fz λaA w0 sp a w E eb vo hR hn=>by
  rw [cj] at hr hq
  obtain ⟨E',h1,h2,h3⟩:=hR.split hq hL
  have hrl:=(List.getElem?_eq_some_iff.1 hr).1
  have hrq:q≠r:=by grind
  have h4:=h3.swap (r:=r) (x:=.bo el sz n get (some (k,l))) (y:=.bo el sz n get (some (k,l.map (UY q s.rs.length L)))) (by
   grind) (λ_=>trivial) (λe av q1 _=>by
    obtain ⟨p1,p2,xs,p3,Ks,p4,pf,p5⟩:=q1
    obtain ⟨f1,f2⟩:=pf _ rfl
    refine ⟨p1,p2,xs,p3,Ks,p4,λx hx=>?_,λi hi j hj=>?_⟩
    .grind
    .obtain ⟨v,c,g1,g2,g3⟩:=p5 i hi j hj
     grind [gy,bz,T1])
  rw [<- bg,<- bg] at h4
  exact ⟨E',h1.take n0,by grind [bg],h4,hn⟩
def af9 (n:Nat) (ps:List Nat) (L:List O) (c c':C):Prop:=c'=c∨∃ (i p:Nat) (o:O),c=.sa p (ml o)/\ps[i]?=some p/\L[i]?=some o/\c'=.ow n i
theorem Goal.pack {ps:List Nat} {L:List O} (hL:L≠[]) (hp:aF (λp o=>∃ x,s.rs[p]?=some x/\PO x=some o) ps L) (vp:∀ (i j p:Nat),ps[i]?=some p->ps[j]?=some p->i=j) {fB:List ah} (hlen:fB.length=s.rs.length)
  (Ju:∀ (i:Nat) (y:ah),fB[i]?=some y->y.live->s.rs[i]?=some y/\i ∉ ps) {r:Nat} {l l':List C} (hr:fB[r]?=some (.box l)) (hl:aF (af9 s.rs.length ps L) l l')
  (g:Goal P T N b cs ro n0 eM todo { s with rs:=setAt (fB++[.own L]) r (.box l') }):Goal P T N b cs ro n0 eM todo s:=
 g.Fz λaA w0 sp a w E eb vo hR hn=>by
  obtain ⟨E',h1,h2,h3⟩:=hR.pack hL hp vp hlen Ju
  have hrl:=(List.getElem?_eq_some_iff.1 hr).1
  have h4:=h3.swap (r:=r) (x:=.box l) (y:=.box l') (by
   grind) (λ_=>trivial) (λe av q1 _=>by
    obtain ⟨bb,vs,Tc,p1,p2,p3,p4⟩:=q1
    refine ⟨bb,vs,Tc,p1,by rw [p2,hl.length],p3,aF.wU (by rw [<- hl.length]; exact p4.length) λi c' v hc hv=>?_⟩
    have hi:i<l.length:=by rw [hl.length]; grind
    have hci:=ib hi
    have k1:=p4.get hci hv
    rcases hl.get hci hc with k2|⟨i',p,o,k2,k3,k4,k5⟩
    all_goals grind)
  rw [<- bg] at h4
  exact ⟨E',h1.take n0,by grind [bg],h4,hn⟩
end
section
variable {P:Program} {T:ec} {N:Nat} {b:Frame} {cs:List Frame} {ro:Option Nat} {n0:Nat} {eM:Option Code->VS->Prop} {todo:List Item} {s s':VS} {aA:Nat->Prop} {w0:Kp} {sp:List (D×Value)} {a:Act} {w w':World} {E E':Env} {f:FuncId}
theorem Goal.yF {t:Tmp} {sz:Nat} {get:Nat->Nat->I} (ht:eT s.sl t=some (.c (.im (.sl sz 0 get)))) (g:∀ (ad:Option Addr) (cap:Nat),Goal P T N b cs ro n0 eM todo ⟨(t,.c (.im (.v (.slice ad 0 cap))),[])::s.sl,s.rs,s.df⟩):Goal P T N b cs ro n0 eM todo s:=by
 intro aA w0 sp a w E vo eb Jv hR hn
 obtain ⟨q1,q2,q3⟩:=hR.slots t _ _ (gh hn ht)
 obtain ⟨ad,cap,hv,_⟩:=q2 λp hp=>by cases hp
 refine g ad cap aA w0 sp a w E vo eb Jv ⟨hR.size,hR.defers,hR.spec,hR.below,hR.len,hR.outer,hR.roots,hR.dp,hR.dT,λu d c hl=>?_,hR.gP⟩ (hn.cons t _)
 simp only [look] at hl
 split at hl
 .rename_i he
  have he:=cE he
  subst he
  simp only [aw,bN] at hl
  obtain ⟨rfl,rfl⟩:=hl
  exact ⟨q1,λ_=>⟨hv,rfl⟩,λq=>(q λp hp=>by cases hp).elim⟩
 .exact hR.slots u d c hl
theorem ia {ad:Option Addr} {cap sz:Nat} {get:Nat->Nat->I}:cD (.v (.slice ad 0 cap)) (.sl sz 0 get):=λav w v ⟨h,_⟩=>⟨ad,cap,h,bk _,bk _,λq=>absurd q (Nat.lt_irrefl 0)⟩
def oy (rs:List ah) (d:D) (aV:List ah) (d1:D) (fB:List ah):Prop:=
 bA rs d aV d1 fB∨(fB=rs/\d1=.c (.im (.v (.slice none 0 0)))/\d=.c (.sa rs.length 0)/\∃ el sz get,aV=rs++[.arr el sz 0 get])
theorem R.aX2 {rs aV fB:List ah} {d d1:D} {v:Value} (he:oy rs d aV d1 fB) (eb:∀ x∈sp,kf rs.length x.1=true) (h:R T N aA w0 sp ⟨[],rs,[]⟩ a w E) (h':R T N aA w0 sp ⟨[],fB,[]⟩ a w' E') (hk:Kept E E') (hv:bj E' (AV aA fB E') w' d1 v) :
  ∃ vq,Kept E vq/\R T N aA w0 sp ⟨[],aV,[]⟩ a w' vq/\bj vq (AV aA aV vq) w' d v:=by
 rcases he with he|⟨rfl,rfl,rfl,el,sz,get,rfl⟩
 .exact R.am6 he eb h h' hk hv
 .have h1:=h'.K6 el sz get
  obtain ⟨hv,_⟩:=hv
  refine ⟨_,hk.trans ⟨Env.ey E' _,λq hq=>by grind⟩,h1,?_⟩
  rw [hv]
  exact ⟨(Option.none,oE (.slice Option.none 0 0),sz),Option.none,0,0,by show (E'++[_])[fB.length]?=_; rw [show fB.length=E'.length from h'.len.symm]; simp,rfl,bF _,rfl⟩
theorem VA (bZ:dU P T) {fn:Func} (hf:P.funcs[f]?=some fn) (qc:(fn.name == "runtime.NumGoroutine")=false) {c:Code} (hc:fn.body=some c) {ds:List D} {rs:List ah} {d:D} {aV:List ah} (hlen:ds.length<=fn.ntmps)
  (hg:∀ (b:Frame) (cs:List Frame),b.fn=f->Goal P T fn.ntmps b cs none rs.length (uJ T fn.results.toList (oy rs d aV)) [.code c] ⟨dF 0 ds,rs,[]⟩):bt T P f ds rs d aV:=
 AR bZ hf qc hc hlen (λhq eb h h' hk hv=>R.aX2 hq eb h h' hk hv) hg
end
end
end Go.V
