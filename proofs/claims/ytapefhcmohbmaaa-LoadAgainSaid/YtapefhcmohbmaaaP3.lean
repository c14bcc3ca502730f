/- The roots that a call has made are forgotten; what it has written stays. -/
import Derived.Test.YtapefhcmohbmaaaP2
import Derived.OrdersIn
import Derived.RangeFuncNested
import Derived.RangeFuncLeaves
set_option linter.unusedSimpArgs false
set_option linter.unusedVariables false
namespace Go.V
open Go.RowKit
section
variable {P:Program} {T:dk} {N:Nat} {ax:Nat->Prop} {w0:Kp} {sp:List (D×Value)} {a:Act} {w:World} {E E':Env} {av cG FB:Nat->Prop} {w':World}
theorem Yk {x y:Value} (h:eqV x y=true):x=y:=by
 unfold eqV at h
 grind [IC]
theorem Q7 {x y:C} (h:PQ x y=true):x=y:=by
 unfold PQ at h
 grind [Yk,cg]
theorem JG:∀ {l m:List C},Wp l m=true->l=m
 | [],[],_=>rfl
 | [],y::m,h=>by
   have h:(false:Bool)=true:=h
   simp at h
 | x::l,[],h=>by
   have h:(false:Bool)=true:=h
   simp at h
 | x::l,y::m,h=>by
   have h:(Bool.rec false (Wp l m) (PQ x y):Bool)=true:=h
   cases hb:PQ x y with
   | false=>rw [hb] at h; simp at h
   | true=>rw [hb] at h; rw [Q7 hb,JG h]
theorem S5 {x y:ae} (h:ND x y=true):x=y:=by
 unfold ND at h
 split at h
 .rfl
 .rw [JG h]
 .simp at h
theorem Kept.take {E E':Env} (h:Kept E E') (n:Nat):Kept (E.take n) (E'.take n):=by
 refine ⟨λr e hr wc=>?_,λq hq=>?_⟩
 .rw [me] at hr ⊢
  split at hr
  .rename_i eG
   rw [if_pos eG]
   exact h.le r e hr wc
  .simp at hr
 .rw [me] at hq ⊢
  split at hq
  .rename_i eG
   rw [if_pos eG]
   exact h.free q hq
  .simp at hq
theorem Kept.len {E E':Env} (h:Kept E E'):E.length<=E'.length:=by
 by_cases eG:E.length<=E'.length
 .exact eG
 .exfalso
  have hr:E'.length<E.length:=by omega
  have h1:=ka hr
  have h0:E'[E'.length]?=none:=List.getElem?_eq_none (bl _)
  by_cases h2:E[E'.length]=hole
  .rw [h2] at h1
   have:=h.free _ h1
   grind
  .obtain ⟨_,this,_⟩:=h.le _ _ h1 h2
   grind
theorem Kept.kX (E:Env) (n:Nat):Kept (E.take n) E:=⟨λr e hr hn=>⟨e.2.1.2,by
 rw [me] at hr
 split at hr
 .exact hr
 .simp at hr,hn⟩,λq hq=>by
 grind⟩
theorem K6 {E:Env} {n r b sz:Nat}:cM (E.take n) r b sz->cM E r b sz:=λ⟨hh,q,q2⟩=>⟨hh,by
 grind,q2⟩
theorem Kept.back (hk:Kept E E') {r:Nat} (hr:r<E.length) {e:fJ} (h:E'[r]?=some e) (he:e≠hole):∃ K,E[r]?=some (e.wk K):=by
 have h1:=ka hr
 by_cases h2:E[r]=hole
 .rw [h2] at h1
  have:=hk.free r h1
  grind
 .obtain ⟨K,this,_⟩:=hk.le r _ h1 h2
  rw [h] at this
  simp only [au] at this
  exact ⟨E[r].2.1.2,by rw [h1,this]; rfl⟩
theorem Kept.bh (hk:Kept E E') {r b sz:Nat} (hr:r<E.length) (h:bh E' r b sz):bh E r b sz:=by
 obtain ⟨hd,h⟩:=h
 obtain ⟨K,h⟩:=hk.back hr h (fJ.Jo rfl)
 exact ⟨(hd.1,K),h⟩
theorem qs {n:Nat}:∀ {l:List Nat},xE n l=true->∀ r∈l,r<n
 | [],_,r,hr=>by simp at hr
 | x::l,h,r,hr=>by
   have h:(Bool.rec false (xE n l) (Nat.blt x n):Bool)=true:=h
   cases hb:Nat.blt x n with
   | false=>rw [hb] at h; simp at h
   | true=>
     rw [hb] at h
     rcases List.mem_cons.1 hr with rfl|hr
     .exact aM hb
     .exact qs h r hr
theorem az.shrink {α β:Type} {R S:α->β->Prop} {l:List α} {m:List β} (h:az R l m) (k:∀ x∈l,∀ y,R x y->S x y):az S l m:=by
 induction h with
 | nil=>exact .nil
 | cons q _ ih=>exact .cons (k _ (jl ..) _ q) (ih λx hx=>k x (fL _ hx))
theorem a7.shrink (hk:Kept E E') (ha:∀ b,FB b->cG b) {x:C} {v:Value} (hx:uH E.length x=true) (h:a7 E' cG w' x v):a7 E FB w' x v:=by
 cases x with
 | im x=>exact cF.mono (aW.refl _ w') (λb _ q=>ha b q) h
 | rt r i j=>obtain ⟨b,sz,h1,h2⟩:=h; exact ⟨b,sz,hk.bh (aM hx) h1,h2⟩
 | sa r m=>
   obtain ⟨e,a,n,cap,h1,h2,h3⟩:=h
   obtain ⟨K,h1⟩:=hk.back (aM hx) h1 (fJ.I9 h2)
   exact ⟨_,a,n,cap,h1,h2,h3⟩
 | mp r=>obtain ⟨b,sz,h1,h2⟩:=h; exact ⟨b,sz,hk.bh (aM hx) h1,h2⟩
 | yl r=>obtain ⟨b,sz,h1,h2⟩:=h; exact ⟨b,sz,hk.bh (aM hx) h1,h2⟩
 | ow r j=>
   obtain ⟨e,vs,h1,h2,h3,h4⟩:=h
   obtain ⟨K,h1⟩:=hk.back (aM hx) h1 (fJ.O7 h2 h3)
   exact ⟨_,vs,h1,h2,h3,h4⟩
 | fh f l=>
   obtain ⟨vs,h1,h2⟩:=h
   exact ⟨vs,h1,h2.shrink λr hr y ⟨b,sz,q,q2⟩=>⟨b,sz,hk.bh (qs hx r hr) q,q2⟩⟩
theorem gZ {n:Nat}:∀ {l:List C},hX n l=true->∀ x∈l,uH n x=true
 | [],_,x,hx=>by simp at hx
 | y::l,h,x,hx=>by
   have h:(Bool.rec false (hX n l) (uH n y):Bool)=true:=h
   cases hb:uH n y with
   | false=>rw [hb] at h; simp at h
   | true=>
     rw [hb] at h
     rcases List.mem_cons.1 hx with rfl|hx
     .exact hb
     .exact gZ h x hx
theorem rA {n:Nat}:∀ {l:List C},(∀ x∈l,uH n x=true)->hX n l=true
 | [],_=>rfl
 | y::l,h=>by
   show (Bool.rec false (hX n l) (uH n y):Bool)=true
   rw [h y (jl ..)]
   exact rA λx hx=>h x (fL _ hx)
theorem zU {n:Nat}:∀ {l:List (Bool×List C)},AF n l=true->∀ x∈l,hX n x.2=true
 | [],_,x,hx=>by simp at hx
 | y::l,h,x,hx=>by
   have h:(Bool.rec false (AF n l) (hX n y.2):Bool)=true:=h
   cases hb:hX n y.2 with
   | false=>rw [hb] at h; simp at h
   | true=>
     rw [hb] at h
     rcases List.mem_cons.1 hx with rfl|hx
     .exact hb
     .exact zU h x hx
theorem aQ.shrink (hk:Kept E E') (ha:∀ b,FB b->cG b) {d:D} {v:Value} (hd:jf E.length d=true) (h:aQ E' cG w' d v):aQ E FB w' d v:=by
 cases d with
 | c x=>exact a7.shrink hk ha hd h
 | a l=>obtain ⟨cs,h1,h2⟩:=h; exact ⟨cs,h1,h2.shrink λx hx y q=>a7.shrink hk ha (gZ hd x hx) q⟩
 | t l=>
   obtain ⟨vs,h1,h2⟩:=h
   refine ⟨vs,h1,h2.shrink ?_⟩
   rintro ⟨b,l'⟩ hx y q
   have dr:=zU hd _ hx
   cases b with
   | true=>obtain ⟨cs,q1,q2⟩:=q; exact ⟨cs,q1,q2.shrink λx hx y q=>a7.shrink hk ha (gZ dr x hx) q⟩
   | false=>
     grind [a7.shrink,gZ]
theorem ov {r b sz:Nat} (h:bh E r b sz):r<E.length:=by obtain ⟨hd,h⟩:=h; grind
theorem j9 {a b:Nat} (h:a<b):Nat.blt a b=true:=by simp_all
theorem vW {n:Nat}:∀ {l:List Nat},(∀ r∈l,r<n)->xE n l=true
 | [],_=>rfl
 | x::l,h=>by
   show (Bool.rec false (xE n l) (Nat.blt x n):Bool)=true
   rw [j9 (h x (jl ..))]
   exact vW λr hr=>h r (fL _ hr)
theorem az.left {α β:Type} {R:α->β->Prop} {l:List α} {m:List β} (h:az R l m):∀ x∈l,∃ y,R x y:=by
 induction h with
 | nil=>intro x hx; simp at hx
 | cons q _ ih=>
   grind
theorem a7.low {x:C} {v:Value} (h:a7 E av w x v):uH E.length x=true:=by
 cases x with
 | im x=>rfl
 | rt r i j=>obtain ⟨b,sz,h1,_⟩:=h; exact j9 (ov h1)
 | sa r m=>obtain ⟨e,a,n,cap,h1,_⟩:=h; exact j9 (List.getElem?_eq_some_iff.1 h1).1
 | mp r=>obtain ⟨b,sz,h1,_⟩:=h; exact j9 (ov h1)
 | yl r=>obtain ⟨b,sz,h1,_⟩:=h; exact j9 (ov h1)
 | ow r j=>obtain ⟨e,vs,h1,_⟩:=h; exact j9 (List.getElem?_eq_some_iff.1 h1).1
 | fh f l=>
   obtain ⟨vs,_,h2⟩:=h
   exact vW λr hr=>by
    obtain ⟨_,b,sz,h1,_⟩:=h2.left r hr
    exact ov h1
theorem L.low {l:List C} {cs:List Value} (h:az (a7 E av w) l cs):hX E.length l=true:=rA λx hx=>by
 obtain ⟨y,q⟩:=h.left x hx
 exact a7.low q
theorem aQ.low {d:D} {v:Value} (h:aQ E av w d v):jf E.length d=true:=by
 cases d with
 | c x=>exact a7.low h
 | a l=>obtain ⟨cs,_,h2⟩:=h; exact L.low h2
 | t l=>
   obtain ⟨vs,_,h2⟩:=h
   show AF E.length l=true
   have key:∀ x∈l,hX E.length x.2=true:=λx hx=>by
    obtain ⟨y,q⟩:=h2.left x hx
    grind [L.low,rA,a7.low]
   clear h2
   induction l with
   | nil=>rfl
   | cons y l ih=>
     show (Bool.rec false (AF E.length l) (hX E.length y.2):Bool)=true
     simp_all
theorem qN {n:Nat}:∀ {rs aG:List ae} {k:Nat} {ws:List (Nat×ae)},xP n rs aG k=some ws->
  (∀ p∈ws,k<=p.1)/\∀ (pre:List ae),pre.length=k->∀ (q:Nat) (x:ae),(writes ws (pre++rs))[q]?=some x->(q<k/\pre[q]?=some x)∨(k<=q/\aG[q-k]?=some x/\(rs[q-k]?=some x∨gK n x=true))
 | [],aG,k,ws,h=>by
   have h:some []=some ws:=h
   simp only [au] at h
   subst h
   refine ⟨λp hp=>by simp at hp,λpre C4 q x hx=>?_⟩
   have hx:(pre++[])[q]?=some x:=hx
   grind
 | x0::rs,[],k,ws,h=>by
   have h:(none:Option (List (Nat×ae)))=some ws:=h
   simp at h
 | x0::rs,y::aG,k,ws,h=>by
   have h:(Bool.rec (Bool.rec none (match xP n rs aG (k+1) with
    | some ws=>some ((k,y)::ws)
    | none=>none) (gK n y)) (xP n rs aG (k+1)) (ND x0 y):Option (List (Nat×ae)))=some ws:=h
   cases hb:ND x0 y with
   | true=>
     rw [hb] at h
     obtain ⟨h1,h2⟩:=qN (rs:=rs) (aG:=aG) (k:=k+1) h
     refine ⟨λp hp=>by have:=h1 p hp; omega,λpre C4 q x hx=>?_⟩
     have e:pre++x0::rs=(pre++[x0])++rs:=by simp
     rw [e] at hx
     rcases h2 (pre++[x0]) (by simp [C4]) q x hx with ⟨h3,h4⟩|⟨h3,h4,h5⟩
     .by_cases hq:q<k
      .grind
      .have:q=k:=by omega
       subst this
       grind [S5]
     grind
   | false=>
     rw [hb] at h
     obtain ⟨dr,h⟩:=Bool.aw (show (Bool.rec none (match xP n rs aG (k+1) with
      | some ws=>some ((k,y)::ws)
      | none=>none) (gK n y):Option (List (Nat×ae)))=some ws from h)
     split at h
     case h_2=>simp at h
     rename_i ws' hws
     simp only [au] at h
     subst h
     obtain ⟨h1,h2⟩:=qN (rs:=rs) (aG:=aG) (k:=k+1) hws
     refine ⟨λp hp=>by
      grind,λpre C4 q x hx=>?_⟩
     have hx:(writes ws' (setAt (pre++x0::rs) k y))[q]?=some x:=hx
     have e:setAt (pre++x0::rs) k y=(pre++[y])++rs:=by
      rw [ba,List.set_append]
      simp [C4]
     rw [e] at hx
     rcases h2 (pre++[y]) (by simp [C4]) q x hx with ⟨h3,h4⟩|⟨h3,h4,h5⟩
     .by_cases hq:q<k
      .grind
      .have:q=k:=by omega
       simp_all
     grind
theorem DZ:Mi λrs aG=>xP rs.length rs aG 0:=λrs aG ws h q x hx=>by
 rcases (qN h).2 [] rfl q x hx with ⟨h1,_⟩|⟨_,h2,h3⟩
 all_goals grind
theorem gC:∀ (ws:List (Nat×ae)) (rs:List ae),(writes ws rs).length=rs.length
 | [],rs=>rfl
 | p::ws,rs=>by
   show (writes ws (setAt rs p.1 p.2)).length=_
   rw [gC ws,ba]; simp
theorem hJ:∀ {sl:aL} {t:Tmp} {x:D×eF},look sl t=some x->(t,x)∈sl
 | [],t,x,h=>by simp [look] at h
 | (k,d,c)::sl,t,x,h=>by
   simp only [look] at h
   split at h
   .simp_all
   .exact fL _ (hJ h)
theorem qI {n:Nat}:∀ {l:List Fc},um n l=true->∀ x∈l,wq n x=true
 | [],_,x,hx=>by simp at hx
 | y::l,h,x,hx=>by
   have h:(Bool.rec false (um n l) (wq n y):Bool)=true:=h
   cases hb:wq n y with
   | false=>rw [hb] at h; simp at h
   | true=>
     rw [hb] at h
     rcases List.mem_cons.1 hx with rfl|hx
     .exact hb
     .exact qI h x hx
theorem DV {n el sz k i j:Nat} {get:Nat->Nat->O} {dJ:Option (Nat×List Fc)} {c:Fc} (h:gK n (.bL el sz k get dJ)=true) (hc:fR get dJ i j=some c):wq n c=true:=by
 unfold fR at hc
 split at hc
 .simp only [au] at hc; subst hc; rfl
 .rename_i x
  split at hc
  .rw [bg] at hc
   exact qI (show um n x.2=true from h) c (List.mem_of_getElem? hc)
  .simp only [au] at hc; subst hc; rfl
theorem iX.shrink {base:Nat} (hk:Kept E E') (ha:∀ b,FB b->cG b) {x:Fc} {K:Nat->Prop} {v:Value} (hx:wq E.length x=true) (h:iX E' cG base w' x K v):iX E FB base w' x K v:=by
 cases x with
 | c x=>exact a7.shrink hk ha hx h
 | o x=>exact fO.mono (aW.refl _ w') (λb _ q=>ha b q) (λ_ _=>rfl) h
theorem iX.low {av:Nat->Prop} {base:Nat} {x:Fc} {K:Nat->Prop} {v:Value} (h:iX E av base w x K v):wq E.length x=true:=by
 cases x with
 | c x=>exact a7.low h
 | o x=>rfl
theorem R.trim {sl:aL} {rs aG:List ae} {df:List Nat} (h:R T N ax w0 sp ⟨sl,rs,df⟩ a w E) (h':R T N ax w0 sp ⟨sl,aG,df⟩ a w' E') (hk0:Kept E E') {ws:List (Nat×ae)} (hw:∀ (q:Nat) (x:ae),(writes ws rs)[q]?=some x->aG[q]?=some x/\(rs[q]?=some x∨gK rs.length x=true))
  {d:D} (hd:jf rs.length d=true) {v:Value} (hv:aQ E' (AV ax aG E') w' d v):∃ E1,Kept E E1/\E1.length=E.length/\R T N ax w0 sp ⟨sl,writes ws rs,df⟩ a w' E1/\aQ E1 (AV ax (writes ws rs) E1) w' d v:=by
 have hlen0:E.length=rs.length:=h.len
 have hkE:Kept E (E'.take E.length):=by
  have:=hk0.take E.length
  grind
 have hlen:(E'.take E.length).length=rs.length:=by rw [List.length_take,Nat.min_eq_left hk0.len,hlen0]
 have hk:Kept (E'.take E.length) E':=Kept.kX E' E.length
 refine ⟨E'.take E.length,hkE,by rw [hlen,hlen0],?_⟩
 generalize hE1:E'.take E.length=E1 at hkE hlen hk ⊢
 have dX:∀ {r b sz:Nat},cM E1 r b sz->cM E' r b sz:=λq=>K6 (by rw [hE1]; exact q)
 have IG:∀ {q:Nat} {e:fJ},E1[q]?=some e->E'[q]?=some e:=λ{q e} h1=>by
  grind
 have key:∀ (q:Nat) (x:ae),(writes ws rs)[q]?=some x->aG[q]?=some x/\(rs[q]?=some x∨gK E1.length x=true):=by
  grind
 have eT:∀ b,AV ax (writes ws rs) E1 b->AV ax aG E' b:=by
  rintro b (q|⟨r,x,sz,h1,h2,h3⟩)
  .exact .inl q
  .exact .inr ⟨r,x,sz,(key r x h1).1,h2,dX h3⟩
 have lowd:∀ {d:D} {v:Value},aQ E (AV ax rs E) w d v->jf E1.length d=true:=λq=>by rw [hlen,<- hlen0]; exact aQ.low q
 refine ⟨⟨h.size,h.defers.mono λ_ _ ⟨b,sz,q,e⟩=>⟨b,sz,hkE.le.at_ q,e⟩,λx hx=>aQ.shrink hk eT (lowd (h.spec x hx)) (h'.spec x hx),h'.below,by grind [gC],h.outer,?_,?_,?_,?_,h'.fS.mono (aW.refl _ w') (λb _ q=>eT b q)⟩,aQ.shrink hk eT (by rw [hlen]; exact hd) hv⟩
 .intro q x e hx hE
  obtain ⟨k1,k2⟩:=key q x hx
  have hpost:=h'.roots q x e k1 (IG hE)
  have low:∀ {l:List C} {cs:List Value},(hX E1.length l=true)->az (a7 E' (AV ax aG E') w') l cs->az (a7 E1 (AV ax (writes ws rs) E1) w') l cs:=λhl hc=>hc.shrink λx hx y q=>a7.shrink hk eT (gZ hl x hx) q
  have hq0:q<E.length:=by grind
  have h0:=ka hq0
  cases x with
  | dead=>trivial
  | box l=>
    obtain ⟨b,cs,Tc,p1,p2,p3,p4⟩:=hpost
    refine ⟨b,cs,Tc,p1,p2,p3,low ?_ p4⟩
    rcases k2 with k2|k2
    .obtain ⟨_,_,_,_,_,_,p5⟩:=h.roots q _ _ k2 h0
     rw [hlen,<- hlen0]
     exact L.low p5
    .exact k2
  | row el sz n l=>
    obtain ⟨p1,p2,xs,p3,p4⟩:=hpost
    refine ⟨p1,p2,xs,p3,low ?_ p4⟩
    rcases k2 with k2|k2
    .obtain ⟨_,_,_,_,p5⟩:=h.roots q _ _ k2 h0
     rw [hlen,<- hlen0]
     exact L.low p5
    .exact k2
  | arr el sz n get=>
    obtain ⟨p1,p2,xs,p3,p4⟩:=hpost
    refine ⟨p1,p2,xs,p3,λi hi j hj=>?_⟩
    obtain ⟨x,p5,p6⟩:=p4 i hi j hj
    exact ⟨x,p5,cF.mono (aW.refl _ w') (λb _ q=>eT b q) p6⟩
  | bL el sz n get dJ=>
    obtain ⟨p1,p2,xs,p3,Ks,p4,pf,p5⟩:=hpost
    refine ⟨p1,p2,xs,p3,Ks,p4,pf,λi hi j hj=>?_⟩
    obtain ⟨x,c,p6,p7,p8⟩:=p5 i hi j hj
    refine ⟨x,c,p6,p7,iX.shrink hk eT ?_ p8⟩
    rcases k2 with k2|k2
    .obtain ⟨_,_,_,_,_,_,_,r5⟩:=h.roots q _ _ k2 h0
     grind [iX.low]
    .exact DV k2 p7
  | own l=>
    obtain ⟨p1,p2,vs,p3,p4,Ks,p5,p6,p7⟩:=hpost
    refine ⟨p1,p2,vs,p3,p4,Ks,p5,p6,λi o ho=>?_⟩
    obtain ⟨v,g1,g2⟩:=p7 i o ho
    exact ⟨v,g1,fO.mono (aW.refl _ w') (λb _ q=>eT b q) (λ_ _=>rfl) g2⟩
  | set l=>exact hpost
  | kF=>exact hpost
  | loop f M fI ps as bd st fi=>
    obtain ⟨b,db,tm,p1,p2,p3,p4,p5⟩:=hpost
    rcases k2 with k2|k2
    .obtain ⟨b',db',tm',r1,r2,r3,r4,r5⟩:=h.roots q _ _ k2 h0
     refine ⟨b,db,tm,p1,p2,p3,λt d c hl=>?_,p5⟩
     have hcn:c=[]:=p5 _ (hJ hl)
     subst hcn
     obtain ⟨s1,s2,s3⟩:=p4 t d [] hl
     obtain ⟨s4,s5,s6⟩:=r4 t d [] hl
     grind [aQ.shrink]
    .simp [gK] at k2
 .intro q x b sz hx hlv iL
  exact h'.cJ q x b sz (key q x hx).1 hlv (dX iL)
 .intro q q' x x' b sz cL hx hx' hl uR iL an3
  exact h'.dz q q' x x' b sz cL (key q x hx).1 (key q' x' hx').1 hl uR (dX iL) (dX an3)
 .intro t d c hl
  obtain ⟨s1,s2,s3⟩:=h'.slots t d c hl
  obtain ⟨s4,s5,s6⟩:=h.slots t d c hl
  grind [aQ.shrink]
end
open Go.RowKit
section
variable {P:Program} {T:dk} {lo:Lo} {hi:Hint} {N:Nat} {ax:Nat->Prop} {w0:Kp} {sp:List (D×Value)} {s:VS} {a:Act} {w:World} {E:Env} {ρ:Option Nat}
theorem HI (l:List Nat) (s:VS):T1 l s=⟨s.sl,vF l s.rs,s.df⟩:=by cases l<;>rfl
theorem zK:∀ (l:List Nat) (rs:List ae) {q:Nat} {x:ae},aR (vF l rs) q=some x->x.live->q ∉ l/\aR rs q=some x
 | [],rs,q,x,h,_=>⟨by simp,h⟩
 | k::l,rs,q,x,h,hx=>by
   obtain ⟨h1,h2⟩:=zK l (setAt rs k .dead) h hx
   rw [bW,ba,jE] at h2
   split at h2
   .split at h2
    .simp only [au] at h2; subst h2; exact hx.elim
    .simp at h2
   grind [bW]
theorem j8.Us (u:j8) (s:VS):(u.on s).df=s.df:=by
 unfold j8.on yw
 grind
theorem j8.NB (u:j8) {s:VS} (h:bw s.sl):bw (u.on s).sl:=by
 unfold j8.on yw
 cases u.dst with
 | none=>exact h
 | some t=>cases u.val with
   | none=>exact h
   | some d=>exact h.cons _ _
theorem uZ {us:Nat->j8} {s0:VS} {L:Nat->Bool}:∀ n,(dD us s0 L n).df=s0.df
 | 0=>rfl
 | n+1=>by
   simp only [dD]
   split
   .rw [j8.Us,uZ n]
   .exact uZ n
theorem oD {us:Nat->j8} {s0:VS} {L:Nat->Bool} (h:bw s0.sl):∀ n,bw (dD us s0 L n).sl
 | 0=>h
 | n+1=>by
   simp only [dD]
   split
   .exact j8.NB _ (oD h n)
   .exact oD h n
theorem qF {us:Nat->j8} {s0:VS} {L L':Nat->Bool}:∀ {n:Nat},(∀ k,k<n->L k=L' k)->dD us s0 L n=dD us s0 L' n
 | 0,_=>rfl
 | n+1,h=>by
   simp only [dD]
   rw [h n (by omega),qF (n:=n) λk hk=>h k (by omega)]
theorem ql {u:j8} {us:Nat->j8} {s:VS}:∀ k,dD (λ|0=>u|k+1=>us k) s (λ_=>true) (k+1)=dD us (u.on s) (λ_=>true) k
 | 0=>rfl
 | k+1=>by
   rw [dD,ql k]
   rfl
structure NZ (T:dk) (lo:Lo) (hi:Hint) (N:Nat) (ops:List Oper) (ck:List Nat) (W:List (Nat×List Nat)) (i b:Nat) (s:VS) (o:Oper) (m:Nat) (u:j8):Prop where
 ev:kz T lo hi ck i b ops (T1 (dL ck i m W) s) o=some (.ok u)
 ok:CU N u.dst u.val=true
 sub:Ch (u.ws.map (·.1)) (mO i W)=true
 apart:mo (u.ws.map (·.1)) (dL ck i m W)=true
 ex:Q1 u.ex (dL ck i m W)=true
theorem re {ops:List Oper} {ck:List Nat} {W:List (Nat×List Nat)}:∀ {l:List Oper} {ms:List Nat} {i b:Nat} {s sF:VS},jT T lo hi N ops ck W l ms i b s=some sF->
  ∃ us:Nat->j8,sF=dD us s (λ_=>true) l.length/\∀ k o,l[k]?=some o->∃ m,ms[k]?=some m/\NZ T lo hi N ops ck W (i+k) (b+dI (l.take k)) (dD us s (λ_=>true) k) o m (us k)
 | [],ms,i,b,s,sF,h=>by
   have h:some s=some sF:=h
   simp only [au] at h
   exact ⟨λ_=>⟨none,none,[],none,false⟩,h.symm,λk o hk=>by simp at hk⟩
 | o::l,[],i,b,s,sF,h=>by
   have h:(none:Option VS)=some sF:=h
   simp at h
 | o::l,m::ms,i,b,s,sF,h=>by
   have h:(match kz T lo hi ck i b ops (T1 (dL ck i m W) s) o with
    | some (.ok u)=>(Bool.rec none (jT T lo hi N ops ck W l ms (i+1) (b+dP o.op) (u.on s)) (CU N u.dst u.val&&(Ch (u.ws.map (·.1)) (mO i W)&&(mo (u.ws.map (·.1)) (dL ck i m W)&&Q1 u.ex (dL ck i m W)))):Option VS)
    | _=>none)=some sF:=h
   split at h
   case h_2=>simp at h
   rename_i u hu
   obtain ⟨h1,h2⟩:=Bool.aw h
   simp only [di] at h1
   obtain ⟨us,h3,h4⟩:=re h2
   refine ⟨λ|0=>u|k+1=>us k,?_,λk o' hk=>?_⟩
   .rw [List.length_cons,ql]; exact h3
   .cases k with
    | zero=>
      simp at hk
      subst hk
      exact ⟨m,rfl,hu,h1.1,h1.2.1,h1.2.2.1,h1.2.2.2⟩
    | succ k=>
      obtain ⟨m',h5,h6⟩:=h4 k o' (by simpa using hk)
      refine ⟨m',by simpa using h5,?_⟩
      rw [ql]
      have e1:i+(k+1)=i+1+k:=by omega
      have e2:b+dI (List.take (k+1) (o::l))=b+dP o.op+dI (l.take k):=by
       show b+(dP o.op+dI (l.take k))=_
       omega
      grind
theorem pN {ops:List Oper} {ck:List Nat}:∀ {l:List Oper} {k b:Nat} {W:List (Nat×List Nat)} {s s':VS},lk T lo hi N ck ops l k b W s=some (.ok [] s')->
  W=[]/\∀ ms:List Nat,ms.length=l.length->jT T lo hi N ops ck [] l ms k b s=some s'
 | [],k,b,W,s,s',h=>by
   have h:some (Eu.ok W s)=some (.ok [] s'):=h
   simp only [au,Eu.ok.injEq] at h
   obtain ⟨rfl,rfl⟩:=h
   exact ⟨rfl,λms _=>rfl⟩
 | o::l,k,b,W,s,s',h=>by
   have h:(match kz T lo hi ck k b ops s o with
    | some (.ok u)=>(Bool.rec none (lk T lo hi N ck ops l (k+1) (b+dP o.op) (C3 k u W) (u.on s)) (CU N u.dst u.val):Option Eu)
    | some (.ct c)=>some (.ct c)
    | none=>none)=some (.ok [] s'):=h
   split at h
   .rename_i u hu
    obtain ⟨h1,h2⟩:=Bool.aw h
    obtain ⟨h3,h4⟩:=pN h2
    have h5:u.ws=[]/\W=[]:=by
     unfold C3 at h3
     split at h3
     all_goals simp_all
    refine ⟨h5.2,λms hms=>?_⟩
    cases ms with
    | nil=>simp at hms
    | cons m ms=>
      show (match kz T lo hi ck k b ops s o with
       | some (.ok u)=>(Bool.rec none (jT T lo hi N ops ck [] l ms (k+1) (b+dP o.op) (u.on s)) (CU N u.dst u.val&&(Ch (u.ws.map (·.1)) (mO k [])&&(mo (u.ws.map (·.1)) (dL ck k m [])&&Q1 u.ex (dL ck k m [])))):Option VS)
       | _=>none)=some s'
      have hex:Q1 u.ex (dL ck k m [])=true:=by
       show Q1 u.ex []=true
       cases u.ex<;>rfl
      rw [hu]
      simp only [h1,h5.1,hex]
      exact h4 ms (by simpa using hms)
   all_goals grind
theorem tZ {ops:List Oper} {ck:List Nat}:∀ {l:List Oper} {k b:Nat} {W W':List (Nat×List Nat)} {s s':VS},lk T lo hi N ck ops l k b W s=some (.ok W' s')->(∀ x∈W,x.1<k)->∀ x∈W',x.1<k+l.length
 | [],k,b,W,W',s,s',h,hk=>by
   have h:some (Eu.ok W s)=some (.ok W' s'):=h
   grind
 | o::l,k,b,W,W',s,s',h,hk=>by
   have h:(match kz T lo hi ck k b ops s o with
    | some (.ok u)=>(Bool.rec none (lk T lo hi N ck ops l (k+1) (b+dP o.op) (C3 k u W) (u.on s)) (CU N u.dst u.val):Option Eu)
    | some (.ct c)=>some (.ct c)
    | none=>none)=some (.ok W' s'):=h
   split at h
   .rename_i u hu
    obtain ⟨h1,h2⟩:=Bool.aw h
    intro x hx
    have:=tZ h2 (λx hx=>by
     grind [C3]) x hx
    grind
   all_goals grind
theorem jX {n:Nat}:∀ {l:List Nat},nS n l=true↔n∈l
 | []=>by simp [nS]
 | x::l=>by
   have:nS n (x::l)=(Bool.rec (nS n l) true (Nat.beq x n):Bool):=rfl
   rw [this]
   cases hb:Nat.beq x n with
   | true=>simp [cg hb]
   | false=>
     have:x≠n:=λe=>by simp_all
     simp only [List.mem_cons]
     rw [jX]
     grind
theorem ur {m:List Nat}:∀ {l:List Nat},mo l m=true->∀ q∈l,q ∉ m
 | [],_,q,hq=>by simp at hq
 | x::l,h,q,hq=>by
   have h:(Bool.rec (mo l m) false (nS x m):Bool)=true:=h
   cases hb:nS x m with
   | true=>rw [hb] at h; simp at h
   | false=>
     rw [hb] at h
     rcases List.mem_cons.1 hq with rfl|hq
     .intro hm; rw [jX.2 hm] at hb; simp at hb
     .exact ur h q hq
theorem Ac {m:List Nat}:∀ {l:List Nat},Ch l m=true->∀ q∈l,q∈m
 | [],_,q,hq=>by simp at hq
 | x::l,h,q,hq=>by
   obtain ⟨h1,h2⟩:=Bool.fW (show (Bool.rec false (Ch l m) (nS x m):Bool)=true from h)
   rcases List.mem_cons.1 hq with rfl|hq
   .exact jX.1 h1
   .exact Ac h2 q hq
theorem lH {α:Type} {k:Nat} {x:α}:∀ {l:List (Nat×α)},findF k l=some x->(k,x)∈l
 | [],h=>by simp [findF] at h
 | y::l,h=>by
   have h:(Bool.rec (findF k l) (some y.2) (Nat.beq y.1 k):Option α)=some x:=h
   cases hb:Nat.beq y.1 k with
   | true=>
     rw [hb] at h
     grind [cg]
   | false=>rw [hb] at h; exact fL _ (lH h)
theorem Gw {k q:Nat} {W:List (Nat×List Nat)} (h:q∈mO k W):∃ l,(k,l)∈W/\q∈l:=by
 grind [mO,lH]
def zl (A:List Nat) (i m j:Nat):Prop:=j≠i/\m.testBit j=false/\∀ x,A[j]?=some x->x.testBit i=false
theorem wZ {A:List Nat} {i m:Nat} {x:Nat×List Nat} {W:List (Nat×List Nat)}:dL A i m (x::W)=(Bool.rec (x.2++dL A i m W) (dL A i m W) (Nat.beq x.1 i||(Nat.testBit m x.1||(match aR A x.1 with
  | some x=>Nat.testBit x i
  | none=>false))):List Nat):=rfl
theorem zQ {A:List Nat} {i m:Nat} {q:Nat}:∀ {W:List (Nat×List Nat)} {x:Nat×List Nat},x∈W->q∈x.2->zl A i m x.1->q∈dL A i m W
 | [],x,h,_,_=>by simp at h
 | y::W,x,h,hq,hl=>by
   rw [wZ]
   rcases List.mem_cons.1 h with rfl|h
   .have h1:Nat.beq x.1 i=false:=by
     cases hb:Nat.beq x.1 i with
     | true=>exact (hl.1 (cg hb)).elim
     | false=>rfl
    have h2:(match aR A x.1 with
     | some x=>Nat.testBit x i
     | none=>false)=false:=by
     rw [bW]
     split
     .rename_i y hy; exact hl.2.2 y hy
     .rfl
    rw [h1,hl.2.1,h2]
    grind
   .have:=zQ h hq hl
    generalize (Nat.beq y.1 i||_)=b
    cases b with
    | true=>exact this
    | false=>grind
theorem zT {A:List Nat} {i m:Nat}:∀ {W:List (Nat×List Nat)},(∀ x∈W,¬ zl A i m x.1)->dL A i m W=[]
 | [],_=>rfl
 | x::W,h=>by
   rw [wZ]
   have ih:=zT (A:=A) (i:=i) (m:=m) (W:=W) λy hy=>h y (fL _ hy)
   have hx:=h x (jl ..)
   cases hb:(Nat.beq x.1 i||(Nat.testBit m x.1||(match aR A x.1 with
    | some x=>Nat.testBit x i
    | none=>false))) with
   | true=>exact ih
   | false=>
     simp only [Bool.or_eq_false_iff] at hb
     refine (hx ⟨λe=>?_,hb.2.1,λy hy=>?_⟩).elim
     all_goals grind [Nat.beq_refl,bW]
theorem xk {i m:Nat}:∀ {l:List Nat} {k:Nat},MS i m l k=true->∀ j x,l[j]?=some x->k+j=i∨m.testBit (k+j)=true∨x.testBit i=true
 | [],k,_,j,x,hx=>by simp at hx
 | y::l,k,h,j,x,hx=>by
   obtain ⟨h1,h2⟩:=Bool.fW (show (Bool.rec false (MS i m l (k+1)) (Nat.beq k i||(Nat.testBit m k||Nat.testBit y i)):Bool)=true from h)
   cases j with
   | zero=>
     simp_all
   | succ j=>
     have:=xk h2 j x (by simpa using hx)
     grind
theorem oR {A:List Nat} {i m:Nat} (hm:A[i]?=some m) (h:Et A i=true) {j x:Nat} (hx:A[j]?=some x):¬ zl A i m j:=by
 unfold Et at h
 rw [bW,hm] at h
 simp only at h
 rintro ⟨h1,h2,h3⟩
 rcases xk h j x hx with h4|h4|h4
 all_goals grind
theorem sQ {A:List Nat} {i b:Nat} {ops:List Oper} {s:VS} {o:Oper} {u:j8} (h:kz T lo hi A i b ops s o=some (.ok u)) :
  (lV ops s.sl o.guard=some false/\u=⟨o.dst,some (.t []),[],none,false⟩) ∨
  (lV ops s.sl o.guard=some true/\∃ e,fH T lo hi b s o.dst o.op=some e/\(∀ l,e ≠ .ct l)/\u.dst=o.dst/\
   ((∃ d,e=.val d/\u.val=some d/\u.ws=[]/\u.al=none)∨(∃ d ws,e=.wr d ws/\u.val=d/\u.ws=ws/\u.al=none)∨(∃ d rs,e=.all d rs/\u.val=some d/\u.ws=[]/\u.al=some rs/\Et A i=true) ∨
     (∃ d rs,e=.all d rs/\u.val=some d/\lo.diff s.rs rs=some u.ws/\u.al=none/\u.ex=true/\jf s.rs.length d=true))):=by
 unfold kz at h
 split at h
 .rename_i hw
  refine .inr ⟨hw,?_⟩
  unfold E9 at h
  split at h
  .grind
  .grind
  .simp at h
  .rename_i d rs he
   cases hb:Et A i with
   | false=>
     rw [hb] at h
     grind [M0,Bool.aw]
   | true=>
     rw [hb] at h
     grind
  .simp at h
 all_goals grind
theorem Ku {A:List Nat} {i b:Nat} {ops:List Oper} {s:VS} {o:Oper} {u:j8} (h:kz T lo hi A i b ops s o=some (.ok u)):u.dst=o.dst:=by
 rcases sQ h with ⟨_,rfl⟩|⟨_,e,_,_,h,_⟩
 .rfl
 .exact h
theorem wm {A:List Nat} {i b:Nat} {ops:List Oper} {s:VS} {o:Oper} {u:j8} (h:kz T lo hi A i b ops s o=some (.ok u)) (ha:u.al≠none):Et A i=true:=by
 rcases sQ h with ⟨_,rfl⟩|⟨_,e,_,_,_,h|h|h|h⟩
 .exact (ha rfl).elim
 all_goals grind
structure Open (T:dk) (lo:Lo) (hi:Hint) (N:Nat) (ops:List Oper) (A:List Nat) (W:List (Nat×List Nat)) (us:Nat->j8) (s0:VS) (b0:Nat):Prop where
 anc:Anc ops A
 below:∀ (i m:Nat),A[i]?=some m->∀ j,m.testBit j=true->j<i
 order:∀ (i:Nat) (o:Oper) (m:Nat),ops[i]?=some o->A[i]?=some m->Ax m o.guard=true/\rU ops m o.op.operands.toList=true
 TA:∀ (i j:Nat) (o o':Oper) (t:Tmp),ops[i]?=some o->ops[j]?=some o'->o.dst=some t->o'.dst=some t->i=j
 keys:∀ x∈W,x.1<ops.length
 sec:∀ (k:Nat) (o:Oper),ops[k]?=some o->∃ m,A[k]?=some m/\NZ T lo hi N ops A W k (b0+dI (ops.take k)) (dD us s0 (λ_=>true) k) o m (us k)
def qi (A:List Nat) (L:Nat->Bool):Prop:=∀ (j m:Nat),A[j]?=some m->L j=true->∀ k,m.testBit k=true->L k=true
section
variable {ops:List Oper} {A:List Nat} {W:List (Nat×List Nat)} {us:Nat->j8} {s0:VS} {b0:Nat} {L:Nat->Bool} {i m:Nat} {o:Oper}
theorem Open.get (hO:Open T lo hi N ops A W us s0 b0) {k:Nat} (hk:k<ops.length):∃ o m,ops[k]?=some o/\A[k]?=some m/\NZ T lo hi N ops A W k (b0+dI (ops.take k)) (dD us s0 (λ_=>true) k) o m (us k):=by
 obtain ⟨m,h1,h2⟩:=hO.sec k ops[k] (ka hk)
 grind
theorem Open.dst (hO:Open T lo hi N ops A W us s0 b0) {k:Nat} {o:Oper} (ho:ops[k]?=some o) {t:Tmp} (h:(QN t).ny (us k)):o.dst=some t:=by
 obtain ⟨m,_,h2⟩:=hO.sec k o ho
 rw [<- Ku h2.ev]
 exact j8.Vm h
theorem Open.loose (hO:Open T lo hi N ops A W us s0 b0) (hm:A[i]?=some m) {k q:Nat} (hk:k<ops.length) (hl:zl A i m k) (ht:(N7 q).ny (us k)):q∈dL A i m W:=by
 obtain ⟨o,x,h1,h2,h3⟩:=hO.get hk
 rcases ht with ht|ht
 .have hb:=wm h3.ev ht
  refine (oR h2 hb hm ?_).elim
  exact ⟨λe=>hl.1 e.symm,hl.2.2 x h2,λy hy=>by
   rw [hm] at hy
   simp only [au] at hy
   subst hy
   exact hl.2.1⟩
 .obtain ⟨l,h4,h5⟩:=Gw (Ac h3.sub q ht)
  exact zQ h4 h5 hl
theorem Open.same (hO:Open T lo hi N ops A W us s0 b0) (hL:qi A L) (hm:A[i]?=some m) (hi:L i=false) (hr:∀ k,m.testBit k=true->L k=true) {k:Nat} (hk:k<ops.length) (hl:¬ zl A i m k):((λ_=>true) k&&decide (k<i))=L k:=by
 obtain ⟨o,x,h1,h2,h3⟩:=hO.get hk
 by_cases e1:k=i
 .subst e1; simp [hi]
 .cases h4:m.testBit k with
  | true=>simp [hO.below i m hm k h4,hr k h4]
  | false=>
    cases h5:x.testBit i with
    | true=>
      have:=hO.below k x h2 i h5
      have h6:L k=false:=by
       cases hLk:L k with
       | false=>rfl
       | true=>rw [hL k x h2 hLk i h5] at hi; simp at hi
      grind
    | false=>exact (hl ⟨e1,h4,λy hy=>by
      grind⟩).elim
theorem Open.slot (hO:Open T lo hi N ops A W us s0 b0) (hL:qi A L) (hm:A[i]?=some m) (gI:i<ops.length) (hi:L i=false) (hr:∀ k,m.testBit k=true->L k=true) {t:Tmp}
  (ht:∀ k o,ops[k]?=some o->o.dst=some t->m.testBit k=true):dW (dD us s0 (λ_=>true) i).sl t=dW (dD us s0 L ops.length).sl t:=by
 rw [<- mJ (L:=λ_=>true) (Nat.le_of_lt gI)]
 refine (QN t).agree λk hk Ry=>?_
 obtain ⟨o,x,h1,h2,h3⟩:=hO.get hk
 have h4:=ht k o h1 (hO.dst h1 Ry)
 exact hO.same hL hm hi hr hk λhl=>by rw [hl.2.1] at h4; simp at h4
theorem Open.root (hO:Open T lo hi N ops A W us s0 b0) (hL:qi A L) (hm:A[i]?=some m) (gI:i<ops.length) (hi:L i=false) (hr:∀ k,m.testBit k=true->L k=true) {q:Nat}
  (hq:q ∉ dL A i m W):aR (dD us s0 (λ_=>true) i).rs q=aR (dD us s0 L ops.length).rs q:=by
 rw [<- mJ (L:=λ_=>true) (Nat.le_of_lt gI)]
 refine (N7 q).agree λk hk Ry=>?_
 exact hO.same hL hm hi hr hk λhl=>hq (hO.loose hm hk hl Ry)
theorem xX:∀ (ws:List (Nat×ae)) (rs:List ae),(writes ws rs).length=rs.length
 | [],_=>rfl
 | p::ws,rs=>by
   show (writes ws (setAt rs p.1 p.2)).length=_
   rw [xX ws,ba,List.length_set]
theorem zY:∀ (l:List Nat) (rs:List ae),(vF l rs).length=rs.length
 | [],_=>rfl
 | q::l,rs=>by
   show (vF l (setAt rs q .dead)).length=_
   rw [zY l,ba,List.length_set]
noncomputable def ap9:View Nat where
 f s:=s.rs.length
 act u x:=match u.al with
  | some rs=>rs.length
  | none=>x
 ny u:=u.al≠none
 on u s:=by
  have:(u.on s).rs=writes u.ws (CC u.al s.rs):=by
   unfold j8.on yw
   grind
  grind [xX,CC]
 idle u x h:=by
  grind
theorem Open.len (hO:Open T lo hi N ops A W us s0 b0) (hL:qi A L) (hm:A[i]?=some m) (gI:i<ops.length) (hi:L i=false) (hr:∀ k,m.testBit k=true->L k=true) :
  (dD us s0 (λ_=>true) i).rs.length=(dD us s0 L ops.length).rs.length:=by
 rw [<- mJ (L:=λ_=>true) (Nat.le_of_lt gI)]
 refine ap9.agree λk hk Ry=>?_
 refine hO.same hL hm hi hr hk λhl=>?_
 obtain ⟨o,x,h1,h2,h3⟩:=hO.get hk
 refine (oR h2 (wm h3.ev Ry) hm ?_).elim
 exact ⟨λe=>hl.1 e.symm,hl.2.2 x h2,λy hy=>by
  rw [hm] at hy
  simp only [au] at hy
  subst hy
  exact hl.2.1⟩
theorem EW {α:Type} {l l':List α} (h:∀ q,aR l q=aR l' q):l=l':=List.ext_getElem? λq=>by rw [<- bW,<- bW,h q]
theorem Open.Rq (hO:Open T lo hi N ops A W us s0 b0) (hL:qi A L) (ho:ops[i]?=some o) (hm:A[i]?=some m) (gI:i<ops.length) (hi:L i=false) :
  (dD us s0 (more L i) ops.length).rs=((us i).on (dD us s0 L ops.length)).rs/\∀ t,dW (dD us s0 (more L i) ops.length).sl t=dW ((us i).on (dD us s0 L ops.length)).sl t:=by
 refine ⟨EW λq=>((N7 q).step gI hi λht k h1 h2 h3 Ry=>?_).symm,λt=>((QN t).step gI hi λht k h1 h2 h3 Ry=>?_).symm⟩
 .obtain ⟨o',x,h4,h5,h6⟩:=hO.get h2
  obtain ⟨m',h7,h8⟩:=hO.sec i o ho
  rw [hm] at h7
  simp only [au] at h7
  subst h7
  have hl:zl A i m k:=by
   refine ⟨by omega,?_,λy hy=>?_⟩
   .cases hb:m.testBit k with
    | false=>rfl
    | true=>have:=hO.below i m hm k hb; omega
   .cases hb:y.testBit i with
    | false=>rfl
    | true=>rw [hL k y hy h3 i hb] at hi; simp at hi
  rcases ht with ht|ht
  .exact oR hm (wm h8.ev ht) h5 hl
  .exact ur h8.apart q ht (hO.loose hm h2 hl Ry)
 .obtain ⟨o',x,h4,h5,h6⟩:=hO.get h2
  have:=hO.TA i k o o' t ho h4 (hO.dst ho ht) (hO.dst h4 Ry)
  omega
theorem yb:∀ {sl:aL} {t:Tmp} {d:D} {c:eF},look sl t=some (d,c)->dW sl t=some d
 | [],t,d,c,h=>by simp [look] at h
 | (k,x,c')::sl,t,d,c,h=>by
   rw [xF]
   simp only [look] at h
   split at h
   .simp_all
   .rename_i hb
    rw [hb]; exact yb h
theorem look_nil:∀ {sl:aL} {t:Tmp} {d:D} {c:eF},bw sl->look sl t=some (d,c)->c=[]
 | [],t,d,c,_,h=>by simp [look] at h
 | (k,x,c')::sl,t,d,c,hn,h=>by
   simp only [look] at h
   split at h
   .simp only [au,bs] at h
    rw [<- h.2]; exact hn _ (jl ..)
   .exact look_nil (λy hy=>hn y (fL _ hy)) h
theorem R.like (h:R T N ax w0 sp s a w E) (hn:bw s.sl) {s':VS} (nr:bw s'.sl) (h1:s'.rs=s.rs) (h2:s'.df=s.df) (h3:∀ t,dW s'.sl t=dW s.sl t):R T N ax w0 sp s' a w E:=by
 obtain ⟨fI,aG,Iy⟩:=s'
 simp only at h1 h2
 subst h1 h2
 exact ⟨h.size,h.defers,h.spec,h.below,h.len,h.outer,h.roots,h.cJ,h.dz,λt d c hl=>by
  have hc:=look_nil nr hl
  subst hc
  exact h.slots t d [] (ft hn ((h3 t).symm.trans (yb hl))),h.fS⟩
theorem H0 {sl fI:aL} {g:Option (Nat×Bool)} (h:∀ j b p t,g=some (j,b)->ops[j]?=some p->p.dst=some t->dW sl t=dW fI t):lV ops sl g=lV ops fI g:=by
 unfold lV
 split
 all_goals grind [bW]
theorem DU {b:Nat} {rs:List ae} {d:Option D} {ws:List (Nat×ae)} (h:Shape b rs ws) (hb:b<rs.length):C9 (.wr d ws) rs=writes ws rs:=by
 rcases h with ⟨x,rfl⟩|⟨q,x,rfl,hq⟩|⟨q,x,y,rfl⟩
 .show place b x rs=setAt rs b x
  rw [gJ x hb,ba]
 .show place q x rs=setAt rs q x
  rw [gJ x hq,ba]
 .show place b y (setAt rs q x)=setAt (setAt rs q x) b y
  grind [gJ,ba]
theorem Mh {rs:List ae} {d:Option D} {ws:List (Nat×ae)} (h:∀ b,Shape b rs ws):C9 (.wr d ws) rs=writes ws rs:=by
 have key:∀ q x,ws=[(q,x)]->q<rs.length->C9 (.wr d ws) rs=writes ws rs:=λq x e hq=>by
  subst e
  show place q x rs=setAt rs q x
  rw [gJ x hq,ba]
 rcases h 0 with ⟨x,h0⟩|⟨q,x,h0,hq⟩|⟨q,x,y,h0⟩
 .rcases h 1 with ⟨x',h1⟩|⟨q',x',h1,hq⟩|⟨q',x',y',h1⟩
  all_goals grind
 .exact key _ _ h0 hq
 .rcases h 1 with ⟨x',h1⟩|⟨q',x',h1,hq⟩|⟨q',x',y',h1⟩
  all_goals grind
theorem R.Bs (h:R T N ax w0 sp s a w E) {r:Nat} (hE:E[r]?=some hole):s.rs[r]?=some .dead:=by
 have hr:r<s.rs.length:=by rw [<- h.len]; grind
 have hx:=ka hr
 rw [hx]
 have hrel:=h.roots r _ _ hx hE
 generalize s.rs[r]=x at hrel
 cases x with
 | dead=>rfl
 | box l=>obtain ⟨b,_,_,h1,_⟩:=hrel; simp [hole] at h1
 | arr el sz n get=>
   obtain ⟨_,_,xs,h1,_⟩:=hrel
   rcases h1.2 with ⟨h2,_⟩|⟨g,cap,cur,h2,_⟩<;>simp [hole,undef] at h2
 | row el sz n l=>
   obtain ⟨_,_,xs,h1,_⟩:=hrel
   rcases h1.2 with ⟨h2,_⟩|⟨g,cap,cur,h2,_⟩<;>simp [hole,undef] at h2
 | bL el sz n get dJ=>
   obtain ⟨_,_,xs,h1,_⟩:=hrel
   rcases h1.2 with ⟨h2,_⟩|⟨g,cap,cur,h2,_⟩<;>simp [hole,undef] at h2
 | own l=>
   obtain ⟨_,h0,vs,h1,h2,_⟩:=hrel
   grind [hole,undef]
 | set l=>obtain ⟨b,_,_,h1,_⟩:=hrel; simp [hole] at h1
 | loop f M sl ps as bd st fi=>obtain ⟨b,_,_,h1,_⟩:=hrel; simp [hole] at h1
 | kF=>obtain ⟨b,h1,_⟩:=hrel; simp [hole] at h1
structure nu (b0:Nat) (E E':Env):Prop where
 le:Env.le E E'
 free:∀ q:Nat,q<b0->E[q]?=some hole->E'[q]?=some hole
theorem nu.trans {b0:Nat} {E F G:Env} (h:nu b0 E F) (k:nu b0 F G):nu b0 E G:=⟨h.le.trans k.le,λq hq e=>k.free q hq (h.free q hq e)⟩
theorem nu.refl (b0:Nat) (E:Env):nu b0 E E:=⟨Env.le_refl E,λ_ _ h=>h⟩
theorem Qf {b b':Nat} {s:VS} {dst:Option Tmp} {op:Op} {d:D} {rs:List ae} (h:fH T lo hi b s dst op=some (.all d rs)):fH T lo hi b' s dst op=some (.all d rs):=by
 by_cases hm:dP op=0
 .rw [oe hm (b':=b)]; exact h
 unfold fH at h ⊢
 split at h
 .simp at h
 .rename_i hl
  cases op with
  | call c=>
    have h:gL T lo hi b s c=_:=h
    show gL T lo hi b' s c=_
    unfold gL at h ⊢
    split at h
    .exfalso
     have fin:∀ {el sz k:Nat} {l':List C} {yD:Nat} {c:C},CT el sz k l' yD b s.rs c≠some (.all d rs):=by
      intro el sz k l' yD c q
      unfold CT at q
      grind [Bool.aw]
     unfold ob at h
     split at h
     case h_2=>simp at h
     replace h:=(Bool.aw h).2
     split at h
     case h_2=>simp at h
     split at h
     .rename_i e' he'
      subst h
      unfold o5 at he'
      split at he'
      case h_2=>simp at he'
      split at he'
      case h_2=>simp at he'
      split at he'
      case h_2=>simp at he'
      simp only [au] at he'
      unfold AE at he'
      split at he'
      .replace he':=(Bool.aw he').2
       unfold qM at he'
       grind [Bool.aw]
      grind [nW]
     unfold nZ at h
     split at h
     case h_2=>simp at h
     split at h
     all_goals grind [Bool.aw]
    .unfold lx at h ⊢
     split at h
     case h_2=>simp at h
     split at h
     .exact h
     .split at h
      case h_2=>simp at h
      unfold nO at h ⊢
      split at h
      .exact h
      .exact h
      .exfalso
       unfold fK at h
       split at h
       .simp at h
       .revert h
        generalize eI _=p
        intro h
        cases p with
        | true=>simp at h
        | false=>
          rcases mH h with ⟨l,hl⟩|⟨hl,_⟩
          all_goals grind
       .rcases mH h with ⟨l,hl⟩|⟨hl,_⟩
        all_goals grind
       .simp at h
      .grind
      .exfalso
       obtain ⟨is',cs,qR,L,_,_,_,_,q⟩:=j4 h
       cases q
      .exact h
    .simp at h
  | box t x=>
    have h:uL b s x=_:=h
    grind [uL]
  | alloc t=>
    have h:j6 T b t=_:=h
    grind [j6]
  | makeMap t r=>
    have h:kp T b t r=_:=h
    unfold kp at h
    split at h<;>simp at h
  | makeSlice t l c=>
    have h:lI T b s t l c=_:=h
    unfold lI at h
    split at h
    case h_2=>simp at h
    split at h
    case h_2=>simp at h
    split at h
    case h_2=>simp at h
    split at h
    all_goals grind [Bool.aw]
  | buildSlice t n ps=>
    have h:LF T b s (zf hi dst) t n ps.toList=_:=h
    unfold LF at h
    split at h
    all_goals grind [Bool.aw,jq]
  | _=>exact (hm rfl).elim
def C1 (ops:List Oper) (b0:Nat) (L:Nat->Bool) (E:Env):Prop:=∀ j o,ops[j]?=some o->L j=false->dP o.op≠0->E[b0+dI (ops.take j)]?=some hole
theorem py (l m:List Oper):dI (l++m)=dI l+dI m:=by
 induction l with
 | nil=>show dI m=0+dI m; omega
 | cons o l ih=>
   show dP o.op+dI (l++m)=(dP o.op+dI l)+dI m
   rw [ih]; omega
theorem iW {ops:List Oper} {j:Nat} {o:Oper} (h:ops[j]?=some o):dI (ops.take (j+1))=dI (ops.take j)+dP o.op:=by
 rw [List.take_add_one,h,py]
 rfl
theorem kl (ops:List Oper) {j k:Nat} (h:j<=k):dI (ops.take j)<=dI (ops.take k):=by
 grind [List.take_append_drop,py]
theorem Ln {j k:Nat} {o o':Oper} (hj:ops[j]?=some o) (hk:ops[k]?=some o') (h1:dP o.op≠0) (h2:dP o'.op≠0) (wc:j≠k):dI (ops.take j)≠dI (ops.take k):=by
 rcases Nat.lt_or_ge j k with h|h
 .have:=kl ops (j:=j+1) (k:=k) h
  rw [iW hj] at this
  omega
 .have:=kl ops (j:=k+1) (k:=j) (by omega)
  rw [iW hk] at this
  omega
theorem OT {s:VS} {dst:Option Tmp} {e:cn} {u:j8} (hd:u.dst=dst) (yo:CU N u.dst u.val=true) (hv:u.val=dH e) (UM:∀ l,e ≠ .ct l) (NK:C9 e s.rs=writes u.ws (CC u.al s.rs)):pM N s dst e=some (u.on s):=by
 subst hd
 have key:∀ (d:D) (s1:VS),u.val=some d->s1={ s with rs:=writes u.ws (CC u.al s.rs) }->qq N s1 u.dst d=some (u.on s):=λd s1 hv hs=>by
  subst hs
  unfold j8.on qq yw
  unfold CU at yo
  cases hdst:u.dst with
  | none=>rfl
  | some t=>
    rw [hdst,hv] at yo
    simp only [hv,show Nat.blt t N=true from yo]
 cases e with
 | val d=>
   refine key d s hv ?_
   obtain ⟨sl,rs,df⟩:=s
   have:rs=_:=NK
   grind
 | wr d ws=>
   show IY N _ u.dst d=_
   have hv:u.val=d:=hv
   cases d with
   | some d=>exact key d _ hv (by rw [<- NK])
   | none=>
     unfold CU at yo
     grind [j8.on,yw,IY]
 | all d rs=>exact key d _ hv (by rw [<- NK]; rfl)
 | ct l=>exact (UM l rfl).elim
theorem Open.op {ops:Array Oper} (hO:Open T lo hi N ops.toList A W us s0 b0) (bC:cZ P T) (CB:gw T P lo) (hL:qi A L) (ho:ops[i]?=some o) (hm:A[i]?=some m) (Vk:L i=false) (hr:∀ k,m.testBit k=true->L k=true)
  (h:R T N ax w0 sp (dD us s0 L ops.size) a w E) (hn:bw s0.sl) (hh:C1 ops.toList b0 L E) {Q:Exit->Act->World->Prop} {K:Act->World->Prop}
  (hK:∀ a' w' E',nu b0 E E'->R T N ax w0 sp (dD us s0 (more L i) ops.size) a' w' E'->C1 ops.toList b0 (more L i) E'->K a' w'):wpOpIn (Fr ρ) 0 P ops Q i K a w:=by
 have hlen:ops.toList.length=ops.size:=by simp
 have ho':ops.toList[i]?=some o:=by simpa using ho
 have gI:i<ops.toList.length:=(List.getElem?_eq_some_iff.1 ho').1
 obtain ⟨m',h1,hs⟩:=hO.sec i o ho'
 rw [hm] at h1
 simp only [au] at h1
 subst h1
 have hord:=hO.order i o m ho' hm
 let S:=dD us s0 L ops.size
 have hnS:bw S.sl:=oD hn _
 have slot:∀ {t:Tmp},(∀ k o,ops.toList[k]?=some o->o.dst=some t->m.testBit k=true)->dW (dD us s0 (λ_=>true) i).sl t=dW S.sl t:=λht=>by
  have:=hO.slot hL hm gI Vk hr ht
  grind
 have hfin:∀ {a' w' E'},nu b0 E E'->R T N ax w0 sp ((us i).on S) a' w' E'->C1 ops.toList b0 (more L i) E'->K a' w':=λ{a' w' E'} Yy hR hH=>by
  obtain ⟨q1,q2⟩:=hO.Rq hL ho' hm gI Vk
  rw [hlen] at q1 q2
  exact hK _ _ _ Yy (hR.like (j8.NB _ hnS) (oD hn _) q1 (by rw [j8.Us,uZ,uZ]) q2) hH
 have hwant:∀ {b:Bool},lV ops.toList (T1 (dL A i m W) (dD us s0 (λ_=>true) i)).sl o.guard=some b->Region.wanted o (yielded ops a.tmps)=b:=λ{b} hw=>by
  rw [HI] at hw
  refine qD h hnS (b:=b) ?_
  rw [<- hw]
  refine (H0 λj b p t hg hp ht=>?_).symm
  refine slot λk o1 hk nG=>?_
  have:=hO.TA j k p o1 t hp hk ht nG
  subst this
  have:=hord.1
  rw [hg] at this
  exact this
 unfold wpOpIn
 rw [ho]
 simp only
 rcases sQ hs.ev with ⟨hw,hu⟩|⟨hw,e,he,UM,hdst,hcase⟩
 .rw [if_neg (by rw [hwant hw]; simp)]
  refine ⟨λ_ _=>trivial,?_⟩
  have lC:qq N S o.dst (.t [])=some ((us i).on S):=by
   have yo:=hs.ok
   rw [hu] at yo ⊢
   unfold qq j8.on yw
   unfold CU at yo
   cases hd:o.dst with
   | none=>rfl
   | some t=>
     rw [hd] at yo
     simp only at yo
     simp only [yo]
     rfl
  obtain ⟨h2,h3⟩:=pU h hnS lC za
  refine hfin (nu.refl _ _) h2 λj oj hj Ee WR=>?_
  by_cases hji:j=i
  .subst hji; rw [jZ] at Ee; simp at Ee
  .rw [ik hji] at Ee; exact hh j oj hj Ee WR
 .rw [if_pos (hwant hw)]
  rw [HI] at he
  have hops:∀ x∈o.op.operands.toList,ch (dD us s0 (λ_=>true) i).sl x=ch S.sl x:=λx hx=>by
   cases x with
   | tmp t=>
     refine slot λk o1 hk nG=>?_
     have:=kc hord.2 t hx
     unfold JL at this
     split at this
     .rename_i j hj
      obtain ⟨j',o2,h4,h5,h6⟩:=wx hj
      have:=hO.TA j' k o2 o1 t h5 hk h6 nG
      grind
     grind [pY]
   | _=>rfl
  have hrle:oX (vF (dL A i m W) (dD us s0 (λ_=>true) i).rs) S.rs:=λq x hq hx=>by
   obtain ⟨h4,h5⟩:=zK _ _ hq hx
   have:=hO.root hL hm gI Vk hr h4
   grind
  have hall:∀ d r,e=.all d r->vF (dL A i m W) (dD us s0 (λ_=>true) i).rs=S.rs:=λd r hd=>by
   have qO:dL A i m W=[]:=by
    rcases hcase with ⟨_,h4,_⟩|⟨_,_,h4,_⟩|⟨_,_,_,_,_,_,h4⟩|⟨_,_,_,_,_,_,h4,_⟩
    .rw [hd] at h4; cases h4
    .rw [hd] at h4; cases h4
    .exact zT λx hx=>by
      obtain ⟨_,y,_,h5,_⟩:=hO.get (hO.keys x hx)
      exact oR hm h4 h5
    .have:=hs.ex
     grind [Q1]
   rw [qO]
   refine EW λq=>?_
   have:=hO.root hL hm gI Vk hr (q:=q) (by rw [qO]; simp)
   rw [hlen] at this
   exact this
  have heS:fH T lo hi (b0+dI (ops.toList.take i)) S o.dst o.op=some e:=GH (Iy:=S.df) CB.mono (by rw [zY]; have:=hO.len hL hm gI Vk hr; grind) hrle hops UM hall he
  by_cases hc4:∃ d rs,e=.all d rs/\(us i).val=some d/\lo.diff S.rs rs=some (us i).ws/\(us i).al=none/\jf S.rs.length d=true
  .obtain ⟨d,aG,h4,h5,h6,h7,h8⟩:=hc4
   subst h4
   have he':=Qf (b':=S.rs.length) heS
   rcases qy bC CB h hnS (.inr rfl) he' (next:=K) (λv w' E' ha=>by
    obtain ⟨g1,g2,g3⟩:=ha
    have hk:=Kept.IM g1 (Nat.le_of_eq h.len)
    obtain ⟨E1,hkE,hEl,k1,k2⟩:=R.trim (sl:=S.sl) (df:=S.df) h g2 hk (CB.diff _ _ _ h6) h8 (g3 d rfl)
    have lC:qq N { S with rs:=writes (us i).ws S.rs } o.dst d=some ((us i).on S):=by
     have yo:=hs.ok
     rw [<- hdst]
     unfold j8.on qq yw CC
     unfold CU at yo
     rw [h7,h5]
     cases hdst':(us i).dst with
     | none=>rfl
     | some t=>
       rw [hdst',h5] at yo
       simp only [show Nat.blt t N=true from yo]
    obtain ⟨k3,k4⟩:=pU k1 hnS lC k2
    refine hfin ⟨hkE.le,λq _ e=>hkE.free q e⟩ k3 λj oj hj Ee WR=>?_
    by_cases hji:j=i
    .subst hji; rw [jZ] at Ee; simp at Ee
    .rw [ik hji] at Ee; exact hkE.free _ (hh j oj hj Ee WR)) with ⟨l,hl⟩|h3
   .exact (UM l hl).elim
   .exact h3.wpIn
  have hcase:(∃ d,e=.val d/\(us i).val=some d/\(us i).ws=[]/\(us i).al=none)∨(∃ d ws,e=.wr d ws/\(us i).val=d/\(us i).ws=ws/\(us i).al=none)∨(∃ d rs,e=.all d rs/\(us i).val=some d/\(us i).ws=[]/\(us i).al=some rs/\Et A i=true):=by
   grind [HI]
  have hbr:∃ b,fH T lo hi b S o.dst o.op=some e/\kG S E b/\C9 e S.rs=writes (us i).ws (CC (us i).al S.rs)/\(∀ E',lN b E E'->C1 ops.toList b0 (more L i) E')/\(∀ E',lN b E E'->nu b0 E E'):=by
   by_cases WR:dP o.op=0
   .refine ⟨S.rs.length,by grind [oe],.inr rfl,?_,λE' hg j oj hj Ee SX=>?_,λE' hg=>⟨hg.le,λq hq e=>hg.free q (λe'=>by
     have:=(List.getElem?_eq_some_iff.1 e).1
     rw [h.len] at this
     grind) e⟩⟩
    .rcases hcase with ⟨d,h4,_,h5,h6⟩|⟨d,ws,h4,_,h5,h6⟩|⟨d,rs,h4,_,h5,h6,_⟩
     .rw [h4,h5,h6]; rfl
     .rw [h4,h5,h6]
      refine Mh λb=>wR (T:=T) (lo:=lo) (hi:=hi) (dst:=o.dst) (op:=o.op) (d:=d) (s:=S) ?_
      grind [oe]
     .rw [h4,h5,h6]; rfl
    .by_cases hji:j=i
     .grind
     .rw [ik hji] at Ee
      have h7:=hh j oj hj Ee SX
      refine hg.free _ ?_ h7
      have:=(List.getElem?_eq_some_iff.1 h7).1
      rw [h.len] at this
      exact Nat.ne_of_lt this
   .have h7:=hh i o ho' Vk WR
    have eG:b0+dI (ops.toList.take i)<S.rs.length:=by
     have:=(List.getElem?_eq_some_iff.1 h7).1
     rw [h.len] at this
     exact this
    refine ⟨_,heS,.inl ⟨h.Bs h7,h7⟩,?_,λE' hg j oj hj Ee SX=>?_,λE' hg=>⟨hg.le,λq hq e=>hg.free q (by omega) e⟩⟩
    .rcases hcase with ⟨d,h4,_,h5,h6⟩|⟨d,ws,h4,_,h5,h6⟩|⟨d,rs,h4,_,h5,h6,_⟩
     .rw [h4,h5,h6]; rfl
     .rw [h4,h5,h6]
      rw [h4] at heS
      exact DU (wR heS) eG
     .rw [h4,h5,h6]; rfl
    .by_cases hji:j=i
     .subst hji; rw [jZ] at Ee; simp at Ee
     .rw [ik hji] at Ee
      have h8:=hh j oj hj Ee SX
      refine hg.free _ ?_ h8
      have:=Ln hj ho' SX WR hji
      omega
  obtain ⟨b,hb1,hb2,hb3,hb4,hb5⟩:=hbr
  have hval:(us i).val=dH e:=by
   rcases hcase with ⟨d,h4,h5,_⟩|⟨d,ws,h4,h5,_⟩|⟨d,rs,h4,h5,_⟩<;>rw [h4,h5]<;>rfl
  have lC:=OT hdst hs.ok hval UM hb3
  have hd:=EH hb1
  rcases qy bC CB h hnS hb2 hb1 (next:=K) (λv w' E' ha=>by
   obtain ⟨h3,h4⟩:=If hnS lC ha (λq=>by
    grind)
   exact hfin (hb5 _ ha.1) h3 (hb4 _ ha.1)) with ⟨l,hl⟩|h3
  .exact (UM l hl).elim
  .exact h3.wpIn
end
def QP:List Bool->Nat
 | []=>0
 | true::l=>QP l
 | false::l=>QP l+1
theorem Ip:∀ {l:List Bool} {i:Nat},l[i]?=some false->QP (l.set i true)+1=QP l
 | [],i,h=>by simp at h
 | b::l,0,h=>by
   simp at h; subst h; rfl
 | b::l,i+1,h=>by
   have ih:=Ip (l:=l) (i:=i) (by simpa using h)
   cases b with
   | true=>exact ih
   | false=>simp only [List.set_cons_succ,QP]; omega
theorem wH:∀ {l:List Bool},QP l=0->∀ (i:Nat),l[i]?≠some false
 | [],_,i=>by simp
 | true::l,h,i=>by
   cases i with
   | zero=>simp
   | succ i=>simpa using wH (l:=l) h i
 | false::l,h,i=>by simp [QP] at h
theorem pz:∀ n,QP (List.replicate n false)=n
 | 0=>rfl
 | n+1=>by rw [List.replicate_succ]; simp only [QP]; rw [pz n]
section
variable {ops:Array Oper} {A:List Nat} {W:List (Nat×List Nat)} {us:Nat->j8} {s0:VS} {b0:Nat}
theorem sS {cz:Array Bool} {i:Nat} (h:i∈Region.ready .any ops cz):i<ops.size/\cz.getD i true=false/\∃ o,ops[i]?=some o/\∀ e∈o.after.toList,Region.binds .any e=true->cz.getD e.on false=true:=by
 unfold Region.ready at h
 rw [List.mem_filter,List.mem_range,di] at h
 obtain ⟨h1,h2,h3⟩:=h
 refine ⟨h1,by simpa using h2,?_⟩
 rw [Array.getElem?_eq_getElem h1] at h3 ⊢
 refine ⟨_,rfl,λe he hb=>?_⟩
 simp only [Option.map_some,Option.getD_some] at h3
 rw [<- Array.all_toList,List.all_eq_true] at h3
 grind
theorem JP {cz:Array Bool} (hO:Open T lo hi N ops.toList A W us s0 b0) (gA:cz.size=ops.size) (h:Region.ready .any ops cz=[]):∀ k,k<ops.size->cz.getD k false=true:=by
 intro k
 induction k using Nat.strongRecOn with
 | _ k ih=>
   intro hk
   cases hL:cz.getD k false with
   | true=>rfl
   | false=>
     have nG:k<cz.size:=by omega
     have hget:cz[k]=false:=by simp_all
     have:k∈Region.ready .any ops cz:=by
      unfold Region.ready
      rw [List.mem_filter,List.mem_range,di]
      refine ⟨hk,by grind,?_⟩
      rw [Array.getElem?_eq_getElem hk]
      simp only [Option.map_some,Option.getD_some]
      rw [<- Array.all_toList,List.all_eq_true]
      intro e he
      cases hb:Region.binds .any e with
      | false=>rfl
      | true=>
        have ho:ops.toList[k]?=some ops[k]:=by simp [hk]
        obtain ⟨m,hm,_⟩:=hO.sec k _ ho
        have hbit:m.testBit e.on=true:=(hO.anc.bits k _ m ho hm e.on).2 ⟨e,he,hb,.inl rfl⟩
        have eG:=hO.below k m hm e.on hbit
        grind
     grind
theorem Open.run (hO:Open T lo hi N ops.toList A W us s0 b0) (bC:cZ P T) (CB:gw T P lo) (hn:bw s0.sl) {Q:Exit->Act->World->Prop}
  {E0:Env} (hQ:∀ a' w' E',nu b0 E0 E'->R T N ax w0 sp (dD us s0 (λ_=>true) ops.size) a' w' E'->Q .normal a' w') :
  ∀ (fuel:Nat) (cz:Array Bool) (a:Act) (w:World) (E:Env),nu b0 E0 E->cz.size=ops.size->qi A (λk=>cz.getD k false)->R T N ax w0 sp (dD us s0 (λk=>cz.getD k false) ops.size) a w E->
   C1 ops.toList b0 (λk=>cz.getD k false) E->QP cz.toList<=fuel->wpAnyIn (Fr ρ) 0 P .any ops Q fuel cz a w
 | fuel,cz,a,w,E,Yy,gA,hC,h,hh,hu=>by
   have hend:Region.ready .any ops cz=[]->Q .normal a w:=λhr=>by
    grind [JP,qF]
   cases fuel with
   | zero=>
     refine ⟨?_,?_⟩
     .cases hr:Region.ready .any ops cz with
      | nil=>rfl
      | cons i l=>
        obtain ⟨h1,h2,_⟩:=sS (show i∈Region.ready .any ops cz by rw [hr]; simp)
        have gI:i<cz.size:=by omega
        refine (wH (l:=cz.toList) (by omega) i ?_).elim
        simp_all
     .refine hend ?_
      cases hr:Region.ready .any ops cz with
      | nil=>rfl
      | cons i l=>
        obtain ⟨h1,h2,_⟩:=sS (show i∈Region.ready .any ops cz by rw [hr]; simp)
        have gI:i<cz.size:=by omega
        refine (wH (l:=cz.toList) (by omega) i ?_).elim
        simp_all
   | succ fuel=>
     refine ⟨hend,λi hi=>?_⟩
     obtain ⟨h1,h2,o,ho,hdep⟩:=sS hi
     have gI:i<cz.size:=by omega
     have hget:cz[i]=false:=by simp_all
     have ho':ops.toList[i]?=some o:=by simpa using ho
     obtain ⟨m,hm,_⟩:=hO.sec i o ho'
     have Vk:cz.getD i false=false:=by grind
     have hr:∀ k,m.testBit k=true->cz.getD k false=true:=λk hk=>by
      obtain ⟨e,he,hb,h3⟩:=(hO.anc.bits i o m ho' hm k).1 hk
      have h4:=hdep e he hb
      rcases h3 with rfl|⟨x,hx,hxk⟩
      .exact h4
      .rw [me] at hx
       split at hx
       .exact hC e.on x hx h4 k hxk
       .simp at hx
     have hmore:∀ k,(cz.setIfInBounds i true).getD k false=more (λk=>cz.getD k false) i k:=λk=>by
      grind [jZ,ik,Array.getInternal_eq_getElem]
     refine hO.op (L:=λk=>cz.getD k false) bC CB hC ho hm Vk hr h hn hh λa' w' E' aq1 hR hH=>?_
     refine Open.run hO bC CB hn hQ fuel (cz.setIfInBounds i true) a' w' E' (Yy.trans aq1) (by simpa using gA) ?_ ?_ ?_ ?_
     .intro j x hx hj k hk
      simp only [hmore] at hj ⊢
      by_cases hji:j=i
      .grind [ik]
      .rw [ik hji] at hj
       by_cases hki:k=i
       .subst hki; exact jZ _
       .rw [ik hki]; exact hC j x hx hj k hk
     .simp_all
     .simp_all
     .have:=Ip (l:=cz.toList) (i:=i) (by simp [gI,hget])
      grind
end
theorem uy (bC:cZ P T) (CB:gw T P lo) {ops:Array Oper} (lC:rk ops.toList=true) {sF:VS} {Q:Exit->Act->World->Prop} (hQ:∀ a' w' E',Kept E E'->R T N ax w0 sp sF a' w' E'->bw sF.sl->Q .normal a' w') :
  ∀ (n:Nat) {s:VS},xa T lo hi N ops.toList n s=some sF->R T N ax w0 sp s a w E->bw s.sl->wpAnyIn (Fr ρ) 0 P .any ops Q ops.size (Array.replicate ops.size false) a w
 | 0,s,e,h,hn=>by
   have e:(none:Option VS)=some sF:=e
   simp at e
 | n+1,s,e,h,hn=>by
   have e:(match lk T lo hi N (iN ops.toList []) ops.toList ops.toList 0 s.rs.length [] (fy ops.toList s) with
    | some (.ct l)=>match gg l s with
      | some s'=>xa T lo hi N ops.toList n s'
      | none=>none
    | some (.ok W s')=>z6 T lo hi N ops.toList (fy ops.toList s) s' s.rs.length W
    | none=>none)=some sF:=e
   split at e
   .split at e
    case h_2=>simp at e
    rename_i s' hs'
    obtain ⟨h1,h2⟩:=h.gg hs'
    exact uy bC CB lC hQ n e h1 (h2 hn)
   .rename_i W s' hf
    have hlen:ops.toList.length=ops.size:=by simp
    have hanc:=Xy ops.toList
    have hsec:∃ W,(∀ x∈W,x.1<ops.toList.length)/\jT T lo hi N ops.toList (iN ops.toList []) W ops.toList (iN ops.toList []) 0 s.rs.length (fy ops.toList s)=some sF:=by
     unfold z6 at e
     split at e
     .simp only [au] at e
      subst e
      exact ⟨[],λx hx=>by simp at hx,(pN hf).2 _ hanc.len⟩
     .exact ⟨_,λx hx=>by have:=tZ hf (λx hx=>by simp at hx) x hx; omega,e⟩
    obtain ⟨W,hkeys,hsec⟩:=hsec
    obtain ⟨us,h1,h2⟩:=re hsec
    unfold rk at lC
    simp only [di] at lC
    have hO:Open T lo hi N ops.toList (iN ops.toList []) W us (fy ops.toList s) s.rs.length:={
     anc:=hanc
     below:=λi m hm j hj=>by have:=uk lC.2.2 i m hm j hj; omega
     order:=λi o m ho hm=>uq lC.2.1 i o m ho hm
     TA:=wJ lC.1
     keys:=hkeys
     sec:=λk o hk=>by
      grind }
    have hR:=h.UN (dI ops.toList)
    have qO:bw (fy ops.toList s).sl:=hn
    rw [hlen] at h1
    have hget0:∀ k,(Array.replicate ops.size false).getD k false=false:=λk=>by simp [Array.getD]
    have hS0:dD us (fy ops.toList s) (λk=>(Array.replicate ops.size false).getD k false) ops.size=fy ops.toList s:=by
     rw [qF (L':=λ_=>false) λk _=>hget0 k]
     have:∀ n,dD us (fy ops.toList s) (λ_=>false) n=fy ops.toList s:=by
      intro n
      induction n with
      | zero=>rfl
      | succ n ih=>simp only [dD]; exact ih
     exact this _
    refine Open.run hO bC CB qO (E0:=E) (λa' w' E' Yy tb=>hQ a' w' E' ⟨Yy.le,λq e=>Yy.free q (by rw [<- h.len]; grind) e⟩ (by rw [h1]; exact tb) (by rw [h1]; exact oD qO _)) ops.size _ a w (E++List.replicate (dI ops.toList) hole)
     ⟨Env.et _ _,λq _ e=>by grind⟩ (by simp) ?_ ?_ ?_ ?_
    .intro j m _ hj
     grind
    .rw [hS0]; exact hR
    .intro j o hj _ WR
     rw [<- h.len,nD (by omega),List.getElem?_replicate,if_pos]
     have h5:=iW hj
     have h6:=kl ops.toList (j:=j+1) (k:=ops.toList.length) (List.getElem?_eq_some_iff.1 hj).1
     grind
    grind [Array.toList_replicate,pz]
   .simp at e
theorem DP (bC:cZ P T) (hl:gw T P lo) (CQ:P.follows .mixedOrders=true) (h:R T N ax w0 sp s a w E) (hn:bw s.sl) {f:FuncId} {ro:Option Nat} {id:Nat} {ops:Array Oper} {s':VS} (e:regionF T lo hi N f ro id ops.toList true s=some s')
  {b:Frame} {k:List Item} {cs:List Frame}:∃ a' w' E',Kept E E'/\R T N ax w0 sp s' a' w' E'/\bw s'.sl/\Steps P (lone (b.atR a (.code (.region id ops true)::k)) cs w) (lone (b.atR a' k) cs w'):=by
 unfold regionF at e
 simp only at e
 split at e
 .simp at e
 split at e
 case h_2=>simp at e
 rename_i lC
 split at e
 case h_2=>simp at e
 rename_i s1 hs1
 simp only [au] at e
 subst e
 have hg:R T N ax w0 sp s a { w with drawn:=w.drawn+1 } E:=h.grown ⟨rfl,rfl,rfl,bl _,λ_ _=>rfl⟩
 have hw:=uy (ρ:=b.roundOf) (Q:=λen a' w'=>en=.normal/\∃ E',Kept E E'/\R T N ax w0 sp s1 a' w' E'/\bw s1.sl) bC hl lC (λa' w' E' hk h1 h2=>⟨rfl,E',hk,h1,h2⟩) 8 hs1 hg hn
 obtain ⟨en,a',w',⟨rfl,E',hk,h1,h2⟩,harr⟩:=wpIn_region_any (id:=id) CQ hw b k cs rfl trivial (I8 _ _)
 obtain ⟨h3,h4⟩:=Iq (hi:=hi) h1 h2 f id
 exact ⟨a',w',E',hk,h3,h4,StepsIn.steps harr⟩
end
open Go.RowKit
section
variable {P:Program} {T:dk} {lo:Lo} {hi:Hint} {N:Nat} {ax:Nat->Prop} {w0:Kp} {sp:List (D×Value)} {s:VS} {a:Act} {w:World} {E:Env} {f:FuncId} {ro:Option Nat}
def ir (E:Env) (b:Frame):Option Nat->Prop
 | none=>b.roundOf=none
 | some r=>∃ l sz,b.roundOf=some l/\bh E r l sz
theorem ir.mono {E E':Env} {b:Frame} (hE:Env.le E E'):∀ {ro:Option Nat},ir E b ro->ir E' b ro
 | none,h=>h
 | some r,⟨l,sz,h1,h2⟩=>⟨l,sz,h1,hE.at_ h2⟩
def uD:Option Code->List Item->Prop
 | none,todo=>todo=[]
 | some c,todo=>(∃ k,c=.ret/\todo=.code .ret::k)∨(∃ id k,c=.exit id/\todo=.code (.exit id)::k/\exitTo id k=none)
theorem R.loop (h:R T N ax w0 sp s a w E) {r M:Nat} {g:FuncId} {sl:aL} {ps:List Tmp} {as bd:Code} {st:LoopState} {fi:Option Code} (hr:s.rs[r]?=some (.loop g M sl ps as bd st fi)) :
  ∃ b hd sz db tm,E[r]?=some (some b,hd,sz)/\w.heap[b]?=some (.loop { state:=st,pending:=fi,fn:=g,tmps:=tm,params:=ps.toArray,assign:=as,body:=bd,defers:=db })/\tm.size=M/\gQ E (AV ax s.rs E) w M sl tm/\bw sl:=by
 have eG:r<E.length:=by rw [h.len]; grind
 have hE:=ka eG
 obtain ⟨b,db,tm,q1,q2,q3,q4,q5⟩:=h.roots r _ _ hr hE
 generalize E[r]=e at hE q1
 obtain ⟨e1,e2,e3⟩:=e
 have q1:e1=some b:=q1
 subst q1
 exact ⟨b,e2,e3,db,tm,hE,q2,q3,q4,q5⟩
theorem R.rb (h:R T N ax w0 sp s a w E) {r M b sz:Nat} {hd:Hd} {g:FuncId} {sl:aL} {ps:List Tmp} {as bd:Code} {st:LoopState} {fi:Option Code} (hr:s.rs[r]?=some (.loop g M sl ps as bd st fi)) {db:Nat} {tm:Array Value}
  (hE:E[r]?=some (some b,hd,sz)) (hw:w.heap[b]?=some (.loop { state:=st,pending:=fi,fn:=g,tmps:=tm,params:=ps.toArray,assign:=as,body:=bd,defers:=db })) (hM:tm.size=M) (N9:gQ E (AV ax s.rs E) w M sl tm) (hn:bw sl) (YJ:LoopState) (U4:Option Code) :
  R T N ax w0 sp { s with rs:=setAt s.rs r (.loop g M sl ps as bd YJ U4) } a (w.putObj b (.loop { state:=YJ,pending:=U4,fn:=g,tmps:=tm,params:=ps.toArray,assign:=as,body:=bd,defers:=db })) E:=by
 have eG:b<w.heap.size:=(Array.getElem?_eq_some_iff.1 hw).1
 rw [ba]
 refine h.turn hr trivial hE (by simp) (λk hk=>World.putObj_heap_other hk) ⟨rfl,rfl,rfl⟩ ⟨b,db,tm,rfl,World.putObj_heap_same eG,hM,?_,hn⟩
 refine N9.mono (Env.le_refl E) ⟨by simp,λk hk eT=>World.putObj_heap_other λe=>?_⟩ (λ_ _ q=>q)
 subst e
 exact eT (.inr ⟨r,_,sz,hr,trivial,bh.own ⟨hd,hE⟩⟩)
theorem R.kill (h:R T N ax w0 sp s a w E) {r b sz:Nat} {hd:Hd} {x:ae} (hr:s.rs[r]?=some x) (hx:x.live) (hE:E[r]?=some (some b,hd,sz)) (o:Obj):R T N ax w0 sp { s with rs:=setAt s.rs r .dead } a (w.putObj b o) E:=by
 rw [ba]
 exact h.turn hr hx hE (by simp) (λk hk=>World.putObj_heap_other hk) ⟨rfl,rfl,rfl⟩ trivial
theorem D1 (h:R T N ax w0 sp s a w E) {b:Frame} (hb:ir E b ro) {s':VS} (e:tG ro s=some s') {k:List Item} {cs:List Frame} :
  ∃ w',R T N ax w0 sp s' a w' E/\s'.sl=s.sl/\Steps P (lone (b.atR a (.beginRound::k)) cs w) (lone (b.atR a k) cs w'):=by
 unfold tG at e
 split at e
 case h_2=>simp at e
 rename_i r
 split at e
 case h_2=>simp at e
 rename_i g M sl ps as bd hr
 simp only [au] at e
 subst e
 rw [bW] at hr
 obtain ⟨l,hd,sz,db,tm,h1,h2,h3,h4,h5⟩:=h.loop hr
 obtain ⟨l',cL,h6,pC,h7⟩:=hb
 rw [h1] at h7
 simp only [au,bs] at h7
 obtain ⟨rfl,rfl,rfl⟩:=h7
 exact ⟨_,h.rb hr h1 h2 h3 h4 h5 .busy none,rfl,.one (stepR_beginRound h6 (run_beginRound h2 rfl))⟩
theorem Ec (h:R T N ax w0 sp s a w E) (hn:bw s.sl) (g:FuncId) (ps:List Tmp) (as bd:Code) :
  R T N ax w0 sp { s with rs:=s.rs++[.kF,.loop g N s.sl ps as bd .ready none],df:=s.rs.length::s.df } { a with defers:=[{ target:=.collected w.heap.size,args := #[] }]++a.defers }
   ((w.alloc (.deferred (some []))).alloc (.loop { state:=.ready,pending:=none,fn:=g,tmps:=a.tmps,params:=ps.toArray,assign:=as,body:=bd,defers:=w.heap.size }))
   ((E++[(some w.heap.size,lh,1)])++[(some (w.heap.size+1),lh,1)])/\bh ((E++[(some w.heap.size,lh,1)])++[(some (w.heap.size+1),lh,1)]) (s.rs.length+1) (w.heap.size+1) 1:=by
 let w1:=w.alloc (.deferred (some []))
 have hs1:w1.heap.size=w.heap.size+1:=World.size_alloc ..
 have hold1:∀ b,b<w.heap.size->w1.heap[b]?=w.heap[b]?:=λb hb=>(ia w _).block b hb
 have h1:=h.new (x:=.kF) (e:=(some w.heap.size,lh,1)) (w':=w1) hs1 hold1 (ia w _) rfl ⟨w.heap.size,rfl,World.alloc_heap_new w _⟩
 let o:=Obj.loop { state:=.ready,pending:=none,fn:=g,tmps:=a.tmps,params:=ps.toArray,assign:=as,body:=bd,defers:=w.heap.size }
 let w2:=w1.alloc o
 have hs2:w2.heap.size=w1.heap.size+1:=World.size_alloc ..
 have hold2:∀ b,b<w1.heap.size->w2.heap[b]?=w1.heap[b]?:=λb hb=>(ia w1 _).block b hb
 have hlen1:(E++[(some w.heap.size,lh,1)]).length=(s.rs++[ae.kF]).length:=h1.len
 have h2:=h1.new (x:=.loop g N s.sl ps as bd .ready none) (e:=(some w1.heap.size,lh,1)) (w':=w2) hs2 hold2 (ia w1 _) rfl ⟨w1.heap.size,w.heap.size,a.tmps,rfl,World.alloc_heap_new w1 _,h.size,by
  have N9:gQ (E++[(some w.heap.size,lh,1)]) (AV ax (s.rs++[ae.kF]) (E++[(some w.heap.size,lh,1)])) w1 N s.sl a.tmps:=h1.slots
  refine N9.mono (Env.et _ _) ⟨by omega,λb hb _=>hold2 b hb⟩ ?_
  exact h1.WB,hn⟩
 have e1:s.rs++[ae.kF,.loop g N s.sl ps as bd .ready none]=(s.rs++[ae.kF])++[.loop g N s.sl ps as bd .ready none]:=by simp
 have hw1:w1.heap.size=w.heap.size+1:=hs1
 have iL:∀ F:Env,bh ((E++[(some w.heap.size,lh,1)])++F) s.rs.length w.heap.size 1:=λF=>by
  refine ⟨lh,?_⟩
  grind
 rw [hw1] at h2
 refine ⟨?_,⟨lh,?_⟩⟩
 .rw [e1]
  exact ⟨h2.size,.cons ⟨w.heap.size,1,iL _,rfl⟩ h2.defers,h2.spec,h2.below,h2.len,h2.outer,h2.roots,h2.cJ,h2.dz,h2.slots,h2.fS⟩
 grind
theorem yC {g:Operand} {l:Nat} {ρ:Operand->Value} {Vt:FuncId} {cs:Array Value} (hg:ρ g=.func (.func Vt) #[] cs) (hv:ρ (.const (.func (.yield l) #[] #[]))=.func (.yield l) #[] #[]) (he:Enters P Vt) (w:World) :
  ∃ d,(resolve ρ (rangeCall g l) 0).run P w=.ok d w/\(invoke d.target d.args).run P w=.ok (.enter Vt (#[.func (.yield l) #[] #[]]++cs)) w:=by
 refine ⟨_,by simp [resolve,hg,Deferred.ofValue,Sem.run_pure]; rfl,?_⟩
 grind [invoke,yZ]
end
open Go.RowKit
section
variable {P:Program} {T:dk} {lo:Lo} {hi:Hint} {N:Nat} {ax:Nat->Prop} {w0:Kp} {sp:List (D×Value)} {s:VS} {a:Act} {w:World} {E:Env} {f:FuncId} {ro:Option Nat}
theorem Ep (hl:gw T P lo) (h:R T N ax w0 sp s a w E) (hn:bw s.sl) {b:Frame} (FP:b.fn=f) (Fe:ir E b ro) {g:Operand} {ps:Array Tmp} {as bd:Code} {j:Option Code} {s':VS} (e:oF lo N f ro g ps.toList as bd s=some (j,s')) {k:List Item} {cs:List Frame} :
  ∃ a' w' E',Kept E E'/\R T N ax w0 sp s' a' w' E'/\s'.sl=s.sl/\Steps P (lone (b.atR a (.code (.rangeFunc g ps as bd)::k)) cs w) (lone (b.atR a' (yV j k)) cs w'):=by
 unfold oF at e
 split at e
 .simp at e
 split at e
 case h_2=>simp at e
 rename_i c hc
 split at e
 case h_2=>simp at e
 rename_i hf dQ Gp
 split at e
 case h_2=>simp at e
 rename_i d0 aG ux
 have hbr:b.roundOf=none:=Fe
 obtain ⟨h2,iL⟩:=Ec h hn f ps.toList as bd
 generalize hE2:((E++[(some w.heap.size,lh,1)])++[(some (w.heap.size+1),lh,1)]:Env)=E2 at h2 iL
 generalize hw2:((w.alloc (.deferred (some []))).alloc (.loop { state:=.ready,pending:=none,fn:=f,tmps:=a.tmps,params:=ps.toList.toArray,assign:=as,body:=bd,defers:=w.heap.size }))=w2 at h2
 have hkE:Kept E E2:=by
  subst hE2
  refine ⟨(Env.et _ _).trans (Env.et _ _),λq hq=>?_⟩
  grind
 have hev:=h2.ch hn (bT hc)
 obtain ⟨cv,hfv,hcv⟩:=uz h2 Gp hev
 obtain ⟨Rz,hcon⟩:=hl.call _ _ _ _ _ ux
 have hfv':a.eval g=.func (.func hf) #[] cv:=hfv
 obtain ⟨dd,yE,hinv⟩:=yC (l:=w.heap.size+1) (ρ:=a.eval) hfv' rfl Rz w2
 have henter:(Instr.enterLoop b.fn a.tmps ps as bd b.roundOf).run P w=.ok (w.heap.size+1,[{ target:=.collected w.heap.size,args := #[] }]) w2:=by
  rw [hbr,FP,<- hw2]
  exact run_enterLoop_outer _ _ _ _ _
 have hstep:=stepR_rangeFunc (k:=k) (cs:=cs) henter yE hinv
 have pF:az (aQ E2 (AV ax (s.rs++[ae.kF,.loop f N s.sl ps.toList as bd .ready Option.none]) E2) w2) (.c (.yl (s.rs.length+1))::dQ) (.func (.yield (w.heap.size+1)) #[] #[]::cv.toList):=
  .cons ⟨_,_,iL,rfl⟩ hcv
 have uV:((Value.func (.yield (w.heap.size+1)) #[] #[]::cv.toList:List Value)).toArray = #[.func (.yield (w.heap.size+1)) #[] #[]]++cv:=by
  apply Array.ext'; simp
 obtain ⟨en,w3,fr,⟨v,E3,rfl,hk3,hR3,_⟩,hcomes,hfr,hleave⟩:=hcon N ax w0 sp s.sl (s.rs.length::s.df) _ w2 E2 _ h2 pF (b.atR { a with defers:=[{ target:=.collected w.heap.size,args := #[] }]++a.defers } (.inRangeFunc (w.heap.size+1)::k)::cs)
 rw [uV] at hcomes
 have hsteps:Steps P (lone (b.atR a (.code (.rangeFunc g ps as bd)::k)) cs w) (lone (b.atR { a with defers:=[{ target:=.collected w.heap.size,args := #[] }]++a.defers } (.endRangeFunc (w.heap.size+1)::k)) cs w3):=by
  refine (Steps.one hstep).trans (Steps.trans hcomes (.one ?_))
  rw [<- finish_atR_inRangeFunc (w.heap.size+1) v]
  exact step_leave_returned hleave
 have fin:∀ (st:LoopState) (fi:Option Code) (g':FuncId) (M:Nat) (fI:aL) (TN:List Tmp) (Tw RZ:Code),st ≠ .busy->aR aG (s.rs.length+1)=some (.loop g' M fI TN Tw RZ st fi)->
   ∃ a' w' E',Kept E E'/\R T N ax w0 sp { s with rs:=setAt aG (s.rs.length+1) .dead,df:=s.rs.length::s.df } a' w' E'/\Steps P (lone (b.atR a (.code (.rangeFunc g ps as bd)::k)) cs w) (lone (b.atR a' (yV fi k)) cs w'):=by
  intro st fi g' M fI TN Tw RZ lC hr
  rw [bW] at hr
  obtain ⟨l,hd,sz,db,tm,h1,h3,h4,h5,h6⟩:=hR3.loop hr
  obtain ⟨pC,h7⟩:=hk3.le.at_ iL
  rw [h1] at h7
  simp only [au,bs] at h7
  obtain ⟨rfl,rfl,rfl⟩:=h7
  refine ⟨_,_,E3,hkE.trans hk3,hR3.kill hr trivial h1 (.loop { state:=.exhausted,pending:=fi,fn:=g',tmps:=tm,params:=TN.toArray,assign:=Tw,body:=RZ,defers:=db }),hsteps.trans (.one ?_)⟩
  have:=stepR_endRangeFunc (P:=P) (b:=b) (a:={ a with defers:=[{ target:=.collected w.heap.size,args := #[] }]++a.defers }) (k:=k) (cs:=cs) (run_endLoop h3 lC)
  rw [this]
  cases fi<;>rfl
 grind
theorem pQ (bC:cZ P T) (hl:gw T P lo) (CQ:P.follows .mixedOrders=true) {b:Frame} (FP:b.fn=f) {cs:List Frame} {j:Option Code} {s':VS} :
  ∀ (n:Nat) {todo:List Item} {s:VS} {a:Act} {w:World} {E:Env},yt T lo hi N f ro n todo s=some (j,s')->R T N ax w0 sp s a w E->bw s.sl->ir E b ro->
   ∃ a' w' E' cT,Kept E E'/\R T N ax w0 sp s' a' w' E'/\bw s'.sl/\uD j cT/\Steps P (lone (b.atR a todo) cs w) (lone (b.atR a' cT) cs w')
 | 0,todo,s,a,w,E,e,h,hn,Fe=>by
   have e:(none:Option (Option Code×VS))=some (j,s'):=e
   simp at e
 | n+1,todo,s,a,w,E,e,h,hn,Fe=>by
   have go:∀ {fk:List Item} {s1:VS} {a1:Act} {w1:World} {E1:Env},yt T lo hi N f ro n fk s1=some (j,s')->Kept E E1->R T N ax w0 sp s1 a1 w1 E1->bw s1.sl->Steps P (lone (b.atR a todo) cs w) (lone (b.atR a1 fk) cs w1)->
     ∃ a' w' E' cT,Kept E E'/\R T N ax w0 sp s' a' w' E'/\bw s'.sl/\uD j cT/\Steps P (lone (b.atR a todo) cs w) (lone (b.atR a' cT) cs w'):=by
    intro fk s1 a1 w1 E1 e1 hk h1 Ws lC
    obtain ⟨a',w',E',cT,q1,q2,q3,q4,q5⟩:=pQ bC hl CQ FP n e1 h1 Ws (Fe.mono hk.le)
    exact ⟨a',w',E',cT,hk.trans q1,q2,q3,q4,lC.trans q5⟩
   have stop:∀ {fk:List Item} {c:Option Code},some (c,s)=some (j,s')->uD c todo->∃ a' w' E' cT,Kept E E'/\R T N ax w0 sp s' a' w' E'/\bw s'.sl/\uD j cT/\Steps P (lone (b.atR a todo) cs w) (lone (b.atR a' cT) cs w'):=by
    intro fk c e1 he
    simp only [au,bs] at e1
    obtain ⟨rfl,rfl⟩:=e1
    exact ⟨a,w,E,todo,Kept.refl E,h,hn,he,Steps.refl _ _⟩
   cases todo with
   | nil=>exact stop (fk:=[]) e rfl
   | cons x k=>
     cases x with
     | inBlock id=>exact go (fk:=k) (s1:=s) e (Kept.refl E) h hn (.one stepR_inBlock)
     | inLoop c=>exact go (fk:=.code c::.inLoop c::k) (s1:=s) e (Kept.refl E) h hn (.one stepR_inLoop)
     | beginRound=>
       have e:(match tG ro s with
        | some s'=>yt T lo hi N f ro n k s'
        | none=>none)=some (j,s'):=e
       split at e
       case h_2=>simp at e
       rename_i s1 hs1
       obtain ⟨w',h1,h2,h3⟩:=D1 h Fe hs1
       exact go e (Kept.refl E) h1 (by rw [h2]; exact hn) h3
     | code c=>
       cases c with
       | skip=>exact go (fk:=k) (s1:=s) e (Kept.refl E) h hn (.one stepR_skip)
       | label l=>exact go (fk:=k) (s1:=s) e (Kept.refl E) h hn (.one stepR_label)
       | ret=>exact stop (fk:=[]) (c:=some .ret) e (.inl ⟨k,rfl,rfl⟩)
       | seq x y=>exact go (fk:=.code x::.code y::k) (s1:=s) e (Kept.refl E) h hn (.one stepR_seq)
       | cond c x y=>
         have e:(match iQ (ch s.sl c) with
          | some p=>yt T lo hi N f ro n (.code (Bool.rec y x p)::k) s
          | none=>none)=some (j,s'):=e
         split at e
         case h_2=>simp at e
         rename_i p hp
         have hv:a.eval c=.bool p:=(h.ch hn (eB hp)).1
         refine go e (Kept.refl E) h hn ?_
         have:=Steps.one (stepR_cond (P:=P) (b:=b) (k:=k) (cs:=cs) (w:=w) (x:=x) (y:=y) hv)
         cases p<;>exact this
       | block id c=>exact go (fk:=.code c::.inBlock id::k) (s1:=s) e (Kept.refl E) h hn (.one stepR_block)
       | loop c=>exact go (fk:=.code c::.inLoop c::k) (s1:=s) e (Kept.refl E) h hn (.one stepR_loop)
       | exit id=>
         have e:(match exitTo id k with
          | some k'=>yt T lo hi N f ro n k' s
          | none=>some (some (.exit id),s))=some (j,s'):=e
         split at e
         .rename_i k' nG
          exact go e (Kept.refl E) h hn (.one (stepR_exit nG))
         .rename_i nG
          exact stop (fk:=[]) e (.inr ⟨id,k,rfl,rfl,nG⟩)
       | region id ops draw=>
         have e0:(match regionF T lo hi N f ro id ops.toList draw s with
          | some s'=>yt T lo hi N f ro n k s'
          | none=>none)=some (j,s'):=e
         clear e
         cases hs1:regionF T lo hi N f ro id ops.toList draw s with
         | none=>grind
         | some s1=>
         rw [hs1] at e0
         have e:yt T lo hi N f ro n k s1=some (j,s'):=e0
         clear e0
         cases draw with
         | false=>
           obtain ⟨a',w',E',q1,q2,q3,q4⟩:=wj (b:=b) (k:=k) (cs:=cs) bC hl h hn hs1
           exact go e q1 q2 q3 q4
         | true=>
           obtain ⟨a',w',E',q1,q2,q3,q4⟩:=DP (b:=b) (k:=k) (cs:=cs) bC hl CQ h hn hs1
           exact go e q1 q2 q3 q4
       | rangeFunc g ps as bd=>
         have e:(match oF lo N f ro g ps.toList as bd s with
          | some (j,s')=>yt T lo hi N f ro n (yV j k) s'
          | none=>none)=some (j,s'):=e
         split at e
         case h_2=>simp at e
         rename_i j1 s1 hs1
         obtain ⟨a',w',E',q1,q2,q3,q4⟩:=Ep (k:=k) (cs:=cs) hl h hn FP Fe hs1
         grind
       | _=>
         have e:(none:Option (Option Code×VS))=some (j,s'):=e
         simp at e
     | _=>
       have e:(none:Option (Option Code×VS))=some (j,s'):=e
       simp at e
end
open Go.RowKit
section
variable {P:Program} {T:dk} {lo:Lo} {hi:Hint} {N:Nat} {ax:Nat->Prop} {w0:Kp} {sp:List (D×Value)} {s:VS} {a:Act} {w:World} {E:Env} {f:FuncId} {ro:Option Nat}
def L8 (E:Env) (av:Nat->Prop) (w:World) (x:Bool×List C) (y:Value):Prop:=match x with
 | (true,l)=>∃ cs:Array Value,y=.agg cs/\az (a7 E av w) l cs.toList
 | (false,l)=>∃ c,l=[c]/\a7 E av w c y
def qo (tmps:Array Value):ResultVar->Sem Value
 | .tmp t=>pure (tmps.getD t undef)
 | .cell a t=>do loadVar t (<- asAddr (tmps.getD a undef))
theorem B5 (bC:cZ P T) (h:R T N ax w0 sp s a w E) {x:ResultVar} {p:Option Prop} {q:Bool×List C} (e:qE T s x=some (p,q)) (hp:need p) :
  ∃ v,(qo a.tmps x).run P w=.ok v w/\L8 E (AV ax s.rs E) w q v:=by
 have nil:bu a []:=λp hp=>by cases hp
 cases x with
 | tmp t=>
   simp only [qE] at e
   split at e
   .rename_i x hx
    have hx:=h.ev nil hx
    simp only [au,bs] at e
    obtain ⟨rfl,rfl⟩:=e
    exact ⟨_,rfl,x,rfl,hx⟩
   .rename_i l hx
    obtain ⟨cs,hv,hl⟩:=h.ev nil hx
    simp only [au,bs] at e
    obtain ⟨rfl,rfl⟩:=e
    exact ⟨_,rfl,cs,hv,hl⟩
   .simp at e
 | cell ad t=>
   simp only [qE] at e
   have run:∀ v,(Instr.loadAt t (a.eval (.tmp ad))).run P w=.ok v w->(qo a.tmps (.cell ad t)).run P w=.ok v w:=by
    intro v hv
    have he:a.eval (.tmp ad)=a.tmps.getD ad undef:=rfl
    rw [he] at hv
    unfold qo
    cases hu:a.tmps.getD ad undef<;>rw [hu] at hv<;>simp [Instr.loadAt,Instr.sureAddr,stuck] at hv
    rename_i oa
    cases oa with
    | none=>simp at hv
    | some x=>
      simp only [hu,asAddr,Sem.run_bind]
      exact hv
   split at e
   .rename_i p' x hx
    simp only [au,bs] at e
    obtain ⟨rfl,rfl⟩:=e
    obtain ⟨v,h1,h2⟩:=qP bC h nil hx hp
    exact ⟨v,run v (h1 w (Below.refl _ _)),x,rfl,h2⟩
   .rename_i p' l hx
    simp only [au,bs] at e
    obtain ⟨rfl,rfl⟩:=e
    obtain ⟨v,h1,cs,h2,h3⟩:=qP bC h nil hx hp
    exact ⟨v,run v (h1 w (Below.refl _ _)),cs,h2,h3⟩
   .simp at e
theorem jO (bC:cZ P T) (h:R T N ax w0 sp s a w E):∀ {rs:List ResultVar} {p:Option Prop} {l:List (Bool×List C)},qA T s rs=some (p,l)->need p->
  ∃ vs,(rs.mapM (qo a.tmps)).run P w=.ok vs w/\az (L8 E (AV ax s.rs E) w) l vs
 | [],p,l,e,hp=>by
   simp only [qA,au,bs] at e
   obtain ⟨rfl,rfl⟩:=e
   exact ⟨[],rfl,.nil⟩
 | x::rs,p,l,e,hp=>by
   simp only [qA] at e
   split at e
   .rename_i p1 q p2 l' h1 h2
    simp only [au,bs] at e
    obtain ⟨rfl,rfl⟩:=e
    have hp':need p1/\need p2:=by
     cases p1<;>cases p2<;>simp_all [I7,need]
    obtain ⟨v,h3,h4⟩:=B5 bC h h1 hp'.1
    obtain ⟨vs,h5,h6⟩:=jO bC h h2 hp'.2
    refine ⟨v::vs,?_,.cons h4 h6⟩
    simp_all
   .simp at e
theorem kZ (bC:cZ P T) (h:R T N ax w0 sp s a w E) {fn:Func} {p:Option Prop} {d:D} (e:RV T s fn.results.toList=some (p,d)) (hp:need p) :
  ∃ v,(results fn a.tmps).run P w=.ok v w/\aQ E (AV ax s.rs E) w d v:=by
 have run:∀ vs,(fn.results.toList.mapM (qo a.tmps)).run P w=.ok vs w->(results fn a.tmps).run P w=.ok (if h:vs.toArray.size=1 then vs.toArray[0] else .tuple vs.toArray) w:=by
  intro vs uV
  have hm:(fn.results.mapM (qo a.tmps)).run P w=.ok vs.toArray w:=by
   have hgs:fn.results=fn.results.toList.toArray:=rfl
   rw [hgs,List.mapM_toArray]
   simp only [Sem.run_map,uV,Result.andThen_ok]
  show ((do let vs <- fn.results.mapM (qo a.tmps); pure (if h:vs.size=1 then vs[0] else .tuple vs)):Sem Value).run P w=_
  simp_all
 unfold RV at e
 split at e
 .rename_i p' x hx
  simp only [au,bs] at e
  obtain ⟨rfl,rfl⟩:=e
  obtain ⟨vs,h1,h2⟩:=jO bC h hx hp
  cases h2 with
  | cons q1 q2=>
    cases q2
    obtain ⟨c,hc,q⟩:=q1
    simp only [List.cons.injEq,and_true] at hc
    subst hc
    exact ⟨_,run _ h1,q⟩
 .rename_i p' l hx
  simp only [au,bs] at e
  obtain ⟨rfl,rfl⟩:=e
  obtain ⟨vs,h1,h2⟩:=jO bC h hx hp
  cases h2 with
  | cons q1 q2=>cases q2; exact ⟨_,run _ h1,q1⟩
 .rename_i p' l hne1 hne2 hx
  simp only [au,bs] at e
  obtain ⟨rfl,rfl⟩:=e
  obtain ⟨vs,h1,h2⟩:=jO bC h hx hp
  refine ⟨_,run vs h1,?_⟩
  have hlen:vs.length≠1:=by
   intro hl
   have:=h2.length
   rw [hl] at this
   match l,this with
   | [(true,l)],_=>exact hne2 _ rfl
   | [(false,k)],_=>
     cases h2 with
     | cons q1 q2=>
       obtain ⟨c,hc,_⟩:=q1
       exact hne1 _ (by rw [hc])
  rw [dif_neg (by simpa using hlen)]
  exact ⟨_,rfl,h2⟩
 .simp at e
theorem lg:∀ {ds:List D} {k t:Nat} {d:D} {c:eF},look (cP k ds) t=some (d,c)->c=[]/\k<=t/\ds[t-k]?=some d
 | [],k,t,d,c,h=>by simp [cP,look] at h
 | x::ds,k,t,d,c,h=>by
   simp only [cP,look] at h
   split at h
   .simp_all
   .obtain ⟨h1,h2,h3⟩:=lg h
    grind
theorem jP:∀ {ds:List D} {k:Nat},bw (cP k ds)
 | [],k,x,hx=>by simp [cP] at hx
 | d::ds,k,x,hx=>by
   simp only [cP] at hx
   rcases List.mem_cons.1 hx with rfl|hx
   .rfl
   .exact jP x hx
theorem D6 (hn:bw s.sl) {x:ResultVar} {q:Bool×List C} (e:uY T s x=some q):∃ p,qE T s x=some (p,q)/\need p:=by
 unfold uY at e
 cases x with
 | tmp t=>
   simp only at e
   simp only [qE]
   split at e
   .rename_i c hc
    have:s.ev [] (.tmp t)=some (.c c):=de (x:=.tmp t) hn hc
    rw [this]
    simp only [au] at e
    subst e; exact ⟨_,rfl,trivial⟩
   .rename_i l hc
    have:s.ev [] (.tmp t)=some (.a l):=de (x:=.tmp t) hn hc
    rw [this]
    simp only [au] at e
    subst e; exact ⟨_,rfl,trivial⟩
   .simp at e
 | cell ad t=>
   grind [qE,xB]
theorem ue (hn:bw s.sl):∀ {l:List ResultVar} {q:List (Bool×List C)},CK T s l=some q->∃ p,qA T s l=some (p,q)/\need p
 | [],q,e=>by
   have e:some []=some q:=e
   simp only [au] at e
   subst e; exact ⟨_,rfl,trivial⟩
 | x::l,q,e=>by
   have e:(match uY T s x,CK T s l with
    | some q,some l=>some (q::l)
    | _,_=>none)=some q:=e
   split at e
   case h_2=>simp at e
   rename_i h1 h2
   simp only [au] at e
   subst e
   obtain ⟨p1,k1,k2⟩:=D6 hn h1
   obtain ⟨p2,k3,k4⟩:=ue hn h2
   refine ⟨I7 p1 p2,by simp only [qA,k1,k3],?_⟩
   cases p1<;>cases p2<;>simp_all [I7,need]
theorem Fw (hn:bw s.sl) {l:List ResultVar} {d:D} (e:V0 T s l=some d):∃ p,RV T s l=some (p,d)/\need p:=by
 grind [V0,RV,ue]
open Classical in
noncomputable def nE (sl:aL) (a:Act):List (D×Value):=sl.filterMap λx=>if look sl x.1=some x.2/\bu a x.2.2 then some (x.2.1,a.tmps.getD x.1 undef) else none
theorem DL:∀ {sl:aL} {t:Tmp} {x:D×eF},look sl t=some x->(t,x)∈sl
 | [],t,x,h=>by simp [look] at h
 | (k,d,c)::sl,t,x,h=>by
   simp only [look] at h
   split at h
   .simp_all
   .exact fL _ (DL h)
theorem OV {sl:aL} {t:Tmp} {d:D} {c:eF} (hl:look sl t=some (d,c)) (hc:bu a c):(d,a.tmps.getD t undef)∈nE sl a:=by
 unfold nE
 rw [List.mem_filterMap]
 refine ⟨(t,d,c),DL hl,?_⟩
 rw [if_pos ⟨hl,hc⟩]
theorem Qz (h:R T N ax w0 sp s a w E):∀ x∈nE s.sl a,aQ E (AV ax s.rs E) w x.1 x.2:=by
 intro x hx
 unfold nE at hx
 rw [List.mem_filterMap] at hx
 obtain ⟨⟨t,d,c⟩,h1,h2⟩:=hx
 split at h2
 .rename_i h3
  simp only [au] at h2
  subst h2
  exact (h.slots t d c h3.1).2.1 h3.2
 .simp at h2
theorem R.Cw {sl:aL} {rs:List ae} {df:List Nat} (h:R T N ax w0 sp ⟨sl,rs,df⟩ a w E) {M:Nat} {zN:aL} {tm:Array Value} (hM:tm.size=M)
  (hs:gQ E (AV ax rs E) w M zN tm):R T M ax w0 (nE sl a++sp) ⟨zN,rs,[]⟩ { tmps:=tm,defers:=[] } w E:=
 ⟨hM,.nil,λx hx=>(List.mem_append.1 hx).elim (λq=>Qz h x q) (h.spec x),h.below,h.len,h.outer,h.roots,h.cJ,h.dz,hs,h.fS⟩
theorem R.back {sl:aL} {rs:List ae} {df:List Nat} (h:R T N ax w0 sp ⟨sl,rs,df⟩ a w E) {M:Nat} {s':VS} {a':Act} {w':World} {E':Env} (h':R T M ax w0 (nE sl a++sp) s' a' w' E') (hE:Env.le E E') :
  R T N ax w0 sp ⟨sl,s'.rs,df⟩ a w' E' :=
 ⟨h.size,h.defers.mono λ_ _ ⟨b,sz,q,e⟩=>⟨b,sz,hE.at_ q,e⟩,λx hx=>h'.spec x (List.mem_append_right _ hx),h'.below,h'.len,h'.outer,h'.roots,h'.cJ,h'.dz,λt d c hl=>
  ⟨(h.slots t d c hl).1,λhc=>h'.spec _ (List.mem_append_left _ (OV hl hc)),(h.slots t d c hl).2.2⟩,h'.fS⟩
theorem qV {cs:List Frame}:∀ (l:List Nat) {sl:aL} {rs fQ:List ae} {a:Act} {w:World} {fr:Frame},NF l rs=some fQ->R T N ax w0 sp ⟨sl,rs,l⟩ a w E->fr.mode=.returning->fr.defers=a.defers->
  ∃ w',R T N ax w0 sp ⟨sl,fQ,[]⟩ { a with defers:=[] } w' E/\Steps P (lone fr cs w) (lone { fr with defers:=[] } cs w')
 | [],sl,rs,fQ,a,w,fr,e,h,hm,hd=>by
   have e:some rs=some fQ:=e
   simp only [au] at e
   subst e
   have qO:a.defers=[]:=by
    have:=h.defers
    generalize a.defers=l at this
    cases this; rfl
   have ha:({ a with defers:=[] }:Act)=a:=by rw [<- qO]
   have hf:({ fr with defers:=[] }:Frame)=fr:=by rw [<- qO,<- hd]
   rw [ha,hf]
   exact ⟨w,h,Steps.refl _ _⟩
 | r::l,sl,rs,fQ,a,w,fr,e,h,hm,hd=>by
   have e:(match aR rs r with
    | some .kF=>NF l (setAt rs r .dead)
    | _=>none)=some fQ:=e
   split at e
   case h_2=>simp at e
   rename_i hr
   rw [bW] at hr
   have Qt:=h.defers
   generalize hads:a.defers=ads at Qt
   cases Qt with
   | cons h1 h2=>
     rename_i d ds
     obtain ⟨b,sz,⟨pC,hE⟩,rfl⟩:=h1
     obtain ⟨b',h3,h4⟩:=h.roots r _ _ hr hE
     have h3:some b=some b':=h3
     simp only [au] at h3
     subst h3
     have hk:=h.kill hr trivial hE (.deferred none)
     have hR:R T N ax w0 sp ⟨sl,setAt rs r .dead,l⟩ { a with defers:=ds } (w.putObj b (.deferred none)) E:=
      ⟨hk.size,h2,hk.spec,hk.below,hk.len,hk.outer,hk.roots,hk.cJ,hk.dz,hk.slots,hk.fS⟩
     have lC:=step_collected (P:=P) (cs:=cs) (fr:=fr) (by rw [hm]; simp) (hd.trans hads) rfl (run_takeDeferred h4)
     obtain ⟨w',q1,q2⟩:=qV l (fr:={ fr with defers:=[]++ds }) e hR hm rfl
     exact ⟨w',q1,(Steps.one lC).trans q2⟩
def Jk (P:Program) (F:FuncId->Option Func):Prop:=∀ f fn,F f=some fn->P.funcs[f]?=some fn/\(fn.name == "runtime.NumGoroutine")=false
theorem Fb (bC:cZ P T) (CQ:P.follows .mixedOrders=true) {F:FuncId->Option Func} (hF:Jk P F) (hl:gw T P lo) {fuel:Nat} {ds:List D} {rs aG:List ae} {d:D} (e:PZ T hi F fuel lo f ds rs=some (d,aG)) :
  Enters P f/\∀ (N:Nat) (ax:Nat->Prop) (w0:Kp) (sp:List (D×Value)) (sl:aL) (df:List Nat) (a:Act) (w:World) (E:Env) (vs:List Value),R T N ax w0 sp ⟨sl,rs,df⟩ a w E->az (aQ E (AV ax rs E) w) ds vs->
  Go.Calls P f vs.toArray w λe w'=>∃ v E',e=.returned v/\Kept E E'/\R T N ax w0 sp ⟨sl,aG,df⟩ a w' E'/\aQ E' (AV ax aG E') w' d v:=by
 unfold PZ at e
 split at e
 case h_2=>simp at e
 rename_i fn hfn
 split at e
 case h_2=>simp at e
 rename_i c hc
 obtain ⟨hlen,e⟩:=Bool.aw e
 have hlen:=dR hlen
 split at e
 case h_2=>simp at e
 rename_i j s hrun
 obtain ⟨hret,e⟩:=Bool.aw e
 unfold Ot at e
 split at e
 case h_2=>simp at e
 rename_i fQ htake
 split at e
 case h_2=>simp at e
 rename_i d1 yE
 simp only [au,bs] at e
 obtain ⟨rfl,rfl⟩:=e
 obtain ⟨hf,oo⟩:=hF f fn hfn
 refine ⟨⟨fn,hf,oo,by simp [hc]⟩,?_⟩
 intro N ax w0 sp sl df a w E vs h hv cs
 let b:Frame:={ (default:Frame) with fn:=f,kind:=.normal,roundOf:=none }
 let tm:=vs.toArray++Array.replicate (fn.ntmps-vs.toArray.size) undef
 have hvl:=hv.length
 have henter:Frame.enter P f vs.toArray .normal=b.atR { tmps:=tm,defers:=[] } [.code c]:=by
  simp [Frame.enter,Frame.atR,hf,hc,b,tm]
 have htm:tm.size=fn.ntmps:=by grind
 have hR:=h.Cw (M:=fn.ntmps) (zN:=cP 0 ds) (tm:=tm) htm (λt d' c' hl=>by
  obtain ⟨rfl,_,h2⟩:=lg hl
  simp only [Nat.sub_zero] at h2
  have ht:t<ds.length:=(List.getElem?_eq_some_iff.1 h2).1
  obtain ⟨v,h3,h4⟩:=hv.nth (i:=t) (x:=d') (by rw [bg]; exact h2)
  refine ⟨Nat.lt_of_lt_of_le ht hlen,λ_=>?_,λq=>(q λp hp=>by cases hp).elim⟩
  have hg:tm.getD t undef=v:=by
   have htv:t<vs.length:=by rw [<- hvl]; exact ht
   have:vs[t]?=some v:=h3
   simp only [tm]
   rw [Array.getD_eq_getD_getElem?,Array.getElem?_append_left (by simpa using htv)]
   simp [this]
  rw [hg]
  exact h4)
 obtain ⟨a',w1,E',cT,hk,tb,nr,hend,hsteps⟩:=pQ (hi:=hi) (ro:=none) (b:=b) (cs:=cs) bC hl CQ rfl fuel hrun hR jP rfl
 have hback:Steps P (lone (b.atR a' cT) cs w1) (lone { b.atR a' cT with mode:=.returning } cs w1):=by
  cases j with
  | none=>
    have hend:cT=[]:=hend
    subst hend
    exact .one (stepR_end rfl)
  | some c' =>
    rcases hend with ⟨k,rfl,rfl⟩|⟨id,k,rfl,_,_⟩
    .exact .one (stepR_ret rfl)
    .simp [LG] at hret
 have hR'':R T fn.ntmps ax w0 (nE sl a++sp) ⟨s.sl,s.rs,s.df⟩ a' w1 E':=tb
 obtain ⟨w2,hR2,hst2⟩:=qV (P:=P) (cs:=cs) s.df (fr:={ b.atR a' cT with mode:=.returning }) htake hR'' rfl rfl
 obtain ⟨pr,hpr1,hpr2⟩:=Fw (s:=⟨s.sl,fQ,[]⟩) nr yE
 obtain ⟨v,hrv,hdv⟩:=kZ bC hR2 hpr1 hpr2
 refine ⟨.returned v,w2,{ { b.atR a' cT with mode:=.returning } with defers:=[] },⟨v,E',rfl,hk,h.back hR2 hk.le,hdv⟩,?_,rfl,rfl,rfl,rfl,fn,hf,hrv⟩
 rw [henter]
 exact (hsteps.trans hback).trans hst2
theorem DD (bC:cZ P T) (CQ:P.follows .mixedOrders=true) {F:FuncId->Option Func} (hF:Jk P F) {Kn:FuncId->Option D} (ZS:∀ f d,Kn f=some d->Enters P f/\EN T P f [] d) (hl:gw T P lo) {fuel:Nat} {ds:List D} {rs aG:List ae} {d:D}
  (e:Pf T hi F Kn fuel lo f ds rs=some (d,aG)) :
  Enters P f/\∀ (N:Nat) (ax:Nat->Prop) (w0:Kp) (sp:List (D×Value)) (sl:aL) (df:List Nat) (a:Act) (w:World) (E:Env) (vs:List Value),R T N ax w0 sp ⟨sl,rs,df⟩ a w E->az (aQ E (AV ax rs E) w) ds vs->
  Go.Calls P f vs.toArray w λe w'=>∃ v E',e=.returned v/\Kept E E'/\R T N ax w0 sp ⟨sl,aG,df⟩ a w' E'/\aQ E' (AV ax aG E') w' d v:=by
 unfold Pf at e
 split at e
 .rename_i d0 hd0
  split at e
  case h_2=>simp at e
  simp only [au,bs] at e
  obtain ⟨rfl,rfl⟩:=e
  obtain ⟨h1,h2⟩:=ZS f _ hd0
  refine ⟨h1,?_⟩
  intro N ax w0 sp sl df a w E vs h hv
  cases hv
  have avlt:∀ b,AV ax rs E b->b<w.heap.size:=by
   rintro b (q|⟨r,x,sz,q1,q2,q3⟩)
   .exact h.jr q
   .exact (h.cJ r x b sz q1 q2 q3).2
  refine (h2 (AV ax rs E) w [] avlt h.fS .nil).mono ?_
  rintro en w' ⟨v,rfl,hd,hb⟩
  exact ⟨v,E,rfl,Kept.refl E,h.grown hb,aQ.mono (λr e q=>by simp at q) (aW.refl _ w') (λb _ q=>q) hd⟩
 .exact Fb bC CQ hF hl e
theorem GJ {rs:List ae} {tms:Array Value->Array Value}:∀ {ps:List Tmp} {ds:List D} {vs:List Value} {sl fI:aL} {tm:Array Value},KO N ps ds sl=some fI->R T N ax w0 sp ⟨sl,rs,[]⟩ { tmps:=tm,defers:=[] } w E->bw sl->
  az (aQ E (AV ax rs E) w) ds vs->ps.length=vs.length/\R T N ax w0 sp ⟨fI,rs,[]⟩ { tmps:=(ps.zip vs).foldl (λtmps x=>tmps.setIfInBounds x.1 x.2) tm,defers:=[] } w E/\bw fI
 | [],[],vs,sl,fI,tm,e,h,hn,hv=>by
   have e:some sl=some fI:=e
   simp only [au] at e
   subst e
   cases hv
   exact ⟨rfl,h,hn⟩
 | [],d::ds,vs,sl,fI,tm,e,h,hn,hv=>by
   have e:(none:Option aL)=some fI:=e
   simp at e
 | t::ps,[],vs,sl,fI,tm,e,h,hn,hv=>by
   have e:(none:Option aL)=some fI:=e
   simp at e
 | t::ps,d::ds,vs,sl,fI,tm,e,h,hn,hv=>by
   obtain ⟨ht,e⟩:=Bool.aw (show (Bool.rec none (KO N ps ds ((t,d,[])::sl)) (Nat.blt t N):Option aL)=some fI from e)
   cases hv with
   | cons q k=>
     rename_i v vs
     have hp:qq N ⟨sl,rs,[]⟩ (some t) d=some ⟨(t,d,[])::sl,rs,[]⟩:=by
      unfold qq; simp only [ht]
     obtain ⟨h1,h2⟩:=pU h hn hp q
     obtain ⟨h3,h4,h5⟩:=GJ (tms:=tms) e h1 h2 k
     simp_all
theorem G0 (bC:cZ P T) (CQ:P.follows .mixedOrders=true) (hl:gw T P lo) {fuel r:Nat} {ds:List D} {rs aG:List ae} {d:D} (e:VG T hi fuel lo r ds rs=some (d,aG)) :
  ∀ (N:Nat) (ax:Nat->Prop) (w0:Kp) (sp:List (D×Value)) (sl:aL) (df:List Nat) (a:Act) (w:World) (E:Env) (vs:List Value),R T N ax w0 sp ⟨sl,rs,df⟩ a w E->az (aQ E (AV ax rs E) w) ds vs->
  ∃ b sz f tm as bd,bh E r b sz/\(Instr.yield b vs.toArray).run P w=.ok (.round b f tm as bd) w/\
   xi P b f tm as bd w λv w'=>∃ E',Kept E E'/\R T N ax w0 sp ⟨sl,aG,df⟩ a w' E'/\aQ E' (AV ax aG E') w' d v:=by
 intro N ax w0 sp sl df a w E vs h hv
 unfold VG at e
 split at e
 case h_2=>simp at e
 rename_i g M vf ps as bd hr
 split at e
 case h_2=>simp at e
 rename_i zN HR
 split at e
 case h_2=>simp at e
 rename_i j s hrun
 rw [bW] at hr
 obtain ⟨l,hd,sz,db,tm,h1,h2,h3,h4,h5⟩:=h.loop hr
 have hR:=h.Cw (M:=M) (zN:=vf) (tm:=tm) h3 h4
 obtain ⟨hlen,hR1,Ws⟩:=GJ (tms:=id) HR hR h5 hv
 have hy:=run_yield (P:=P) (args:=vs.toArray) h2 (by simp [hlen])
 refine ⟨l,sz,g,_,as,bd,⟨hd,h1⟩,hy,?_⟩
 have htm:(Array.foldl (λtmps x=>match x with
   | (t,a)=>tmps.setIfInBounds t a) tm (ps.toArray.zip vs.toArray))=(ps.zip vs).foldl (λtmps x=>tmps.setIfInBounds x.1 x.2) tm:=by
  simp
 intro c cs
 simp only at htm ⊢
 rw [htm]
 let b:Frame:={ (default:Frame) with fn:=g,kind:=.normal,roundOf:=some l }
 have hb0:∀ tm,Frame.round l g tm as bd .normal=b.atR { tmps:=tm,defers:=[] } [.code as,.beginRound,.code bd]:=λtm=>by
  rfl
 rw [hb0]
 obtain ⟨a',w1,E',cT,hk,tb,nr,hend,hsteps⟩:=pQ (hi:=hi) (ro:=some r) (b:=b) (cs:=c::cs) bC hl CQ rfl fuel hrun hR1 Ws ⟨l,sz,rfl,hd,h1⟩
 unfold AZ at e
 split at e
 case h_2=>simp at e
 split at e
 case h_2=>simp at e
 rename_i g' M' fI TN Tw RZ Dn
 rw [bW] at Dn
 obtain ⟨l',pC,cL,db',tm',q1,q2,q3,q4,q5⟩:=tb.loop Dn
 obtain ⟨K,hE',_⟩:=hk.le r _ h1 (fJ.Jo rfl)
 rw [hE'] at q1
 simp only [fJ.wk,au,bs] at q1
 obtain ⟨rfl,rfl,rfl⟩:=q1
 cases j with
 | none=>
   simp only [au,bs] at e
   obtain ⟨rfl,rfl⟩:=e
   have hend:cT=[]:=hend
   subst hend
   exact ⟨.bool true,_,⟨E',hk,h.back (tb.rb Dn hE' q2 q3 q4 q5 .ready none) hk.le,rfl,rfl⟩,hsteps.trans (.one (stepR_round_end rfl rfl (run_endRound none q2)))⟩
 | some c' =>
   simp only [au,bs] at e
   obtain ⟨rfl,rfl⟩:=e
   refine ⟨.bool false,_,⟨E',hk,h.back (tb.rb Dn hE' q2 q3 q4 q5 .done (some c')) hk.le,rfl,rfl⟩,hsteps.trans (.one ?_)⟩
   rcases hend with ⟨k,rfl,rfl⟩|⟨id,k,rfl,rfl,hx⟩
   .exact stepR_round_ret rfl rfl (run_endRound (some .ret) q2)
   .exact stepR_round_exit rfl rfl hx (run_endRound (some (.exit id)) q2)
theorem sM (bC:cZ P T) (CQ:P.follows .mixedOrders=true) {F:FuncId->Option Func} (hF:Jk P F) {Kn:FuncId->Option D} (ZS:∀ f d,Kn f=some d->Enters P f/\EN T P f [] d) {fuel:Nat} :
  ∀ n,gw T P (loN T hi F Kn fuel n)
 | 0=>⟨λf ds rs d aG e=>by
   have e:(none:Option (D×List ae))=some (d,aG):=e
   simp at e,λr ds rs d aG e=>by
   have e:(none:Option (D×List ae))=some (d,aG):=e
   simp at e,DZ,λf ds rs d q x e=>by
   have e:(none:Option (D×Nat×ae))=some (d,q,x):=e
   simp at e,λf ds rs oU r _ _ e=>by
   have e:(none:Option (D×Nat×ae))=some r:=e
   simp at e⟩
 | n+1=>⟨λf ds rs d aG e=>DD bC CQ hF ZS (sM bC CQ hF ZS n) e,λr ds rs d aG e=>G0 bC CQ (sM bC CQ hF ZS n) e,DZ,λf ds rs d q x e=>by
   have e:(none:Option (D×Nat×ae))=some (d,q,x):=e
   simp at e,λf ds rs oU r _ _ e=>by
   have e:(none:Option (D×Nat×ae))=some r:=e
   simp at e⟩
end
noncomputable section
def nd (b:Bool) (A:Prop):Prop:=Bool.rec False A b
def br (b:Bool) (A B:Prop):Prop:=Bool.rec B A b
theorem bI {b:Bool} {A:Prop}:nd b A↔b=true/\A:=by cases b<;>simp [nd]
theorem ay {b:Bool} {A:Prop} (h:b=true) (a:A):nd b A:=bI.2 ⟨h,a⟩
theorem aq {b:Bool} {A B:Prop} (h:b=true->A) (k:b=false->B):br b A B:=by
 cases b
 .exact k rfl
 .exact h rfl
theorem xw {b:Bool} {A B:Prop} (h:br b A B):(b=true/\A)∨(b=false/\B):=by
 cases b
 .exact .inr ⟨rfl,h⟩
 .exact .inl ⟨rfl,h⟩
def fU {α:Type} (x:Option α) (k:α->Prop):Prop:=match x with
 | some a=>k a
 | none=>False
theorem cl {α:Type} {x:Option α} {k:α->Prop} (h:fU x k):∃ a,x=some a/\k a:=by
 cases x with
 | none=>exact h.elim
 | some a=>exact ⟨a,rfl,h⟩
structure bB (T:dk) (P:Program) (f:FuncId) (ds:List D) (rs:List ae) (d:D) (aG:List ae):Prop where
 out:Enters P f/\∀ (N:Nat) (ax:Nat->Prop) (w0:Kp) (sp:List (D×Value)) (sl:aL) (df:List Nat) (a:Act) (w:World) (E:Env) (vs:List Value),R T N ax w0 sp ⟨sl,rs,df⟩ a w E->az (aQ E (AV ax rs E) w) ds vs->
  Go.Calls P f vs.toArray w λe w'=>∃ v E',e=.returned v/\Kept E E'/\R T N ax w0 sp ⟨sl,aG,df⟩ a w' E'/\aQ E' (AV ax aG E') w' d v
structure lW (T:dk) (P:Program) (r:Nat) (ds:List D) (rs:List ae) (d:D) (aG:List ae):Prop where
 out:∀ (N:Nat) (ax:Nat->Prop) (w0:Kp) (sp:List (D×Value)) (sl:aL) (df:List Nat) (a:Act) (w:World) (E:Env) (vs:List Value),R T N ax w0 sp ⟨sl,rs,df⟩ a w E->az (aQ E (AV ax rs E) w) ds vs->
  ∃ b sz f tm as bd,bh E r b sz/\(Instr.yield b vs.toArray).run P w=.ok (.round b f tm as bd) w/\
   xi P b f tm as bd w λv w'=>∃ E',Kept E E'/\R T N ax w0 sp ⟨sl,aG,df⟩ a w' E'/\aQ E' (AV ax aG E') w' d v
structure wh (T:dk) (P:Program) (f:FuncId) (ds:List D) (rs:List ae) (d:D) (q:Nat) (x:ae):Prop where
 out:∀ oU:List ae,rs.length=oU.length->(∀ (k:Nat) (y:ae),aR rs k=some y->y.live->aR oU k=some y)->bB T P f ds oU d (place q x oU)
abbrev Out:=D×List (Nat×ae)×List ae
inductive Rd where
 | no
 | ret (o:D×Nat×ae)
 | get (q:Nat) (k:ae->Rd)
def xr (rs:List ae) (r:Rd):Option (D×Nat×ae):=Rd.rec none (λo=>some o) (λq _ ih=>match aR rs q with
 | some x=>match x with
   | .dead=>none
   | x=>ih x
 | none=>none) r
structure gr where
 F:FuncId->List D->List ae->Out
 FY:Nat->List D->List ae->Out:=λ_ _ _=>(.t [],[],[])
 B:FuncId->List D->List ae->Bool:=λ_ _ _=>true
 R1:FuncId->List D->List ae->Out:=λ_ _ _=>(.t [],[],[])
 R2:FuncId->List D->List ae->Out:=λ_ _ _=>(.t [],[],[])
 S:List Nat:=[]
 W:FuncId->List D->Rd:=λ_ _=>.no
def lq (rs:List ae) (x:Out):List ae:=writes x.2.1 rs++x.2.2
def DG (S:List Nat) (ws:List (Nat×ae)):Bool:=List.rec true (λp _ ih=>Bool.rec false ih (nS p.1 S)) ws
def ky (S:List Nat) (aG:List ae):List (Nat×ae):=List.rec [] (λq _ ih=>match aR aG q with
 | some x=>(q,x)::ih
 | none=>ih) S
def Qc (n:Nat) (ws:List (Nat×ae)):Bool:=List.rec true (λp _ ih=>Bool.rec false ih (gK n p.2)) ws
def jJ (X:gr):Lo:=⟨λf ds rs=>some ((X.F f ds rs).1,lq rs (X.F f ds rs)),λr ds rs=>some ((X.FY r ds rs).1,lq rs (X.FY r ds rs)),λrs aG=>some (ky X.S aG),λf ds rs=>xr rs (X.W f ds)⟩
def Grown (S:List Nat) (rs aG:List ae):Prop:=∃ ws ex,DG S ws=true/\aG=writes ws rs++ex
open Classical in
def cu (T:dk) (P:Program) (X:gr):Lo:=⟨λf ds rs=>if bB T P f ds rs (X.F f ds rs).1 (lq rs (X.F f ds rs)) then some ((X.F f ds rs).1,lq rs (X.F f ds rs)) else none,
 λr ds rs=>if lW T P r ds rs (X.FY r ds rs).1 (lq rs (X.FY r ds rs)) then some ((X.FY r ds rs).1,lq rs (X.FY r ds rs)) else none,
 λrs aG=>if Grown X.S rs aG/\Qc rs.length (ky X.S aG)=true then some (ky X.S aG) else none,
 λf ds rs=>match xr rs (X.W f ds) with
  | some o=>if wh T P f ds rs o.1 o.2.1 o.2.2 then some o else none
  | none=>none⟩
section
variable (T:dk) (P:Program) (X:gr) (hi:Hint)
def HS (s:VS) (t:Nat) (x ix:Operand) (k:D->Prop):Prop:=match JV T t with
 | some a=>match gU (ch s.sl ix) with
   | some i=>match cR (ch s.sl x) with
     | some (.rt r q j)=>nd (dm i a.1) (k (.c (.rt r q (j+i.toNat*a.2.size))))
     | some (.im (.gp q))=>fU (FM T a.1 a.2.size i q) k
     | _=>False
   | none=>False
 | none=>match sv T t with
   | some y=>match gU (ch s.sl ix) with
     | some i=>match cR (ch s.sl x) with
       | some (.im (.sl sz n get))=>nd (Nat.beq sz y.size) (nd (dm i n) (k (.c (.im (.pt sz (get i.toNat))))))
       | some (.sa r m)=>match aR s.rs r with
         | some (.row _ sz _ _)=>nd (Nat.beq sz y.size) (nd (dm i m) (k (.c (.rt r i.toNat 0))))
         | some (.arr _ sz _ _)=>nd (Nat.beq sz y.size) (nd (dm i m) (k (.c (.rt r i.toNat 0))))
         | some (.bL _ sz _ _ _)=>nd (Nat.beq sz y.size) (nd (dm i m) (k (.c (.rt r i.toNat 0))))
         | _=>False
       | _=>False
     | none=>False
   | none=>False
def L3 (s:VS) (c x y:Operand) (k:D->Prop):Prop:=match iQ (ch s.sl c) with
 | some b=>br b (fU (iQ (ch s.sl x)) λz=>k (bool z)) (fU (iQ (ch s.sl y)) λz=>k (bool z))
 | none=>False
def CP (rs:List ae) (c:C) (h:Int) (k:D->Prop):Prop:=match c with
 | .im (.sl sz n get)=>nd (Li h n) (k (.c (.im (.sl sz h.toNat get))))
 | .sa r m=>match aR rs r with
   | some (.row _ _ _ _)=>nd (Li h m) (k (.c (.sa r h.toNat)))
   | some (.arr _ _ _ _)=>nd (Li h m) (k (.c (.sa r h.toNat)))
   | some (.bL _ _ _ _ _)=>nd (Li h m) (k (.c (.sa r h.toNat)))
   | _=>False
 | _=>fU (mW rs c h) k
def Ah (sz:Nat) (c:C) (h:Int) (k:D->Prop):Prop:=match c with
 | .im (.sl cL n get)=>nd (Li h n) (nd (Nat.beq cL sz) (k (.c (.im (.sl cL (n-h.toNat) λi j=>get (h.toNat+i) j)))))
 | _=>False
def FK (s:VS) (t:Nat) (x:Operand) (lo hi mx:Option Operand) (k:D->Prop):Prop:=match lo,hi,mx with
 | none,some h,none=>match sv T t with
   | some _=>match cR (ch s.sl x),gU (ch s.sl h) with
     | some c,some n=>CP s.rs c n k
     | _,_=>False
   | none=>False
 | some l,none,none=>match sv T t with
   | some y=>match cR (ch s.sl x),gU (ch s.sl l) with
     | some c,some n=>Ah y.size c n k
     | _,_=>False
   | none=>False
 | _,_,_=>False
def MC (y:Ty) (sz n:Nat) (get:Nat->Nat->I) (i j:Nat) (k:D->Prop):Prop:=match y.kd.agg with
 | true=>nd (Nat.ble (j+y.size) sz) (nd (Nat.blt i n) (k (.a (dq (get i) j y.size))))
 | false=>nd (Nat.blt j sz) (nd (Nat.blt i n) (k (.c (.im (get i j)))))
def BJ (i:Nat) (K:Nat->Prop) (m:Nat):Nat->Prop:=Nat.rec (λ_=>False) (λ_ ih c=>br (Nat.beq i c) (K c) (ih (c+1))) m
def EU (y:Ty) (f:Nat->Option C) (j:Nat) (k:D->Prop):Prop:=match y.kd.agg with
 | true=>fU (oM f j y.size) λl=>k (.a l)
 | false=>fU (f j) λc=>k (.c c)
def Y4 (y:Ty) (sz j:Nat):Bool:=match y.kd.agg with
 | true=>Nat.ble (j+y.size) sz
 | false=>Nat.blt j sz
def FD (y:Ty) (sz n:Nat) (get:Nat->Nat->O) (dJ:Option (Nat×List Fc)) (i j:Nat) (k:D->Prop):Prop:=nd (Y4 y sz j) (nd (Nat.blt i n) (match dJ with
 | none=>EU y (λj=>Lg (get i j)) j k
 | some x=>nd (Nat.beq i x.1) (EU y (λj=>KI (aR x.2 j)) j k)))
def PW (s:VS) (t:Nat) (x:Operand) (k:D->Prop):Prop:=match T.ty t,cR (ch s.sl x) with
 | some y,some c=>match c with
   | .rt r i j=>match aR s.rs r with
     | some (.arr _ sz n get)=>MC y sz n get i j k
     | some (.row _ sz n l)=>BJ i (λc=>fU (sc y l (c*sz+j)) k) n 0
     | some (.bL _ sz n get dJ)=>FD y sz n get dJ i j k
     | _=>fU (ki T s t x) k
   | _=>fU (ki T s t x) k
 | _,_=>False
def Ye (op:BinOp) (a b:Int) (k:D->Prop):Prop:=match op with
 | .quo=>nd (!(b==0)) (k (int (IntKind.i64.wrap (a.tdiv b))))
 | .rem=>nd (!(b==0)) (k (int (a.tmod b)))
 | _=>fU (xl op a b) λz=>k (.v z)
def Vr (s:VS) (op:BinOp) (t:Nat) (x y:Operand) (k:D->Prop):Prop:=match isNil y with
 | true=>fU (uE T s op t x) k
 | false=>match gU (ch s.sl x),gU (ch s.sl y) with
   | some a,some b=>Ye op a b k
   | _,_=>fU (wO T s op t x y) k
def AG (el sz n:Nat) (get:Nat->Nat->O) (dJ:Option (Nat×List Fc)) (r i j:Nat) (cs:List C) (k:cn->Prop):Prop:=match CR cs with
 | some ys=>nd (Nat.blt i n) (k (.wr none [(r,.bL el sz n (JQ get i j ys) dJ)]))
 | none=>False
def BU (el sz n:Nat) (get:Nat->Nat->O) (dJ:Option (Nat×List Fc)) (size r i j:Nat) (cs:List C) (k:cn->Prop):Prop:=nd (Nat.ble (j+size) sz) (match dJ with
 | none=>AG el sz n get none r i j cs k
 | some x=>nd (Nat.beq i x.1) (fU (OB cs x.2 j) λl=>k (.wr none [(r,.bL el sz n get (some (x.1,l)))])))
def JD (rs:List ae) (size r i j:Nat) (cs:List C) (k:cn->Prop):Prop:=match aR rs r with
 | some (.arr el sz n get)=>match CR cs with
   | some ys=>nd (Nat.ble (j+size) sz) (nd (Nat.blt i n) (k (.wr none [(r,.arr el sz n (GM get i j ys))])))
   | none=>fU (nW rs cs) k
 | some (.bL el sz n get dJ)=>BU el sz n get dJ size r i j cs k
 | _=>fU (lA rs size r i j cs) k
def Hs (s:VS) (dst:Option Tmp) (t:Nat) (x v:Operand) (k:cn->Prop):Prop:=match dst with
 | some _=>False
 | none=>match T.ty t,ch s.sl v with
   | some y,some d=>match d.cells with
     | some cs=>nd (Nat.beq cs.length y.size&&Nat.blt 0 y.size) (match cR (ch s.sl x) with
       | some (.rt r i j)=>JD s.rs y.size r i j cs k
       | _=>False)
     | none=>False
   | _,_=>False
def OU (b:Nat) (s:VS) (t:Nat) (l c:Operand) (k:cn->Prop):Prop:=match T.ty t with
 | some { kd:=.slice el,.. }=>match T.ty el with
   | some y=>match vY y with
     | some z=>match gU (ch s.sl l),gU (ch s.sl c) with
       | some (.ofNat n),some (.ofNat m)=>match CR z with
         | some is=>nd (Nat.blt 0 y.size) (nd (Nat.ble n maxLen&&Nat.ble (n*y.bytes) 281474976710656) (nd (Nat.beq n m) (k (.wr (some (.c (.sa b n))) [(b,.arr el y.size n (λ_=>iA is))]))))
         | none=>False
       | _,_=>False
     | none=>False
   | none=>False
 | _=>False
def Po (el sz n':Nat) (get':Nat->Nat->I) (bytes b:Nat) (rs:List ae) (c:C) (k:cn->Prop):Prop:=match c with
 | .im (.v (.slice none 0 0))=>nd (dU n' bytes) (k (.wr (some (.c (.sa b n'))) [(b,.arr el sz n' get')]))
 | .sa r m=>match aR rs r with
   | some (.arr qQ cL n get)=>nd (Nat.beq el qQ&&Nat.beq sz cL) (nd (dU (n+n') bytes) (nd (Nat.beq m n) (k (.wr (some (.c (.sa b (n+n')))) [(r,.dead),(b,.arr el sz (n+n') (kB n get get'))]))))
   | _=>False
 | _=>False
def L2 (sz:Nat) (rs:List ae) (c:C) (k:Nat×(Nat->Nat->I)->Prop) (K:Prop):Prop:=match c with
 | .sa q m=>match aR rs q with
   | some (.arr _ cL n get)=>nd (Nat.beq cL sz) (nd (Nat.ble m n) (k (m,get)))
   | _=>match rZ sz rs c with
     | some x=>k x
     | none=>K
 | _=>match rZ sz rs c with
   | some x=>k x
   | none=>K
def Um (ty:Ty) (el b:Nat) (rs:List ae) (c src:C) (k:cn->Prop):Prop:=L2 ty.size rs src (λx=>nd (Nat.blt 0 ty.size) (Po el ty.size x.1 x.2 ty.bytes b rs c k)) (fU (nW rs [src]) k)
def Vg (ty:Ty) (el qQ cL n:Nat) (get:Nat->Nat->O) (b r m:Nat) (rs:List ae) (src:C) (k:cn->Prop):Prop:=match yf rs src with
 | some (sz,1,l)=>nd (Nat.beq sz ty.size&&Nat.blt 0 sz) (nd (Nat.beq el qQ&&Nat.beq sz cL) (nd (dU (n+1) ty.bytes) (nd (Nat.beq m n) (k (.wr (some (.c (.sa b (n+1)))) [(r,.dead),(b,.bL el sz (n+1) get (some (n,l.map Fc.c)))])))))
 | _=>False
def N1 (el b:Nat) (rs:List ae) (c src:C) (k:cn->Prop):Prop:=match c with
 | .sa r m=>match aR rs r with
   | some (.bL qQ cL n get none)=>match T.ty el with
     | some ty=>Vg ty el qQ cL n get b r m rs src k
     | none=>False
   | _=>fU (nZ T el b rs (some c) (some src)) k
 | _=>fU (nZ T el b rs (some c) (some src)) k
def Wi (el b:Nat) (rs:List ae) (x src:Option C) (k:cn->Prop):Prop:=match x,src with
 | some c,some src=>match Ly rs c src with
   | true=>match T.ty el with
     | some ty=>Um ty el b rs c src k
     | none=>False
   | false=>N1 T el b rs c src k
 | _,_=>False
def V7 (b:Nat) (s:VS) (ts:List TypeId) (xs:List Operand) (k:cn->Prop):Prop:=match ts,xs with
 | [t,t'],[x,y]=>nd (Nat.beq t t') (match T.ty t with
   | some { kd:=.slice el,.. }=>Wi T el b s.rs (cR (ch s.sl x)) (cR (ch s.sl y)) k
   | _=>False)
 | _,_=>False
def Af (rs:List ae) (g:FuncId) (ds:List D) (k:cn->Prop):Prop:=match cQ rs ds with
 | some is=>bB T P g is [] (X.F g is []).1 (lq [] (X.F g is []))/\fU (gq (jJ X) rs g ds) k
 | none=>False
def My (rs:List ae) (g:FuncId) (ds:List D) (k:cn->Prop):Prop:=
 bB T P g ds rs (X.F g ds rs).1 (lq rs (X.F g ds rs))/\nd (DG X.S (X.F g ds rs).2.1) (k (.all (X.F g ds rs).1 (lq rs (X.F g ds rs))))
def ad0 (rs:List ae) (g:FuncId) (ds:List D) (k:cn->Prop):Prop:=match xr rs (X.W g ds) with
 | some o=>wh T P g ds rs o.1 o.2.1 o.2.2/\nd (Nat.blt o.2.1 rs.length) (k (.wr (some o.1) [(o.2.1,o.2.2)]))
 | none=>False
def Cp (x:Option cn):Option (Bool×cn):=match x with
 | some e=>some (true,e)
 | none=>none
def Fh (lo:Lo) (rs:List ae) (f:FuncId) (ds:List D) (b:Nat):Option (Bool×cn):=match cQ rs ds with
 | some is=>match lo.call f is [] with
   | some (.c (.sa q m),aG)=>match aR aG q with
     | some (.arr el sz n get)=>match jx rs ds (.wr (some (.c (.sa b n))) [(b,.arr el sz n get)]) with
       | some e=>some (Nat.beq m n,e)
       | none=>none
     | _=>Cp (fK lo rs f ds b)
   | _=>Cp (fK lo rs f ds b)
 | none=>none
def HV (rs:List ae) (b:Nat) (g:FuncId) (ds:List D) (k:cn->Prop):Prop:=match hi.mode g with
 | 0=>Af T P X rs g ds k
 | 1=>My T P X rs g ds k
 | 2=>match cQ rs ds with
   | some is=>bB T P g is [] (X.F g is []).1 (lq [] (X.F g is []))/\fU (Fh (jJ X) rs g ds b) λe=>nd e.1 (k e.2)
   | none=>False
 | 4=>ad0 T P X rs g ds k
 | 5=>match cQ rs ds with
   | some is=>bB T P g is [] (X.F g is []).1 (lq [] (X.F g is []))/\fU (yu (jJ X) rs g ds b) k
   | none=>False
 | _=>Bool.rec (My T P X rs g ds k) (Af T P X rs g ds k) (eU ds)
def ad3 (rs:List ae) (r:Nat) (ds:List D) (k:cn->Prop):Prop:=
 lW T P r ds rs (X.FY r ds rs).1 (lq rs (X.FY r ds rs))/\nd (DG X.S (X.FY r ds rs).2.1) (k (.all (X.FY r ds rs).1 (lq rs (X.FY r ds rs))))
def HG (b:Nat) (s:VS) (f:Operand) (xs:List Operand) (k:cn->Prop):Prop:=match cR (ch s.sl f),yF s.sl xs with
 | some c,some ds=>match c with
   | .yl r=>ad3 T P X s.rs r ds k
   | _=>match oN c with
     | some (g,dQ)=>HV T P X hi s.rs b g (ds++dQ) k
     | none=>False
 | _,_=>False
def Ps (b:Nat) (s:VS) (c:Call) (k:cn->Prop):Prop:=match Fp T s c with
 | some d=>k (.val d)
 | none=>match c.callee with
   | .builtin .append=>V7 T b s c.argTypes.toList c.args.toList k
   | .value f=>HG T P X hi b s f c.args.toList k
   | _=>False
def N4 (b:Nat) (s:VS) (dst:Option Tmp) (op:Op) (k:cn->Prop):Prop:=match op with
 | .indexAddr t x i=>HS T s t x i λd=>k (.val d)
 | .pick c x y=>L3 s c x y λd=>k (.val d)
 | .slice t x lo h mx=>FK T s t x lo h mx λd=>k (.val d)
 | .load t x=>PW T s t x λd=>k (.val d)
 | .binOp o t x y _=>Vr T s o t x y λd=>k (.val d)
 | .store t x v=>Hs T s dst t x v k
 | .makeSlice t l c=>OU T b s t l c k
 | .call c=>Ps T P X hi b s c k
 | op=>fU (fH T (jJ X) hi b s dst op) k
def Oe (t:Tmp) (b:Bool) (sl:aL):aL:=List.rec [] (λx l ih=>Bool.rec (x::ih) ((x.1,bool b,x.2.2)::l) (Nat.beq x.1 t)) sl
def uu (t:Tmp) (b:Bool) (s:VS):VS:={ s with sl:=Oe t b s.sl }
def Jq (s:VS) (c:Operand) (p:Bool) (A B:VS->Prop):Prop:=match c with
 | .tmp t=>br p (A (uu t true s)) (B (uu t false s))
 | _=>br p (A s) (B s)
def Ic (ops:List Oper) (s:VS) (g:Option (Nat×Bool)) (A B:VS->Prop):Prop:=match g with
 | none=>A s
 | some (j,want)=>match aR ops j with
   | some p=>match p.dst with
     | some t=>match dW s.sl t with
       | some (.t [])=>B s
       | d=>match iQ d with
         | some x=>Bool.rec (br x (B (uu t true s)) (A (uu t false s))) (br x (A (uu t true s)) (B (uu t false s))) want
         | none=>False
     | none=>False
   | none=>False
def Js (N:Nat) (s:VS) (dst:Option Tmp) (k:VS->Prop) (again:List Nat->Prop) (e:cn):Prop:=match e with
 | .ct l=>again l
 | e=>fU (pM N s dst e) k
def O4 (N:Nat) (s:VS) (dst:Option Tmp) (op:Op) (k:VS->Prop):Prop:=
 N4 T P X hi s.rs.length s dst op (Js N s dst k λl=>fU (gg l s) λs1=>N4 T P X hi s1.rs.length s1 dst op (Js N s1 dst k λ_=>False))
def opW (N:Nat) (ops:List Oper) (s:VS) (o:Oper) (k:VS->Prop):Prop:=
 Ic ops s o.guard (λs=>O4 T P X hi N s o.dst o.op k) λs=>fU (qq N s o.dst (.t [])) k
def W8 (N:Nat) (ops l:List Oper):VS->(VS->Prop)->Prop:=List.rec (λs k=>k s) (λo _ ih s k=>opW T P X hi N ops s o λs'=>ih s' k) l
def ZA (rs:List ae) (ck:List Nat) (i:Nat) (dst:Option Tmp) (e:cn) (k:YG->Prop):Prop:=fU (E9 (jJ X) rs ck i dst (some e)) λu=>match u with
 | .ok ⟨t,d,ws,none,true⟩=>nd (Qc rs.length ws) (k (.ok ⟨t,d,ws,none,true⟩))
 | u=>k u
def evalW (ck:List Nat) (i b:Nat) (ops:List Oper) (s:VS) (o:Oper) (k:VS->YG->Prop):Prop:=
 Ic ops s o.guard (λs=>N4 T P X hi b s o.dst o.op λe=>ZA X s.rs ck i o.dst e (k s)) λs=>k s (.ok ⟨o.dst,some (.t []),[],none,false⟩)
def A0 (N:Nat) (ck:List Nat) (ops l:List Oper):Nat->Nat->List (Nat×List Nat)->VS->(Eu->Prop)->Prop:=List.rec (λ_ _ W s q=>q (.ok W s)) (λo _ ih k b W s q=>
 evalW T P X hi ck k b ops s o λs u=>match u with
  | .ok u=>nd (CU N u.dst u.val) (ih (k+1) (b+dP o.op) (C3 k u W) (u.on s) q)
  | .ct c=>q (.ct c)) l
def Bc (N:Nat) (ops:List Oper) (ck:List Nat) (W:List (Nat×List Nat)) (l:List Oper):List Nat->Nat->Nat->VS->(VS->Prop)->Prop:=List.rec (λ_ _ _ s q=>q s) (λo _ ih ms i b s q=>
 match ms with
 | m::ms=>evalW T P X hi ck i b ops (T1 (dL ck i m W) s) o λs1 u=>match u with
   | .ok u=>nd (CU N u.dst u.val&&(Ch (u.ws.map (·.1)) (mO i W)&&(mo (u.ws.map (·.1)) (dL ck i m W)&&Q1 u.ex (dL ck i m W)))) (ih ms (i+1) (b+dP o.op) (u.on { s with sl:=s1.sl }) q)
   | .ct _=>False
 | []=>False) l
def Cj (N:Nat) (ops:List Oper) (s0 s':VS) (b:Nat) (W:List (Nat×List Nat)) (k:VS->Prop):Prop:=match W with
 | []=>k s'
 | _=>Bc T P X hi N ops (iN ops []) W ops (iN ops []) 0 b s0 k
def GR (N:Nat) (ops:List Oper) (n:Nat):VS->(VS->Prop)->Prop:=Nat.rec (λ_ _=>False) (λ_ ih s k=>
 A0 T P X hi N (iN ops []) ops ops 0 s.rs.length [] (fy ops s) λr=>match r with
  | .ct l=>fU (gg l s) λs'=>ih s' k
  | .ok W s'=>Cj T P X hi N ops (fy ops s) s' s.rs.length W k) n
def vz (N:Nat) (f:FuncId) (ro:Option Nat) (id:Nat) (ops:List Oper) (draw:Bool) (s:VS) (k:VS->Prop):Prop:=match draw with
 | false=>W8 T P X hi N ops ops s λs'=>k (sy hi f id s')
 | true=>match ro with
   | some _=>False
   | none=>match rk ops with
     | true=>GR T P X hi N ops 8 s λs'=>k (sy hi f id s')
     | false=>False
def B2 (b:Nat) (s:VS) (aG:List ae) (k:Option Code->VS->Prop):Prop:=match aR aG (b+1) with
 | some (.loop _ _ _ _ _ _ .ready none)=>k none { s with rs:=setAt aG (b+1) .dead,df:=b::s.df }
 | some (.loop _ _ _ _ _ _ .done (some c))=>k (some c) { s with rs:=setAt aG (b+1) .dead,df:=b::s.df }
 | _=>False
def MA (s:VS) (h:FuncId) (ds:List D) (rs:List ae) (k:Option Code->VS->Prop):Prop:=
 br (X.B h ds rs) (bB T P h ds rs (X.R1 h ds rs).1 (lq rs (X.R1 h ds rs))/\B2 s.rs.length s (lq rs (X.R1 h ds rs)) k) (bB T P h ds rs (X.R2 h ds rs).1 (lq rs (X.R2 h ds rs))/\B2 s.rs.length s (lq rs (X.R2 h ds rs)) k)
def CJ (N:Nat) (f:FuncId) (ro:Option Nat) (g:Operand) (ps:List Tmp) (as b:Code) (s:VS) (k:Option Code->VS->Prop):Prop:=match ro with
 | some _=>False
 | none=>match cR (ch s.sl g) with
   | some c=>match oN c with
     | some (h,dQ)=>MA T P X s h (.c (.yl (s.rs.length+1))::dQ) (s.rs++[.kF,.loop f N s.sl ps as b .ready none]) k
     | none=>False
   | none=>False
def tg (N:Nat) (f:FuncId) (ro:Option Nat) (stop:Nat->Bool) (L:List Item->VS->Prop) (Q:Option Code->VS->Prop) (n:Nat):Bool->List Item->VS->Prop:=Nat.rec (λ_ _ _=>False) (λ_ ih go todo s=>match todo with
 | []=>Q none s
 | x::k=>match x with
   | .inBlock _=>ih go k s
   | .inLoop c=>ih go (.code c::.inLoop c::k) s
   | .beginRound=>fU (tG ro s) λs'=>ih go k s'
   | .code c=>match c with
     | .skip=>ih go k s
     | .label _=>ih go k s
     | .ret=>Q (some .ret) s
     | .seq a b=>ih go (.code a::.code b::k) s
     | .cond c a b=>match iQ (ch s.sl c) with
       | some p=>Jq s c p (ih go (.code a::k)) (ih go (.code b::k))
       | none=>False
     | .block id c=>ih go (.code c::.inBlock id::k) s
     | .loop c=>ih go (.code c::.inLoop c::k) s
     | .exit id=>match exitTo id k with
       | some k'=>ih go k' s
       | none=>Q (some (.exit id)) s
     | .region id ops draw=>Bool.rec (vz T P X hi N f ro id ops.toList draw s λs'=>ih false k s') (L (.code (.region id ops draw)::k) s) (!go&&stop id)
     | .rangeFunc g ps as b=>CJ T P X N f ro g ps.toList as b s λj s'=>ih false (yV j k) s'
     | _=>False
   | _=>False) n
end
def rz (T:dk) (res:List ResultVar) (Q:D->List ae->Prop) (j:Option Code) (s:VS):Prop:=nd (LG j) (fU (Ot T s res) λx=>Q x.1 x.2)
def Qm (r:Nat) (Q:D->List ae->Prop) (j:Option Code) (s:VS):Prop:=fU (AZ r j s) λx=>Q x.1 x.2
end
section
variable {T:dk} {P:Program} {X:gr} {hi:Hint} {N:Nat} {s:VS}
theorem KF {t:Nat} {x ix:Operand} {k:D->Prop} (h:HS T s t x ix k):∃ d,mU T s t x ix=some d/\k d:=by
 unfold HS at h
 unfold mU
 split at h
 .rename_i a ha
  split at h
  case h_2=>exact h.elim
  rename_i i gI
  split at h
  case h_3=>exact h.elim
  .rename_i r q j hc
   obtain ⟨h1,h2⟩:=bI.1 h
   refine ⟨_,?_,h2⟩
   simp only [ha,gI,hc,wC,AA,h1]
  .rename_i q hc
   obtain ⟨d,h1,h2⟩:=cl h
   exact ⟨d,by simp only [ha,gI,hc,wC,h1],h2⟩
 .rename_i ha
  split at h
  case h_2=>exact h.elim
  rename_i y hy
  split at h
  case h_2=>exact h.elim
  rename_i i gI
  split at h
  .rename_i sz n get hc
   obtain ⟨h1,h2⟩:=bI.1 h
   obtain ⟨h3,h4⟩:=bI.1 h2
   refine ⟨_,?_,h4⟩
   simp only [ha,hy,gI,hc,qg,h1,h3]
  .rename_i r m hc
   split at h
   case h_4=>exact h.elim
   all_goals
    rename_i hr
    obtain ⟨h1,h2⟩:=bI.1 h
    obtain ⟨h3,h4⟩:=bI.1 h2
    refine ⟨_,?_,h4⟩
    simp only [ha,hy,gI,hc,qg,hr,h1,h3]
  .exact h.elim
theorem PK {c x y:Operand} {k:D->Prop} (h:L3 s c x y k):∃ d,yT s c x y=some d/\k d:=by
 unfold L3 at h
 unfold yT
 split at h
 case h_2=>exact h.elim
 rename_i b hb
 rcases xw h with ⟨rfl,h⟩|⟨rfl,h⟩
 .obtain ⟨z,h1,h2⟩:=cl h
  grind
 .obtain ⟨z,h1,h2⟩:=cl h
  grind
theorem FT {rs:List ae} {c:C} {h0:Int} {k:D->Prop} (h:CP rs c h0 k):∃ d,mW rs c h0=some d/\k d:=by
 unfold CP at h
 split at h
 .obtain ⟨h1,h2⟩:=bI.1 h
  exact ⟨_,by simp only [mW,h1],h2⟩
 .split at h
  case h_4=>exact h.elim
  all_goals
   rename_i hr
   obtain ⟨h1,h2⟩:=bI.1 h
   exact ⟨_,by simp only [mW,hr,h1],h2⟩
 .exact cl h
theorem Gj {sz:Nat} {c:C} {h0:Int} {k:D->Prop} (h:Ah sz c h0 k):∃ d,vK sz c h0=some d/\k d:=by
 unfold Ah at h
 split at h
 case h_2=>exact h.elim
 obtain ⟨h1,h2⟩:=bI.1 h
 obtain ⟨h3,h4⟩:=bI.1 h2
 exact ⟨_,by simp only [vK,h1,h3,Bool.and_self],h4⟩
theorem Lc {t:Nat} {x:Operand} {l h0 mx:Option Operand} {k:D->Prop} (h:FK T s t x l h0 mx k):∃ d,kb T s t x l h0 mx=some d/\k d:=by
 unfold FK at h
 unfold kb
 split at h
 all_goals grind [FT,Gj]
theorem vO {i:Nat} {K:Nat->Prop}:∀ {m c:Nat},BJ i K m c->K i
 | 0,c,h=>h.elim
 | m+1,c,h=>by
   have h:br (Nat.beq i c) (K c) (BJ i K m (c+1)):=h
   rcases xw h with ⟨h1,h2⟩|⟨_,h2⟩
   .rw [cg h1]; exact h2
   .exact vO h2
theorem NG {y:Ty} {f g:Nat->Option C} {j:Nat} {k:D->Prop} (hfg:f=g) (h:EU y f j k):∃ d,(match y.kd.agg with
  | true=>match oM g j y.size with
    | some l=>some (.a l)
    | none=>none
  | false=>match g j with
    | some c=>some (.c c)
    | none=>none)=some d/\k d:=by
 subst hfg
 unfold EU at h
 split at h
 .rename_i ha
  obtain ⟨l,h1,h2⟩:=cl h
  grind
 .rename_i ha
  obtain ⟨l,h1,h2⟩:=cl h
  grind
theorem Kx {y:Ty} {sz n:Nat} {get:Nat->Nat->O} {dJ:Option (Nat×List Fc)} {i j:Nat} {k:D->Prop} (h:FD y sz n get dJ i j k):∃ d,Ds y sz n (ym get dJ i) i j=some d/\k d:=by
 unfold FD at h
 obtain ⟨h1,h2⟩:=bI.1 h
 obtain ⟨h3,h4⟩:=bI.1 h2
 have fin:∀ {f:Nat->Option C},f=ym get dJ i->EU y f j k->∃ d,Ds y sz n (ym get dJ i) i j=some d/\k d:=by
  intro f hf hp
  obtain ⟨d,q1,q2⟩:=NG hf hp
  refine ⟨d,?_,q2⟩
  unfold Ds
  unfold Y4 at h1
  cases ha:y.kd.agg with
  | true=>simp only [ha] at h1 q1 ⊢; simp only [h1,h3]; exact q1
  | false=>simp only [ha] at h1 q1 ⊢; simp only [h1,h3]; exact q1
 split at h4
 .exact fin rfl h4
 .rename_i x
  obtain ⟨q1,q2⟩:=bI.1 h4
  exact fin (by funext j; simp only [ym,q1]) q2
theorem OW {t:Nat} {x:Operand} {k:D->Prop} (h:PW T s t x k):∃ d,ki T s t x=some d/\k d:=by
 unfold PW at h
 split at h
 case h_2=>exact h.elim
 rename_i y c hy hc
 split at h
 case h_2=>exact cl h
 rename_i r i j
 split at h
 case h_4=>exact cl h
 case h_2=>
  rename_i el sz n l hr
  obtain ⟨d,h1,h2⟩:=cl (vO h)
  grind [ki,rp,wX]
 case h_3=>
  grind [Kx,ki,rp,wX]
 rename_i el sz n get hr
 unfold MC at h
 split at h
 .rename_i ha
  obtain ⟨h1,h2⟩:=bI.1 h
  obtain ⟨h3,h4⟩:=bI.1 h2
  exact ⟨_,by simp only [ki,hy,hc,rp,hr,wX,Ie,ha,h1,h3],h4⟩
 .rename_i ha
  obtain ⟨h1,h2⟩:=bI.1 h
  obtain ⟨h3,h4⟩:=bI.1 h2
  exact ⟨_,by simp only [ki,hy,hc,rp,hr,wX,Ie,ha,h1,h3],h4⟩
theorem RL {op:BinOp} {a b:Int} {k:D->Prop} (h:Ye op a b k):∃ z,xl op a b=some z/\k (.v z):=by
 unfold Ye at h
 split at h
 .obtain ⟨h1,h2⟩:=bI.1 h
  simp only [Bool.not_eq_true'] at h1
  exact ⟨_,by simp only [xl,h1],h2⟩
 .obtain ⟨h1,h2⟩:=bI.1 h
  simp only [Bool.not_eq_true'] at h1
  exact ⟨_,by simp only [xl,h1],h2⟩
 .exact cl h
theorem EF {d:Option D} {n:Int} (e:gU d=some n):∃ v,DC d=some v/\Hi v=some n:=by
 grind [gU]
theorem SD {op:BinOp} {t:Nat} {x y:Operand} {k:D->Prop} (h:Vr T s op t x y k):∃ d,wO T s op t x y=some d/\k d:=by
 unfold Vr at h
 split at h
 .rename_i hn
  obtain ⟨d,h1,h2⟩:=cl h
  exact ⟨d,by simp only [wO,hn,h1],h2⟩
 .rename_i hn
  split at h
  .rename_i a b ha hb
   obtain ⟨z,h1,h2⟩:=RL h
   obtain ⟨u,hu,hu2⟩:=EF ha
   obtain ⟨v,hv,hv2⟩:=EF hb
   have hp:Hy y=false:=by
    unfold Hy
    split
    .rename_i q
     have hb:gU (some (.c (.im (.v (.pointer none)))))=some b:=hb
     cases hb
    .have hb:gU (some (.c (.im (.v .nilFunc))))=some b:=hb
     cases hb
    .rfl
   grind [wO,HZ]
  .exact cl h
theorem GA {el sz n size r i j:Nat} {get:Nat->Nat->O} {dJ:Option (Nat×List Fc)} {cs:List C} {k:cn->Prop} (hb:Nat.ble (j+size) sz=true) (h:AG el sz n get dJ r i j cs k):∃ e,nF el sz n get dJ size r i j cs=some e/\k e:=by
 unfold AG at h
 split at h
 case h_2=>exact h.elim
 rename_i ys hys
 obtain ⟨h1,h2⟩:=bI.1 h
 exact ⟨_,by simp only [nF,hys,h1,hb],h2⟩
theorem HQ {el sz n size r i j:Nat} {get:Nat->Nat->O} {dJ:Option (Nat×List Fc)} {cs:List C} {k:cn->Prop} (h:BU el sz n get dJ size r i j cs k):∃ e,qm el sz n get dJ size r i j cs=some e/\k e:=by
 unfold BU at h
 obtain ⟨h1,h2⟩:=bI.1 h
 split at h2
 .exact GA h1 h2
 .rename_i x
  obtain ⟨q1,q2⟩:=bI.1 h2
  obtain ⟨l,q3,q4⟩:=cl q2
  exact ⟨_,by simp only [qm,q1,q3,h1],q4⟩
theorem K8 {lo:Lo} {hi:Hint} {b:Nat} {dst:Option Tmp} {t:Nat} {x v:Operand} {k:cn->Prop} (h:Hs T s dst t x v k):∃ e,gz T s dst t x v=some e/\k e:=by
 unfold Hs at h
 split at h
 .exact h.elim
 split at h
 case h_2=>exact h.elim
 rename_i y d hy hd
 split at h
 case h_2=>exact h.elim
 rename_i cs hcs
 obtain ⟨h1,h2⟩:=bI.1 h
 split at h2
 case h_2=>exact h2.elim
 rename_i r i j hx
 have fin:∀ {e:cn},lA s.rs y.size r i j cs=some e->gz T s none t x v=some e:=λhe=>by
  simp only [gz,hy,hd,hcs,h1,hx,he]
 unfold JD at h2
 split at h2
 .rename_i el sz n get hr
  split at h2
  .rename_i ys hys
   obtain ⟨h3,h4⟩:=bI.1 h2
   obtain ⟨h5,h6⟩:=bI.1 h4
   exact ⟨_,fin (by simp only [lA,hr,hys,h3,h5]),h6⟩
  .rename_i hys
   obtain ⟨e,h3,h4⟩:=cl h2
   exact ⟨e,fin (by simp only [lA,hr,hys,h3]),h4⟩
 .grind [HQ,lA]
 .obtain ⟨e,h3,h4⟩:=cl h2
  exact ⟨e,fin h3,h4⟩
theorem OK {b:Nat} {t:Nat} {l c:Operand} {k:cn->Prop} (h:OU T b s t l c k):∃ e,lI T b s t l c=some e/\k e:=by
 unfold OU at h
 split at h
 case h_2=>exact h.elim
 rename_i sf
 split at h
 case h_2=>exact h.elim
 rename_i hy
 split at h
 case h_2=>exact h.elim
 rename_i hz
 split at h
 case h_2=>exact h.elim
 rename_i hl hc
 split at h
 case h_2=>exact h.elim
 rename_i his
 obtain ⟨h1,h2⟩:=bI.1 h
 obtain ⟨h3,h4⟩:=bI.1 h2
 obtain ⟨h5,h6⟩:=bI.1 h4
 exact ⟨_,by simp only [lI,sf,hy,hz,hl,hc,his,h1,h3,h5],h6⟩
theorem OS {el sz n':Nat} {get':Nat->Nat->I} {bytes b:Nat} {rs:List ae} {c:C} {k:cn->Prop} (h:Po el sz n' get' bytes b rs c k):∃ e,qM el sz n' get' bytes b rs c=some e/\k e:=by
 unfold Po at h
 split at h
 .obtain ⟨h1,h2⟩:=bI.1 h
  exact ⟨_,by simp only [qM,h1],h2⟩
 .split at h
  case h_2=>exact h.elim
  rename_i hr
  obtain ⟨h1,h2⟩:=bI.1 h
  obtain ⟨h3,h4⟩:=bI.1 h2
  obtain ⟨h5,h6⟩:=bI.1 h4
  exact ⟨_,by simp only [qM,hr,h1,h3,h5],h6⟩
 .exact h.elim
theorem QK {sz:Nat} {rs:List ae} {c:C} {k:Nat×(Nat->Nat->I)->Prop} {K:Prop} (h:L2 sz rs c k K):(∃ x,rZ sz rs c=some x/\k x)∨(rZ sz rs c=none/\K):=by
 have fin:(match rZ sz rs c with
  | some x=>k x
  | none=>K)->(∃ x,rZ sz rs c=some x/\k x)∨(rZ sz rs c=none/\K):=λq=>by
  grind
 unfold L2 at h
 split at h
 .split at h
  .rename_i hr
   obtain ⟨h1,h2⟩:=bI.1 h
   obtain ⟨h3,h4⟩:=bI.1 h2
   exact .inl ⟨_,by simp only [rZ,hr,h1,h3],h4⟩
  .exact fin h
 .exact fin h
theorem M2 {el b:Nat} {rs:List ae} {c src:C} {k:cn->Prop} (h:N1 T el b rs c src k):∃ e,nZ T el b rs (some c) (some src)=some e/\k e:=by
 unfold N1 at h
 split at h
 .split at h
  .rename_i hr
   split at h
   case h_2=>exact h.elim
   rename_i ty bC
   unfold Vg at h
   split at h
   case h_2=>exact h.elim
   rename_i hs
   obtain ⟨h1,h2⟩:=bI.1 h
   obtain ⟨h3,h4⟩:=bI.1 h2
   obtain ⟨h5,h6⟩:=bI.1 h4
   obtain ⟨h7,h8⟩:=bI.1 h6
   exact ⟨_,by simp only [nZ,bC,hs,h1,CT,hr,h3,h5,h7,Bool.and_self],h8⟩
  .exact cl h
 .exact cl h
theorem S3 {el b:Nat} {x src:Option C} {k:cn->Prop} (h:Wi T el b s.rs x src k):∃ e,(match o5 T el b s.rs x src with
   | some e=>e
   | none=>nZ T el b s.rs x src)=some e/\k e:=by
 unfold Wi at h
 split at h
 case h_2=>exact h.elim
 rename_i c src
 split at h
 .rename_i hg
  split at h
  case h_2=>exact h.elim
  rename_i ty bC
  simp only [o5,hg,bC]
  unfold Um at h
  rcases QK h with ⟨x,h1,h2⟩|⟨h1,h2⟩
  .obtain ⟨h3,h4⟩:=bI.1 h2
   obtain ⟨e,h5,h6⟩:=OS h4
   refine ⟨e,?_,h6⟩
   simp only [AE,h1,h3]
   exact h5
  .obtain ⟨e,h3,h4⟩:=cl h2
   exact ⟨e,by simp only [AE,h1,h3],h4⟩
 grind [o5,M2]
theorem R3 {b:Nat} {ts:List TypeId} {xs:List Operand} {k:cn->Prop} (h:V7 T b s ts xs k):∃ e,ob T b s ts xs=some e/\k e:=by
 unfold V7 at h
 split at h
 case h_2=>exact h.elim
 obtain ⟨h1,h2⟩:=bI.1 h
 split at h2
 case h_2=>exact h2.elim
 rename_i hy
 obtain ⟨e,h3,h4⟩:=S3 h2
 refine ⟨e,?_,h4⟩
 simp only [ob,h1,hy]
 exact h3
theorem Bb {dst:Option Tmp} {t:Nat} {x v:Operand} {d:D} {aG:List ae} (h:gz T s dst t x v=some (.all d aG)):False:=by
 unfold gz at h
 split at h
 .simp at h
 split at h
 case h_2=>simp at h
 split at h
 all_goals grind [Bool.aw,lA,kf,rW]
theorem FE {b:Nat} {ts:List TypeId} {xs:List Operand} {d:D} {aG:List ae} (h:ob T b s ts xs=some (.all d aG)):False:=by
 unfold ob at h
 split at h
 case h_2=>simp at h
 replace h:=(Bool.aw h).2
 split at h
 case h_2=>simp at h
 split at h
 .rename_i e' he'
  subst h
  unfold o5 at he'
  split at he'
  case h_2=>simp at he'
  split at he'
  case h_2=>simp at he'
  split at he'
  case h_2=>simp at he'
  simp only [au] at he'
  unfold AE at he'
  split at he'
  .replace he':=(Bool.aw he').2
   unfold qM at he'
   grind [Bool.aw]
  .obtain ⟨m,hm⟩:=kf he'; cases hm
 .have fin:∀ {el sz k:Nat} {l':List C} {yD:Nat} {c:C},CT el sz k l' yD b s.rs c≠some (.all d aG):=by
   intro el sz k l' yD c q
   unfold CT at q
   grind [Bool.aw]
  unfold nZ at h
  split at h
  case h_2=>simp at h
  split at h
  all_goals grind [Bool.aw]
theorem Gr {lo:Lo} {b:Nat} {dst:Option Tmp} {op:Op} {d:D} {aG:List ae} (h1:∀ c,op ≠ .call c) (h2:∀ t x v,op ≠ .store t x v) (h3:∀ t l c,op ≠ .makeSlice t l c) (h:fH T lo hi b s dst op=some (.all d aG)):False:=by
 unfold fH at h
 split at h
 .simp at h
 .cases op with
  | call c=>exact h1 c rfl
  | store t x v=>exact h2 t x v rfl
  | makeSlice t l c=>exact h3 t l c rfl
  | box t x=>
    have h:uL b s x=_:=h
    grind [uL]
  | alloc t=>
    have h:j6 T b t=_:=h
    grind [j6]
  | makeMap t r=>
    have h:kp T b t r=_:=h
    unfold kp at h
    split at h<;>simp at h
  | buildSlice t n ps=>
    have h:LF T b s (zf hi dst) t n ps.toList=_:=h
    unfold LF at h
    split at h
    all_goals grind [Bool.aw,jq]
  | mapUpdate t m k v=>
    have h:lG T s dst t m k v=_:=h
    unfold lG at h
    grind [Bool.aw]
  | _=>simp [gk] at h
def Good (X:gr) (rs:List ae) (e:cn):Prop:=∀ d aG,e=.all d aG->Grown X.S rs aG
theorem mB {f:FuncId} {ds:List D} {rs:List ae} (h:bB T P f ds rs (X.F f ds rs).1 (lq rs (X.F f ds rs))):(cu T P X).call f ds rs=(jJ X).call f ds rs:=by
 simp [cu,jJ,h]
theorem Lt {r:Nat} {ds:List D} {rs:List ae} (h:lW T P r ds rs (X.FY r ds rs).1 (lq rs (X.FY r ds rs))):(cu T P X).PD r ds rs=(jJ X).PD r ds rs:=by
 simp [cu,jJ,h]
theorem Ma {rs:List ae} {g:FuncId} {ds is:List D} (hr:cQ rs ds=some is) (hk:bB T P g is [] (X.F g is []).1 (lq [] (X.F g is []))):yq (cu T P X) rs g ds=yq (jJ X) rs g ds:=by
 simp only [yq,hr,mB hk]
theorem Mc {rs:List ae} {g:FuncId} {ds is:List D} {b:Nat} (hr:cQ rs ds=some is) (hk:bB T P g is [] (X.F g is []).1 (lq [] (X.F g is []))):wP (cu T P X) rs g ds b=wP (jJ X) rs g ds b:=by
 simp only [wP,hr,mB hk]
theorem qC {rs:List ae} {ds:List D} {e e':cn} (h:jx rs ds e=some e') (he:∀ d aG,e ≠ .all d aG):Good X rs e':=by
 intro d aG q
 subst q
 rcases mH h with ⟨l,hl⟩|⟨hl,_⟩
 all_goals grind
theorem Du {lo:Lo} {rs:List ae} {g:FuncId} {ds:List D} {e:cn} (h:gq lo rs g ds=some e):Good X rs e:=by
 unfold gq at h
 split at h
 case h_2=>simp at h
 rename_i d hd
 cases hp:gT d with
 | true=>rw [hp] at h; simp only [au] at h; subst h; intro _ _ q; cases q
 | false=>
   rw [hp] at h
   grind [Bool.aw,qC]
theorem EL {lo:Lo} {rs:List ae} {g:FuncId} {ds:List D} {b:Nat} {e:cn} (h:fK lo rs g ds b=some e):Good X rs e:=by
 unfold fK at h
 split at h
 .simp only [au] at h; subst h; intro _ _ q; cases q
 .revert h
  generalize eI _=p
  intro h
  cases p with
  | true=>simp only [au] at h; subst h; intro _ _ q; cases q
  | false=>exact qC h λ_ _ q=>by cases q
 all_goals grind [qC]
theorem zw {rs:List ae} {g:FuncId} {ds:List D} {k:cn->Prop} (h:Af T P X rs g ds k):∃ e,gq (cu T P X) rs g ds=some e/\Good X rs e/\k e:=by
 unfold Af at h
 split at h
 case h_2=>exact h.elim
 rename_i is hr
 obtain ⟨hk,h⟩:=h
 obtain ⟨e,h1,h2⟩:=cl h
 grind [Du,gq,Ma]
theorem Dx {rs:List ae} {g:FuncId} {ds:List D} {k:cn->Prop} (h:My T P X rs g ds k):∃ e,sV (cu T P X) rs g ds=some e/\Good X rs e/\k e:=by
 obtain ⟨hk,h⟩:=h
 obtain ⟨h1,h2⟩:=bI.1 h
 refine ⟨_,by simp only [sV,mB hk,jJ],?_,h2⟩
 intro d aG q
 simp only [cn.all.injEq] at q
 exact ⟨_,_,h1,q.2.symm⟩
theorem S4 {rs:List ae} {r:Nat} {ds:List D} {k:cn->Prop} (h:ad3 T P X rs r ds k):∃ e,BP (cu T P X) rs r ds=some e/\Good X rs e/\k e:=by
 obtain ⟨hk,h⟩:=h
 obtain ⟨h1,h2⟩:=bI.1 h
 refine ⟨_,by simp only [BP,Lt hk,jJ],?_,h2⟩
 intro d aG q
 simp only [cn.all.injEq] at q
 exact ⟨_,_,h1,q.2.symm⟩
theorem JO {lo:Lo} {rs:List ae} {f:FuncId} {ds:List D} {b:Nat} {e:cn} (h:Fh lo rs f ds b=some (true,e)):fK lo rs f ds b=some e:=by
 have tt:∀ {x:Option cn},Cp x=some (true,e)->x=some e:=λ{x} q=>by
  cases x with
  | none=>cases q
  | some y=>grind [Cp]
 unfold Fh at h
 split at h
 case h_2=>cases h
 rename_i is hi
 split at h
 case h_2=>exact tt h
 rename_i q m aG hc
 split at h
 case h_2=>exact tt h
 rename_i el sz n get hq
 split at h
 case h_2=>cases h
 rename_i e' he
 simp only [au,bs] at h
 obtain ⟨h1,rfl⟩:=h
 simp only [fK,wP,hi,hc,hq,h1]
 exact he
theorem K0 {rs:List ae} {b:Nat} {g:FuncId} {ds:List D} {k:cn->Prop} (h:HV T P X hi rs b g ds k):∃ e,nO (cu T P X) hi rs b g ds=some e/\Good X rs e/\k e:=by
 unfold HV at h
 unfold nO
 split at h
 .rename_i hm
  simp only [hm]
  exact zw h
 .rename_i hm
  simp only [hm]
  exact Dx h
 .rename_i hm
  simp only [hm]
  split at h
  case h_2=>exact h.elim
  rename_i is hr
  obtain ⟨hk,h⟩:=h
  obtain ⟨⟨c,e⟩,h1,h2⟩:=cl h
  obtain ⟨h3,h4⟩:=bI.1 h2
  have h3:c=true:=h3
  subst h3
  have h1:=JO h1
  grind [fK,Mc,EL]
 .rename_i hm
  simp only [hm]
  unfold ad0 at h
  split at h
  case h_2=>exact h.elim
  rename_i x hx
  obtain ⟨h2,h3⟩:=h
  obtain ⟨h4,h5⟩:=bI.1 h3
  refine ⟨.wr (some x.1) [(x.2.1,x.2.2)],?_,(by intro d aG q; cases q),h5⟩
  unfold SG cu
  simp only [hx,if_pos h2,h4]
 .rename_i hm
  simp only [hm]
  split at h
  case h_2=>exact h.elim
  rename_i is hr
  obtain ⟨hk,h⟩:=h
  obtain ⟨e,h1,h2⟩:=cl h
  refine ⟨e,by rw [<- h1]; simp only [yu,hr,mB hk],?_,h2⟩
  obtain ⟨is',cs,qR,L,_,_,_,_,rfl⟩:=j4 h1
  intro d aG q; cases q
 .rename_i h0 h1 h2 h4 h5
  split
  .grind
  .grind
  .grind
  .grind
  .grind
  .cases hp:eU ds with
   | true=>
     rw [hp] at h
     exact zw h
   | false=>
     rw [hp] at h
     exact Dx h
theorem Lf {b:Nat} {f:Operand} {xs:List Operand} {k:cn->Prop} (h:HG T P X hi b s f xs k):∃ e,lx (cu T P X) hi b s f xs=some e/\Good X s.rs e/\k e:=by
 unfold HG at h
 unfold lx
 split at h
 all_goals grind [S4,K0]
theorem Ob {b:Nat} {c:Call} {dst:Option Tmp} {k:cn->Prop} (h:Ps T P X hi b s c k):∃ e,fH T (cu T P X) hi b s dst (.call c)=some e/\Good X s.rs e/\k e:=by
 unfold Ps at h
 unfold fH
 split at h
 .rename_i d hd
  have hl:eN T s (.call c)=some d:=hd
  rw [hl]
  exact ⟨_,rfl,(λ_ _ q=>by cases q),h⟩
 .rename_i hd
  have hl:eN T s (.call c)=none:=hd
  rw [hl]
  show ∃ e,gL T (cu T P X) hi b s c=some e/\Good X s.rs e/\k e
  unfold gL
  split at h
  .rename_i hc
   simp only [hc]
   obtain ⟨e,h1,h2⟩:=R3 h
   refine ⟨e,h1,λd aG q=>?_,h2⟩
   grind [FE]
  all_goals grind [Lf]
theorem Bi {b:Nat} {dst:Option Tmp} {op:Op} {k:cn->Prop} (h:N4 T P X hi b s dst op k):∃ e,fH T (cu T P X) hi b s dst op=some e/\Good X s.rs e/\k e:=by
 have gv:∀ d:D,Good X s.rs (.val d):=λd _ _ q=>by cases q
 unfold N4 at h
 split at h
 .grind [KF,eN,fH]
 .grind [PK,eN,fH]
 .grind [Lc,eN,fH]
 .grind [OW,eN,fH]
 .grind [SD,eN,fH]
 .rename_i t x v
  obtain ⟨e,h1,h2⟩:=K8 (lo:=cu T P X) (hi:=hi) (b:=b) h
  exact ⟨e,h1,λd aG q=>(Bb (q▸h1)).elim,h2⟩
 .rename_i t l c
  obtain ⟨e,h1,h2⟩:=OK h
  refine ⟨e,h1,λd aG q=>?_,h2⟩
  subst q
  unfold lI at h1
  repeat (first|(split at h1)|(replace h1:=(Bool.aw h1).2))
  all_goals simp at h1
 .exact Ob h
 .rename_i op0 n1 n2 n3 n4 n5 n6 n7 n8
  obtain ⟨e,h1,h2⟩:=cl h
  have hw:gk T (cu T P X) hi b s dst op=gk T (jJ X) hi b s dst op:=by
   cases op<;>first|(simp only [gk]; done)|exact (n8 _ rfl).elim
  refine ⟨e,?_,λd aG q=>?_,h2⟩
  all_goals grind [fH,Gr]
theorem wF {t:Tmp} {b:Bool}:∀ {sl:aL},dW sl t=some (bool b)->Oe t b sl=sl
 | [],h=>by simp [dW] at h
 | x::l,h=>by
   have h:(Bool.rec (dW l t) (some x.2.1) (Nat.beq x.1 t):Option D)=some (bool b):=h
   show (Bool.rec (x::Oe t b l) ((x.1,bool b,x.2.2)::l) (Nat.beq x.1 t):aL)=x::l
   cases hb:Nat.beq x.1 t with
   | true=>
     rw [hb] at h
     grind
   | false=>
     rw [hb] at h
     simp only
     rw [wF h]
theorem iZ {t:Tmp} {b:Bool} {s:VS} (h:dW s.sl t=some (bool b)):uu t b s=s:=by
 unfold uu
 rw [wF h]
theorem Ql {s:VS} {c:Operand} {p:Bool} {A B:VS->Prop} (hp:iQ (ch s.sl c)=some p) (h:Jq s c p A B):(p=true/\A s)∨(p=false/\B s):=by
 unfold Jq at h
 split at h
 .rcases xw h with ⟨rfl,h⟩|⟨rfl,h⟩
  .rw [iZ (eB hp)] at h; exact .inl ⟨rfl,h⟩
  .rw [iZ (eB hp)] at h; exact .inr ⟨rfl,h⟩
 .exact xw h
theorem E6 {ops:List Oper} {s:VS} {g:Option (Nat×Bool)} {A B:VS->Prop} (h:Ic ops s g A B):(lV ops s.sl g=some true/\A s)∨(lV ops s.sl g=some false/\B s):=by
 unfold Ic at h
 unfold lV
 split at h
 .exact .inl ⟨rfl,h⟩
 .rename_i j want
  split at h
  case h_2=>exact h.elim
  rename_i p hp
  split at h
  case h_2=>exact h.elim
  rename_i t ht
  simp only [hp,ht]
  split at h
  .rename_i hl
   exact .inr ⟨by rw [hl]; rfl,h⟩
  .rename_i d hl
   split at h
   case h_2=>exact h.elim
   rename_i x hx
   have hw:JM (dW s.sl t) want=some (Lj x want):=by
    grind [JM]
   rw [hw]
   have YE:=eB hx
   cases want with
   | true=>
     rcases xw (b:=x) h with ⟨rfl,h⟩|⟨rfl,h⟩
     .exact .inl ⟨rfl,by rw [iZ YE] at h; exact h⟩
     .exact .inr ⟨rfl,by rw [iZ YE] at h; exact h⟩
   | false=>
     rcases xw (b:=x) h with ⟨rfl,h⟩|⟨rfl,h⟩
     .exact .inr ⟨rfl,by rw [iZ YE] at h; exact h⟩
     .exact .inl ⟨rfl,by rw [iZ YE] at h; exact h⟩
theorem N3 {dst:Option Tmp} {k:VS->Prop} {again:List Nat->Prop} {e:cn} (h:Js N s dst k again e):(∃ l,e=.ct l/\again l)∨((∀ l,e ≠ .ct l)/\∃ s',pM N s dst e=some s'/\k s'):=by
 unfold Js at h
 split at h
 .grind
 .rename_i hn
  exact .inr ⟨hn,cl h⟩
theorem PL {dst:Option Tmp} {op:Op} {k:VS->Prop} (h:O4 T P X hi N s dst op k):∃ s',DK T (cu T P X) hi N s dst op=some s'/\k s':=by
 unfold O4 at h
 obtain ⟨e,h1,_,h2⟩:=Bi h
 grind [DK,N3,cl,Bi,PI]
theorem Xf {ops:List Oper} {o:Oper} {k:VS->Prop} (h:opW T P X hi N ops s o k):∃ s',opF T (cu T P X) hi N ops s o=some s'/\k s':=by
 unfold opW at h
 unfold opF
 rcases E6 h with ⟨h1,h2⟩|⟨h1,h2⟩
 .rw [h1]; exact PL h2
 .rw [h1]; exact cl h2
theorem IX {ops:List Oper}:∀ (l:List Oper) {s:VS} {k:VS->Prop},W8 T P X hi N ops l s k->∃ s',Le T (cu T P X) hi N ops l s=some s'/\k s'
 | [],s,k,h=>⟨s,rfl,h⟩
 | o::l,s,k,h=>by
   have h:opW T P X hi N ops s o (λs'=>W8 T P X hi N ops l s' k):=h
   obtain ⟨s1,h1,h2⟩:=Xf h
   obtain ⟨s2,h3,h4⟩:=IX l h2
   grind [Le]
theorem C6 {ck:List Nat} {i b:Nat} {ops:List Oper} {o:Oper} {k:VS->YG->Prop} (h:evalW T P X hi ck i b ops s o k):∃ u,kz T (cu T P X) hi ck i b ops s o=some u/\k s u:=by
 unfold evalW at h
 unfold kz
 rcases E6 h with ⟨h1,h2⟩|⟨h1,h2⟩
 .rw [h1]
  obtain ⟨e,h3,h4,h5⟩:=Bi h2
  simp only [h3]
  unfold ZA at h5
  obtain ⟨u,h6,h7⟩:=cl h5
  cases e with
  | val d=>
    grind [E9]
  | wr d ws=>
    grind [E9]
  | ct l=>
    grind [E9]
  | all d aG=>
    simp only [E9] at h6 ⊢
    cases hb:Et ck i with
    | true=>
      rw [hb] at h6
      grind
    | false=>
      rw [hb] at h6
      have h6:M0 (jJ X) o.dst d s.rs aG=some u:=h6
      show ∃ u,M0 (cu T P X) o.dst d s.rs aG=some u/\k s u
      unfold M0 at h6 ⊢
      simp only [jJ] at h6
      obtain ⟨h8,h9⟩:=Bool.aw h6
      simp only [au] at h9
      subst h9
      obtain ⟨KW,h11⟩:=bI.1 h7
      have hd:(cu T P X).diff s.rs aG=some (ky X.S aG):=by
       simp only [cu]
       rw [if_pos ⟨h4 d aG rfl,KW⟩]
      grind
 grind
theorem zz {ck:List Nat} {ops:List Oper}:∀ (l:List Oper) {k b:Nat} {W:List (Nat×List Nat)} {s:VS} {q:Eu->Prop},A0 T P X hi N ck ops l k b W s q->∃ r,lk T (cu T P X) hi N ck ops l k b W s=some r/\q r
 | [],k,b,W,s,q,h=>⟨_,rfl,h⟩
 | o::l,k,b,W,s,q,h=>by
   have h:evalW T P X hi ck k b ops s o (λs u=>match u with
    | .ok u=>nd (CU N u.dst u.val) (A0 T P X hi N ck ops l (k+1) (b+dP o.op) (C3 k u W) (u.on s) q)
    | .ct c=>q (.ct c)):=h
   obtain ⟨u,h1,h2⟩:=C6 h
   have hf:lk T (cu T P X) hi N ck ops (o::l) k b W s=(match kz T (cu T P X) hi ck k b ops s o with
    | some (.ok u)=>Bool.rec none (lk T (cu T P X) hi N ck ops l (k+1) (b+dP o.op) (C3 k u W) (u.on s)) (CU N u.dst u.val)
    | some (.ct c)=>some (.ct c)
    | none=>none):=rfl
   rw [hf,h1]
   cases u with
   | ct c=>exact ⟨_,rfl,h2⟩
   | ok u=>
     obtain ⟨h3,h4⟩:=bI.1 h2
     obtain ⟨r,h5,h6⟩:=zz l h4
     simp_all
theorem vD {ops:List Oper} {ck:List Nat} {W:List (Nat×List Nat)}:∀ (l:List Oper) {ms:List Nat} {i b:Nat} {s:VS} {q:VS->Prop},Bc T P X hi N ops ck W l ms i b s q->∃ r,jT T (cu T P X) hi N ops ck W l ms i b s=some r/\q r
 | [],ms,i,b,s,q,h=>⟨_,rfl,h⟩
 | o::l,ms,i,b,s,q,h=>by
   cases ms with
   | nil=>exact (show False from h).elim
   | cons m ms=>
     have h:evalW T P X hi ck i b ops (T1 (dL ck i m W) s) o (λs1 u=>match u with
      | .ok u=>nd (CU N u.dst u.val&&(Ch (u.ws.map (·.1)) (mO i W)&&(mo (u.ws.map (·.1)) (dL ck i m W)&&Q1 u.ex (dL ck i m W)))) (Bc T P X hi N ops ck W l ms (i+1) (b+dP o.op) (u.on { s with sl:=s1.sl }) q)
      | .ct _=>False):=h
     obtain ⟨u,h1,h2⟩:=C6 h
     have N9:(T1 (dL ck i m W) s).sl=s.sl:=by cases dL ck i m W<;>rfl
     simp only [N9] at h2
     have hf:jT T (cu T P X) hi N ops ck W (o::l) (m::ms) i b s=(match kz T (cu T P X) hi ck i b ops (T1 (dL ck i m W) s) o with
      | some (.ok u)=>Bool.rec none (jT T (cu T P X) hi N ops ck W l ms (i+1) (b+dP o.op) (u.on s)) (CU N u.dst u.val&&(Ch (u.ws.map (·.1)) (mO i W)&&(mo (u.ws.map (·.1)) (dL ck i m W)&&Q1 u.ex (dL ck i m W))))
      | _=>none):=rfl
     rw [hf,h1]
     cases u with
     | ct c=>exact h2.elim
     | ok u=>
       obtain ⟨h3,h4⟩:=bI.1 h2
       obtain ⟨r,h5,h6⟩:=vD l h4
       simp_all
theorem zm {ops:List Oper}:∀ (n:Nat) {s:VS} {k:VS->Prop},GR T P X hi N ops n s k->∃ s',xa T (cu T P X) hi N ops n s=some s'/\k s'
 | 0,s,k,h=>(show False from h).elim
 | n+1,s,k,h=>by
   have h:A0 T P X hi N (iN ops []) ops ops 0 s.rs.length [] (fy ops s) (λr=>match r with
    | .ct l=>fU (gg l s) λs'=>GR T P X hi N ops n s' k
    | .ok W s'=>Cj T P X hi N ops (fy ops s) s' s.rs.length W k):=h
   obtain ⟨r,h1,h2⟩:=zz _ h
   have hf:xa T (cu T P X) hi N ops (n+1) s=(match lk T (cu T P X) hi N (iN ops []) ops ops 0 s.rs.length [] (fy ops s) with
    | some (.ct l)=>match gg l s with
      | some s'=>xa T (cu T P X) hi N ops n s'
      | none=>none
    | some (.ok W s')=>z6 T (cu T P X) hi N ops (fy ops s) s' s.rs.length W
    | none=>none):=rfl
   rw [hf,h1]
   cases r with
   | ct l=>
     obtain ⟨s1,h3,h4⟩:=cl h2
     simp only [h3]
     exact zm n h4
   | ok W s' =>
     have h2:Cj T P X hi N ops (fy ops s) s' s.rs.length W k:=h2
     show ∃ s2,z6 T (cu T P X) hi N ops (fy ops s) s' s.rs.length W=some s2/\k s2
     unfold Cj at h2
     grind [z6,vD]
theorem Ft {f:FuncId} {ro:Option Nat} {id:Nat} {ops:List Oper} {draw:Bool} {k:VS->Prop} (h:vz T P X hi N f ro id ops draw s k):∃ s',regionF T (cu T P X) hi N f ro id ops draw s=some s'/\k s':=by
 unfold vz at h
 cases draw with
 | false=>
   obtain ⟨s1,h1,h2⟩:=IX _ h
   refine ⟨_,?_,h2⟩
   show (match Le T (cu T P X) hi N ops ops s with
    | some s'=>some (sy hi f id s')
    | none=>none)=_
   rw [h1]
 | true=>
   simp only at h
   cases ro with
   | some r=>grind
   | none=>
   simp only at h
   split at h
   case h_2=>exact h.elim
   rename_i lC
   obtain ⟨s1,h1,h2⟩:=zm _ h
   refine ⟨_,?_,h2⟩
   show (match rk ops with
    | true=>match xa T (cu T P X) hi N ops 8 s with
      | some s'=>some (sy hi f id s')
      | none=>none
    | false=>none)=_
   rw [lC,h1]
end
open Go.RowKit
section
variable {P:Program} {T:dk} {X:gr} {hi:Hint} {N:Nat} {f:FuncId}
theorem uj (p:Nat×ae) (ws:List (Nat×ae)) (rs:List ae):writes (p::ws) rs=writes ws (rs.set p.1 p.2):=by
 show writes ws (setAt rs p.1 p.2)=_
 rw [ba]
theorem mF {q:Nat}:∀ {ws:List (Nat×ae)} {rs:List ae},(∀ p∈ws,p.1≠q)->(writes ws rs)[q]?=rs[q]?
 | [],rs,_=>rfl
 | p::ws,rs,h=>by
   rw [uj,mF λy hy=>h y (fL _ hy),jE,if_neg (h p (jl ..))]
theorem ua {q:Nat} {x:ae}:∀ {ws:List (Nat×ae)} {rs:List ae},q<rs.length->(∀ p∈ws,p.1=q->p.2=x)->((∃ p∈ws,p.1=q)∨rs[q]?=some x)->(writes ws rs)[q]?=some x
 | [],rs,hq,h,k=>by
   rcases k with ⟨p,hp,_⟩|k
   .cases hp
   .exact k
 | p::ws,rs,hq,h,k=>by
   rw [uj]
   refine ua (by simpa using hq) (λy hy=>h y (fL _ hy)) ?_
   grind
theorem xU {S:List Nat}:∀ {ws:List (Nat×ae)},DG S ws=true->∀ p∈ws,p.1∈S
 | [],_,p,hp=>by cases hp
 | y::ws,h,p,hp=>by
   obtain ⟨h1,h2⟩:=Bool.fW (show (Bool.rec false (DG S ws) (nS y.1 S):Bool)=true from h)
   rcases List.mem_cons.1 hp with rfl|hp
   .exact jX.1 h1
   .exact xU h2 p hp
theorem zC {n:Nat}:∀ {ws:List (Nat×ae)},Qc n ws=true->∀ p∈ws,gK n p.2=true
 | [],_,p,hp=>by cases hp
 | y::ws,h,p,hp=>by
   obtain ⟨h1,h2⟩:=Bool.fW (show (Bool.rec false (Qc n ws) (gK n y.2):Bool)=true from h)
   rcases List.mem_cons.1 hp with rfl|hp
   .exact h1
   .exact zC h2 p hp
theorem GF (q:Nat) (S:List Nat) (aG:List ae):ky (q::S) aG=(match aG[q]? with
 | some x=>(q,x)::ky S aG
 | none=>ky S aG):=by
 grind [ky,bW]
theorem lM {aG:List ae}:∀ {S:List Nat} {p:Nat×ae},p∈ky S aG↔p.1∈S/\aG[p.1]?=some p.2
 | [],p=>by simp [ky]
 | q::S,p=>by
   rw [GF]
   split
   .rename_i x hx
    rw [List.mem_cons,lM,List.mem_cons]
    grind
   .rename_i hx
    rw [lM,List.mem_cons]
    grind
theorem LL (S:List Nat):∀ rs aG,Grown S rs aG->Qc rs.length (ky S aG)=true->∀ (q:Nat) (x:ae),(writes (ky S aG) rs)[q]?=some x->aG[q]?=some x/\(rs[q]?=some x∨gK rs.length x=true):=by
 rintro rs aG ⟨ws,ex,hk,rfl⟩ hl q x hx
 have hq:q<rs.length:=by
  grind [gC]
 have C4:(writes ws rs++ex)[q]?=(writes ws rs)[q]?:=iU (by rw [gC]; exact hq)
 have eG:q<(writes ws rs).length:=by rw [gC]; exact hq
 by_cases hS:q∈S
 .have hy:=ka eG
  generalize (writes ws rs)[q]=y at hy
  have hm:(q,y)∈ky S (writes ws rs++ex):=lM.2 ⟨hS,by rw [C4]; exact hy⟩
  have hs:=ua (ws:=ky S (writes ws rs++ex)) (x:=y) hq (λp hp hpq=>by
   grind [lM]) (.inl ⟨_,hm,rfl⟩)
  rw [hx] at hs
  simp only [au] at hs
  subst hs
  exact ⟨by rw [C4]; exact hy,.inr (zC hl _ hm)⟩
 .have h1:(writes (ky S (writes ws rs++ex)) rs)[q]?=rs[q]?:=mF λp hp e=>hS (e▸(lM.1 hp).1)
  have h2:(writes ws rs)[q]?=rs[q]?:=mF λp hp e=>hS (e▸xU hk p hp)
  grind
theorem v7 {rs oU:List ae} (hle:∀ (q:Nat) (x:ae),aR rs q=some x->x.live->aR oU q=some x):∀ (r:Rd) {o:D×Nat×ae},xr rs r=some o->xr oU r=some o
 | .no,o,h=>by cases h
 | .ret _,_,h=>h
 | .get q k,o,h=>by
   have h:(match aR rs q with
    | some x=>match x with
      | .dead=>none
      | x=>xr rs (k x)
    | none=>none)=some o:=h
   show (match aR oU q with
    | some x=>match x with
      | .dead=>none
      | x=>xr oU (k x)
    | none=>none)=some o
   cases hx:aR rs q with
   | none=>rw [hx] at h; simp at h
   | some x=>
     rw [hx] at h
     cases x with
     | dead=>simp at h
     | _=>
       rw [hle _ _ hx trivial]
       exact v7 hle _ h
theorem vP (T:dk) (P:Program) (X:gr):gw T P (cu T P X) where
 call f ds rs d aG e:=by
  unfold cu at e
  dsimp only at e
  split at e
  .rename_i hk
   simp only [au,bs] at e
   obtain ⟨rfl,rfl⟩:=e
   exact hk.out
  .simp at e
 PD r ds rs d aG e:=by
  unfold cu at e
  dsimp only at e
  split at e
  .rename_i hk
   simp only [au,bs] at e
   obtain ⟨rfl,rfl⟩:=e
   exact hk.out
  .simp at e
 diff rs aG ws e:=by
  grind [cu,LL]
 wr f ds rs d q x e:=by
  unfold cu at e
  dsimp only at e
  split at e
  case h_2=>simp at e
  rename_i y hy
  split at e
  .rename_i hk
   simp only [au] at e
   have h:=hk.out rs rfl (λ_ _ q _=>q)
   rw [e] at h
   exact h.out
  .simp at e
 mono f ds rs oU r hlen hle e:=by
  unfold cu at e ⊢
  dsimp only at e ⊢
  split at e
  case h_2=>simp at e
  rename_i y hy
  split at e
  .rename_i hk
   simp only [v7 hle _ hy]
   rw [if_pos ⟨λVf h3 h4=>hk.out Vf (hlen.trans h3) λk z hz hl=>h4 k z (hle k z hz hl) hl⟩]
   exact e
  .simp at e
def Goal (P:Program) (T:dk) (N:Nat) (b:Frame) (cs:List Frame) (ro:Option Nat) (n0:Nat) (ey:Option Code->VS->Prop) (todo:List Item) (s:VS):Prop:=
 ∀ (ax:Nat->Prop) (w0:Kp) (sp:List (D×Value)) (a:Act) (w:World) (E:Env),n0<=s.rs.length->(∀ x∈sp,jf n0 x.1=true)->ir (E.take n0) b ro->R T N ax w0 sp s a w E->bw s.sl->
  ∃ j s' a' w' E' cT,Kept (E.take n0) E'/\R T N ax w0 sp s' a' w' E'/\bw s'.sl/\uD j cT/\ey j s'/\Steps P (lone (b.atR a todo) cs w) (lone (b.atR a' cT) cs w')
theorem Kf {ro:Option Nat} {g:Operand} {ps:List Tmp} {as bd:Code} {s:VS} {k:Option Code->VS->Prop} (h:CJ T P X N f ro g ps as bd s k):∃ lo j s',gw T P lo/\oF lo N f ro g ps as bd s=some (j,s')/\k j s':=by
 unfold CJ at h
 split at h
 .exact h.elim
 split at h
 case h_2=>exact h.elim
 rename_i c hc
 split at h
 case h_2=>exact h.elim
 rename_i hf dQ Gp
 have fin:∀ (lo:Lo) (d:D) (aG:List ae),gw T P lo->lo.call hf (.c (.yl (s.rs.length+1))::dQ) (s.rs++[.kF,.loop f N s.sl ps as bd .ready none])=some (d,aG)->B2 s.rs.length s aG k->∃ lo j s',gw T P lo/\oF lo N f none g ps as bd s=some (j,s')/\k j s':=by
  intro lo d aG CB ux hk
  unfold B2 at hk
  split at hk
  .rename_i hr
   exact ⟨lo,_,_,CB,by simp only [oF,hc,Gp,ux,hr],hk⟩
  .rename_i hr
   exact ⟨lo,_,_,CB,by simp only [oF,hc,Gp,ux,hr],hk⟩
  .exact hk.elim
 unfold MA at h
 rcases xw h with ⟨_,h1,h2⟩|⟨_,h1,h2⟩
 .exact fin (cu T P { X with F:=X.R1 }) _ _ (vP _ _ _) (by simp only [cu]; rw [if_pos h1]) h2
 .exact fin (cu T P { X with F:=X.R2 }) _ _ (vP _ _ _) (by simp only [cu]; rw [if_pos h1]) h2
theorem ir.take {E E':Env} {b:Frame} {ro:Option Nat} {n:Nat} (hk:Kept E E') (h:ir (E.take n) b ro):ir (E'.take n) b ro:=h.mono (hk.take n).le
theorem ve (bC:cZ P T) (CQ:P.follows .mixedOrders=true) {b:Frame} (FP:b.fn=f) {cs:List Frame} {ro:Option Nat} {n0:Nat} {ey:Option Code->VS->Prop} {stop:Nat->Bool} {L:List Item->VS->Prop} {Q:Option Code->VS->Prop}
  (hL:∀ todo s,L todo s->Goal P T N b cs ro n0 ey todo s) (hQ:∀ j s,Q j s->ey j s) :
  ∀ (n:Nat) {go:Bool} {todo:List Item} {s:VS},tg T P X hi N f ro stop L Q n go todo s->Goal P T N b cs ro n0 ey todo s
 | 0,go,todo,s,e=>(show False from e).elim
 | n+1,go,todo,s,e=>by
   intro ax w0 sp a w E uw dr Fe h hn
   have hl:=vP T P X
   have run:∀ {go1:Bool} {fk:List Item} {s1:VS} {a1:Act} {w1:World} {E1:Env},tg T P X hi N f ro stop L Q n go1 fk s1->Kept E E1->R T N ax w0 sp s1 a1 w1 E1->bw s1.sl->Steps P (lone (b.atR a todo) cs w) (lone (b.atR a1 fk) cs w1)->
     ∃ j s' a' w' E' cT,Kept (E.take n0) E'/\R T N ax w0 sp s' a' w' E'/\bw s'.sl/\uD j cT/\ey j s'/\Steps P (lone (b.atR a todo) cs w) (lone (b.atR a' cT) cs w'):=by
    intro go1 fk s1 a1 w1 E1 e1 hk h1 Ws lC
    have hlen:n0<=s1.rs.length:=by
     have:=hk.len
     rw [h.len,h1.len] at this
     omega
    obtain ⟨j,s',a',w',E',cT,q1,q2,q3,q4,q5,q6⟩:=ve bC CQ FP hL hQ n e1 ax w0 sp a1 w1 E1 hlen dr (Fe.take hk) h1 Ws
    exact ⟨j,s',a',w',E',cT,(hk.take n0).trans q1,q2,q3,q4,q5,lC.trans q6⟩
   have cE:∀ {c:Option Code},Q c s->uD c todo->∃ j s' a' w' E' cT,Kept (E.take n0) E'/\R T N ax w0 sp s' a' w' E'/\bw s'.sl/\uD j cT/\ey j s'/\Steps P (lone (b.atR a todo) cs w) (lone (b.atR a' cT) cs w'):=
    λhq he=>⟨_,s,a,w,E,todo,Kept.kX E n0,h,hn,he,hQ _ _ hq,Steps.refl _ _⟩
   have hroE:ir E b ro:=Fe.mono (Kept.kX E n0).le
   cases todo with
   | nil=>exact cE (c:=none) e rfl
   | cons x k=>
     cases x with
     | inBlock id=>exact run (fk:=k) (s1:=s) e (Kept.refl E) h hn (.one stepR_inBlock)
     | inLoop c=>exact run (fk:=.code c::.inLoop c::k) (s1:=s) e (Kept.refl E) h hn (.one stepR_inLoop)
     | beginRound=>
       obtain ⟨s1,hs1,e⟩:=cl (show fU (tG ro s) (λs'=>tg T P X hi N f ro stop L Q n go k s') from e)
       obtain ⟨w',h1,h2,h3⟩:=D1 h hroE hs1
       exact run e (Kept.refl E) h1 (by rw [h2]; exact hn) h3
     | code c=>
       cases c with
       | skip=>exact run (fk:=k) (s1:=s) e (Kept.refl E) h hn (.one stepR_skip)
       | label l=>exact run (fk:=k) (s1:=s) e (Kept.refl E) h hn (.one stepR_label)
       | ret=>exact cE (c:=some .ret) e (.inl ⟨k,rfl,rfl⟩)
       | seq x y=>exact run (fk:=.code x::.code y::k) (s1:=s) e (Kept.refl E) h hn (.one stepR_seq)
       | cond c x y=>
         have e:(match iQ (ch s.sl c) with
          | some p=>Jq s c p (tg T P X hi N f ro stop L Q n go (.code x::k)) (tg T P X hi N f ro stop L Q n go (.code y::k))
          | none=>False):=e
         split at e
         case h_2=>exact e.elim
         rename_i p hp
         have hv:a.eval c=.bool p:=(h.ch hn (eB hp)).1
         have lC:=Steps.one (stepR_cond (P:=P) (b:=b) (k:=k) (cs:=cs) (w:=w) (x:=x) (y:=y) hv)
         grind [Ql,Kept.refl]
       | block id c=>exact run (fk:=.code c::.inBlock id::k) (s1:=s) e (Kept.refl E) h hn (.one stepR_block)
       | loop c=>exact run (fk:=.code c::.inLoop c::k) (s1:=s) e (Kept.refl E) h hn (.one stepR_loop)
       | exit id=>
         have e:(match exitTo id k with
          | some k'=>tg T P X hi N f ro stop L Q n go k' s
          | none=>Q (some (.exit id)) s):=e
         split at e
         .rename_i k' nG
          exact run e (Kept.refl E) h hn (.one (stepR_exit nG))
         .rename_i nG
          exact cE e (.inr ⟨id,k,rfl,rfl,nG⟩)
       | region id ops draw=>
         have e0:Bool.rec (vz T P X hi N f ro id ops.toList draw s λs'=>tg T P X hi N f ro stop L Q n false k s') (L (.code (.region id ops draw)::k) s) (!go&&stop id):=e
         clear e
         cases hgo:(!go&&stop id) with
         | true=>
           rw [hgo] at e0
           exact hL _ _ e0 ax w0 sp a w E uw dr Fe h hn
         | false=>
           rw [hgo] at e0
           obtain ⟨s1,hs1,e⟩:=Ft e0
           cases draw with
           | false=>
             obtain ⟨a',w',E',q1,q2,q3,q4⟩:=wj (b:=b) (k:=k) (cs:=cs) bC hl h hn hs1
             exact run e q1 q2 q3 q4
           | true=>
             obtain ⟨a',w',E',q1,q2,q3,q4⟩:=DP (b:=b) (k:=k) (cs:=cs) bC hl CQ h hn hs1
             exact run e q1 q2 q3 q4
       | rangeFunc g ps as bd=>
         obtain ⟨lo,j1,s1,CB,hs1,e⟩:=Kf (show CJ T P X N f ro g ps.toList as bd s (λj s'=>tg T P X hi N f ro stop L Q n false (yV j k) s') from e)
         obtain ⟨a',w',E',q1,q2,q3,q4⟩:=Ep (k:=k) (cs:=cs) CB h hn FP hroE hs1
         grind
       | _=>exact (show False from e).elim
     | _=>exact (show False from e).elim
end
open Go.RowKit
section
variable {P:Program} {T:dk} {N:Nat} {ax:Nat->Prop} {w0:Kp} {sp:List (D×Value)} {s:VS} {a:Act} {w w':World} {E E':Env} {f:FuncId}
def bf (d d':D):Prop:=∀ (E:Env) (av:Nat->Prop) (w:World) (v:Value),aQ E av w d v->aQ E av w d' v
theorem bf.refl (d:D):bf d d:=λ_ _ _ _ h=>h
def iw (n:Nat) (x:ae):Prop:=gK n x=true∨∃ f N sl ps as bd st fi,x=.loop f N sl ps as bd st fi/\∀ t d c,look sl t=some (d,c)->jf n d=true
theorem GB {n m:Nat} (h:n<=m) {l:List Nat} (e:xE n l=true):xE m l=true:=vW λr hr=>Nat.lt_of_lt_of_le (qs e r hr) h
theorem sJ {n m:Nat} (h:n<=m) {x:C} (e:uH n x=true):uH m x=true:=by
 cases x with
 | im x=>rfl
 | rt r i j=>exact j9 (Nat.lt_of_lt_of_le (aM e) h)
 | sa r k=>exact j9 (Nat.lt_of_lt_of_le (aM e) h)
 | mp r=>exact j9 (Nat.lt_of_lt_of_le (aM e) h)
 | yl r=>exact j9 (Nat.lt_of_lt_of_le (aM e) h)
 | ow r j=>exact j9 (Nat.lt_of_lt_of_le (aM e) h)
 | fh f l=>exact GB h e
theorem mq {n m:Nat} (h:n<=m) {l:List C} (e:hX n l=true):hX m l=true:=rA λx hx=>sJ h (gZ e x hx)
theorem yU {n m:Nat} (h:n<=m):∀ {l:List (Bool×List C)},AF n l=true->AF m l=true
 | [],_=>rfl
 | y::l,e=>by
   obtain ⟨h1,h2⟩:=Bool.fW (show (Bool.rec false (AF n l) (hX n y.2):Bool)=true from e)
   show (Bool.rec false (AF m l) (hX m y.2):Bool)=true
   rw [mq h h1]
   exact yU h h2
theorem oH {n m:Nat} (h:n<=m) {d:D} (e:jf n d=true):jf m d=true:=by
 cases d with
 | c x=>exact sJ h e
 | a l=>exact mq h e
 | t l=>exact yU h e
theorem wb {n:Nat}:∀ {l:List Fc},(∀ x∈l,wq n x=true)->um n l=true
 | [],_=>rfl
 | y::l,h=>by
   show (Bool.rec false (um n l) (wq n y):Bool)=true
   rw [h y (jl ..)]
   exact wb λx hx=>h x (fL _ hx)
theorem Kh {n m:Nat} (h:n<=m) {x:Fc} (e:wq n x=true):wq m x=true:=by
 cases x with
 | c x=>exact sJ h e
 | o x=>rfl
theorem GL {n m:Nat} (h:n<=m) {l:List Fc} (e:um n l=true):um m l=true:=wb λx hx=>Kh h (qI e x hx)
theorem JX {n m:Nat} (h:n<=m) {x:ae} (e:gK n x=true):gK m x=true:=by
 cases x with
 | box l=>exact mq h e
 | row el sz k l=>exact mq h e
 | bL el sz k get dJ=>
   cases dJ with
   | none=>rfl
   | some x=>exact GL h e
 | loop f N sl ps as bd st fi=>simp [gK] at e
 | _=>rfl
theorem iw.mono {n m:Nat} (h:n<=m) {x:ae}:iw n x->iw m x
 | .inl e=>.inl (JX h e)
 | .inr ⟨f,N,sl,ps,as,bd,st,fi,e,k⟩=>.inr ⟨f,N,sl,ps,as,bd,st,fi,e,λt d c q=>oH h (k t d c q)⟩
theorem aO.low {av:Nat->Prop} {base:Nat} {e:fJ} {x:ae} (h:aO E av base w e x):iw E.length x:=by
 cases x with
 | dead=>exact .inl rfl
 | box l=>obtain ⟨_,_,_,_,_,_,p⟩:=h; exact .inl (L.low p)
 | arr el sz n get=>exact .inl rfl
 | row el sz n l=>obtain ⟨_,_,_,_,p⟩:=h; exact .inl (L.low p)
 | bL el sz n get dJ=>
   obtain ⟨_,_,xs,_,Ks,_,hf,p⟩:=h
   cases dJ with
   | none=>exact .inl rfl
   | some x=>
     obtain ⟨h1,h2⟩:=hf x rfl
     refine .inl (wb λc hc=>?_)
     grind [List.getElem_of_mem,fR,Nat.beq_refl,bg,iX.low]
 | own l=>exact .inl rfl
 | set l=>exact .inl rfl
 | kF=>exact .inl rfl
 | loop f N sl ps as bd st fi=>
   obtain ⟨b,db,tm,p1,p2,p3,p4,p5⟩:=h
   refine .inr ⟨f,N,sl,ps,as,bd,st,fi,rfl,λt d c q=>?_⟩
   have hcn:c=[]:=p5 _ (hJ q)
   subst hcn
   exact aQ.low ((p4 t d [] q).2.1 λp hp=>by cases hp)
theorem R.cut {sl:aL} {rs:List ae} {df:List Nat} (h:R T N ax w0 sp ⟨sl,rs,df⟩ a w E) {n:Nat} (hn:n<=rs.length) (hsp:∀ x∈sp,jf n x.1=true) (N9:∀ t d,look sl t=some (d,[])->jf n d=true) (qO:∀ t d c,look sl t=some (d,c)->c=[])
  (Qt:∀ r∈df,r<n) (NK:∀ (q:Nat) (x:ae),(rs.take n)[q]?=some x->iw n x):R T N ax w0 sp ⟨sl,rs.take n,df⟩ a w (E.take n):=by
 have hk:=Kept.kX E n
 have hEl:(E.take n).length=n:=by rw [List.length_take,h.len]; exact Nat.min_eq_left hn
 have iL:∀ {r b sz:Nat},cM (E.take n) r b sz->cM E r b sz:=λ⟨hh,q,q2⟩=>⟨hh,by
  grind,q2⟩
 have hr:∀ {q:Nat} {x:ae},(rs.take n)[q]?=some x->rs[q]?=some x:=λq=>by
  grind
 have eT:∀ b,AV ax (rs.take n) (E.take n) b->AV ax rs E b:=by
  rintro b (q|⟨r,x,sz,h1,h2,h3⟩)
  .exact .inl q
  .exact .inr ⟨r,x,sz,hr h1,h2,iL h3⟩
 have hD:∀ {d:D} {v:Value},jf n d=true->aQ E (AV ax rs E) w d v->aQ (E.take n) (AV ax (rs.take n) (E.take n)) w d v:=λhl q=>aQ.shrink hk eT (by rw [hEl]; exact hl) q
 have hC:∀ {l:List C} {cs:List Value},hX n l=true->az (a7 E (AV ax rs E) w) l cs->az (a7 (E.take n) (AV ax (rs.take n) (E.take n)) w) l cs:=λhl q=>q.shrink λx hx y p=>a7.shrink hk eT (by rw [hEl]; exact gZ hl x hx) p
 have hdef:∀ {df:List Nat} {ds:List Deferred},(∀ r∈df,r<n)->az (λr (d:Deferred)=>∃ b sz,bh E r b sz/\d={ target:=.collected b,args := #[] }) df ds->az (λr (d:Deferred)=>∃ b sz,bh (E.take n) r b sz/\d={ target:=.collected b,args := #[] }) df ds:=by
  intro df ds h1 h2
  refine h2.shrink λr Dn d ⟨b,sz,⟨hh,q⟩,e⟩=>⟨b,sz,⟨hh,?_⟩,e⟩
  grind
 refine ⟨h.size,hdef Qt h.defers,λx hx=>hD (hsp x hx) (h.spec x hx),h.below,by grind,h.outer,?_,λr x b sz h1 h2 h3=>h.cJ r x b sz (hr h1) h2 (iL h3),λr r' x x' b sz cL h1 nA h2 ic h3 ld=>h.dz r r' x x' b sz cL (hr h1) (hr nA) h2 ic (iL h3) (iL ld),?_,h.fS.mono (aW.refl _ w) (λb _ q=>eT b q)⟩
 .intro r x e h1 h2
  have hE:E[r]?=some e:=by
   grind
  have hrel:=h.roots r x e (hr h1) hE
  have dr:=NK r x h1
  cases x with
  | dead=>trivial
  | box l=>
    obtain ⟨b,cs,Tc,p1,p2,p3,p4⟩:=hrel
    rcases dr with dr|⟨_,_,_,_,_,_,_,_,e,_⟩
    .exact ⟨b,cs,Tc,p1,p2,p3,hC dr p4⟩
    .cases e
  | row el sz k l=>
    obtain ⟨p1,p2,xs,p3,p4⟩:=hrel
    rcases dr with dr|⟨_,_,_,_,_,_,_,_,e,_⟩
    .exact ⟨p1,p2,xs,p3,hC dr p4⟩
    .cases e
  | arr el sz k get=>
    obtain ⟨p1,p2,xs,p3,p4⟩:=hrel
    refine ⟨p1,p2,xs,p3,λi hi j hj=>?_⟩
    obtain ⟨x,p5,p6⟩:=p4 i hi j hj
    exact ⟨x,p5,cF.mono (aW.refl _ w) (λb _ q=>eT b q) p6⟩
  | bL el sz k get dJ=>
    obtain ⟨p1,p2,xs,p3,Ks,p4,pf,p5⟩:=hrel
    refine ⟨p1,p2,xs,p3,Ks,p4,pf,λi hi j hj=>?_⟩
    obtain ⟨x,c,p6,p7,p8⟩:=p5 i hi j hj
    refine ⟨x,c,p6,p7,iX.shrink hk eT ?_ p8⟩
    rw [hEl]
    rcases dr with dr|⟨_,_,_,_,_,_,_,_,e,_⟩
    .exact DV dr p7
    .cases e
  | own l=>
    obtain ⟨p1,p2,vs,p3,p4,Ks,p5,p6,p7⟩:=hrel
    refine ⟨p1,p2,vs,p3,p4,Ks,p5,p6,λi o ho=>?_⟩
    obtain ⟨v,g1,g2⟩:=p7 i o ho
    exact ⟨v,g1,fO.mono (aW.refl _ w) (λb _ q=>eT b q) (λ_ _=>rfl) g2⟩
  | set l=>exact hrel
  | kF=>exact hrel
  | loop f M fI ps as bd st fi=>
    obtain ⟨b,db,tm,p1,p2,p3,p4,p5⟩:=hrel
    rcases dr with dr|⟨_,_,_,_,_,_,_,_,e,dr⟩
    .simp [gK] at dr
    .simp only [ae.loop.injEq] at e
     obtain ⟨rfl,rfl,rfl,rfl,rfl,rfl,rfl,rfl⟩:=e
     exact ⟨b,db,tm,p1,p2,p3,λt d c hl=>by
      obtain ⟨s1,s2,s3⟩:=p4 t d c hl
      grind,p5⟩
 .intro t d c hl
  have hcn:=qO t d c hl
  subst hcn
  obtain ⟨s1,s2,s3⟩:=h.slots t d [] hl
  grind
def JB (x y:ae):Prop:=y=x∨∃ f N sl ps a b st pd YJ pd',x=.loop f N sl ps a b st pd/\y=.loop f N sl ps a b YJ pd'
theorem JB.low {n:Nat} {x y:ae} (h:JB x y) (hx:iw n x):iw n y:=by
 rcases h with rfl|⟨f,N,sl,ps,a,b,st,pd,YJ,pd',rfl,rfl⟩
 .exact hx
 .rcases hx with h|⟨_,_,_,_,_,_,_,_,e,k⟩
  .simp [gK] at h
  .simp only [ae.loop.injEq] at e
   obtain ⟨rfl,rfl,rfl,rfl,rfl,rfl,rfl,rfl⟩:=e
   exact .inr ⟨_,_,_,_,_,_,_,_,rfl,k⟩
def El (n:Nat):List ae->List ae->Prop
 | _,[]=>True
 | [],y::l=>gK n y=true/\El n [] l
 | x::k,y::l=>(JB x y∨gK n y=true)/\El n k l
theorem s8 {n:Nat}:∀ {k l:List ae},El n k l->∀ (q:Nat) (x:ae),l[q]?=some x->(∃ z,k[q]?=some z/\JB z x)∨gK n x=true
 | _,[],_,q,x,e=>by simp at e
 | [],y::l,h,0,x,e=>by simp at e; subst e; exact .inr h.1
 | [],y::l,h,q+1,x,e=>by
   rcases s8 h.2 q x (by simpa using e) with h1|h1
   all_goals grind
 | z::k,y::l,h,0,x,e=>by
   simp at e; subst e
   exact h.1.imp (λe=>⟨z,rfl,e⟩) id
 | z::k,y::l,h,q+1,x,e=>by simpa using s8 h.2 q x (by simpa using e)
theorem bm (n:Nat):∀ l,El n l l
 | []=>trivial
 | _::l=>⟨.inl (.inl rfl),bm n l⟩
def Ends (rs:List ae) (d:D) (aG:List ae) (d1:D) (fQ:List ae):Prop:=∃ n,rs.length<=n/\n<=fQ.length/\fQ.take n=aG/\jf n d1=true/\bf d1 d/\El n rs aG
theorem R.ends {sl:aL} {rs fQ aG:List ae} {df:List Nat} (h:R T N ax w0 sp ⟨sl,rs,df⟩ a w E) (qO:∀ t d c,look sl t=some (d,c)->c=[]) (h':R T N ax w0 sp ⟨sl,fQ,df⟩ a w' E') (hk:Kept E E') {d d1:D} (he:Ends rs d aG d1 fQ) {v:Value} (hv:aQ E' (AV ax fQ E') w' d1 v) :
  ∃ sA,Kept E sA/\R T N ax w0 sp ⟨sl,aG,df⟩ a w' sA/\aQ sA (AV ax aG sA) w' d v:=by
 obtain ⟨n,h1,h2,rfl,h4,h5,h6⟩:=he
 have hlE:E.length=rs.length:=h.len
 have hlE':E'.length=fQ.length:=h'.len
 have hcut:=h'.cut h2 (λx hx=>oH (by omega) (aQ.low (h.spec x hx))) (λt d hl=>oH (by omega) (aQ.low ((h.slots t d [] hl).2.1 λp hp=>by cases hp))) qO (λr hr=>by
   obtain ⟨dd,b,sz,q,_⟩:=h.defers.left r hr
   have:=ov q
   omega) (λq x hx=>by
   rcases s8 h6 q x hx with ⟨z,hq,hz⟩|hq
   .have eG:q<E.length:=by grind
    exact hz.low ((aO.low (h.roots q z _ hq (ka eG))).mono (by omega))
   .exact .inl hq)
 have hk2:Kept E (E'.take n):=by
  have hEt:E.take n=E:=List.take_of_length_le (by omega)
  have:=hk.take n
  rwa [hEt] at this
 refine ⟨E'.take n,hk2,hcut,h5 _ _ _ _ (aQ.shrink (Kept.kX E' n) (λb q=>?_) (by grind) hv)⟩
 rcases q with q|⟨r,x,sz,q1,q2,⟨hh,q3⟩⟩
 .exact .inl q
 .rw [me] at q1 q3
  split at q1
  .rename_i eG
   rw [if_pos eG] at q3
   exact .inr ⟨r,x,sz,q1,q2,hh,q3⟩
  .simp at q1
theorem H4 {fn:Func} {c:Code} (hf:P.funcs[f]?=some fn) (hc:fn.body=some c) {ds:List D} (hlen:ds.length<=fn.ntmps) {sl:aL} {rs:List ae} {df:List Nat} (h:R T N ax w0 sp ⟨sl,rs,df⟩ a w E) {vs:List Value} (hv:az (aQ E (AV ax rs E) w) ds vs) :
  ∃ (b:Frame) (tm:Array Value),b.fn=f/\b.roundOf=none/\b.kind=.normal/\Frame.enter P f vs.toArray .normal=b.atR { tmps:=tm,defers:=[] } [.code c]/\R T fn.ntmps ax w0 (nE sl a++sp) ⟨cP 0 ds,rs,[]⟩ { tmps:=tm,defers:=[] } w E:=by
 let b:Frame:={ (default:Frame) with fn:=f,kind:=.normal,roundOf:=none }
 let tm:=vs.toArray++Array.replicate (fn.ntmps-vs.toArray.size) undef
 have hvl:=hv.length
 have henter:Frame.enter P f vs.toArray .normal=b.atR { tmps:=tm,defers:=[] } [.code c]:=by
  simp [Frame.enter,Frame.atR,hf,hc,b,tm]
 have htm:tm.size=fn.ntmps:=by grind
 refine ⟨b,tm,rfl,rfl,rfl,henter,h.Cw (M:=fn.ntmps) (zN:=cP 0 ds) (tm:=tm) htm (λt d' c' hl=>?_)⟩
 obtain ⟨rfl,_,h2⟩:=lg hl
 simp only [Nat.sub_zero] at h2
 have ht:t<ds.length:=(List.getElem?_eq_some_iff.1 h2).1
 obtain ⟨v,h3,h4⟩:=hv.nth (i:=t) (x:=d') (by rw [bg]; exact h2)
 refine ⟨Nat.lt_of_lt_of_le ht hlen,λ_=>?_,λq=>(q λp hp=>by cases hp).elim⟩
 have hg:tm.getD t undef=v:=by
  have htv:t<vs.length:=by rw [<- hvl]; exact ht
  have:vs[t]?=some v:=h3
  simp only [tm]
  rw [Array.getD_eq_getD_getElem?,Array.getElem?_append_left (by simpa using htv)]
  simp [this]
 rw [hg]
 exact h4
theorem vG (bC:cZ P T) {fn:Func} (hf:P.funcs[f]?=some fn) (oo:(fn.name == "runtime.NumGoroutine")=false) {c:Code} (hc:fn.body=some c) {ds:List D} {rs:List ae} {d:D} {aG:List ae} (hlen:ds.length<=fn.ntmps) {Q:D->List ae->Prop} (hQ:∀ {ax:Nat->Prop} {w0:Kp} {sp:List (D×Value)} {a:Act} {w w':World} {E E':Env} {d1:D} {fQ:List ae} {v:Value},Q d1 fQ->(∀ x∈sp,jf rs.length x.1=true)->R T fn.ntmps ax w0 sp ⟨[],rs,[]⟩ a w E->R T fn.ntmps ax w0 sp ⟨[],fQ,[]⟩ a w' E'->Kept E E'->aQ E' (AV ax fQ E') w' d1 v->∃ sA,Kept E sA/\R T fn.ntmps ax w0 sp ⟨[],aG,[]⟩ a w' sA/\aQ sA (AV ax aG sA) w' d v)
  (hg:∀ (b:Frame) (cs:List Frame),b.fn=f->Goal P T fn.ntmps b cs none rs.length (rz T fn.results.toList Q) [.code c] ⟨cP 0 ds,rs,[]⟩):bB T P f ds rs d aG:=by
 refine ⟨⟨fn,hf,oo,by simp [hc]⟩,?_⟩
 intro N ax w0 sp sl df a w E vs h0 hv cs
 obtain ⟨b,tm,FP,hbr,hbk,henter,hR⟩:=H4 (P:=P) (f:=f) hf hc hlen h0 hv
 have dr:∀ x∈nE sl a++sp,jf rs.length x.1=true:=λx hx=>by
  have:=aQ.low (hR.spec x hx)
  rwa [hR.len] at this
 obtain ⟨j,s,a',w1,E',cT,hk,tb,nr,hend,hpost,hsteps⟩:=hg b cs FP _ _ _ _ _ _ (bl _) dr hbr hR jP
 have hEt:E.take rs.length=E:=List.take_of_length_le (Nat.le_of_eq h0.len)
 rw [hEt] at hk
 obtain ⟨hret,hpost⟩:=bI.1 hpost
 obtain ⟨x,hres0,hpost⟩:=cl hpost
 obtain ⟨d1,fQ⟩:=x
 unfold Ot at hres0
 split at hres0
 case h_2=>simp at hres0
 rename_i oU htake
 split at hres0
 case h_2=>simp at hres0
 rename_i d2 yE
 simp only [au,bs] at hres0
 obtain ⟨rfl,rfl⟩:=hres0
 have hback:Steps P (lone (b.atR a' cT) cs w1) (lone { b.atR a' cT with mode:=.returning } cs w1):=by
  cases j with
  | none=>
    have hend:cT=[]:=hend
    subst hend
    exact .one (stepR_end hbr)
  | some c' =>
    rcases hend with ⟨k,rfl,rfl⟩|⟨id,k,rfl,_,_⟩
    .exact .one (stepR_ret hbr)
    .simp [LG] at hret
 have hR'':R T fn.ntmps ax w0 (nE sl a++sp) ⟨s.sl,s.rs,s.df⟩ a' w1 E':=tb
 obtain ⟨w2,hR2,hst2⟩:=qV (P:=P) (cs:=cs) s.df (fr:={ b.atR a' cT with mode:=.returning }) htake hR'' rfl rfl
 obtain ⟨pr,hpr1,hpr2⟩:=Fw (s:=⟨s.sl,oU,[]⟩) nr yE
 obtain ⟨v,hrv,hdv⟩:=kZ bC hR2 hpr1 hpr2
 have hR3:R T fn.ntmps ax w0 (nE sl a++sp) ⟨[],oU,[]⟩ { a' with defers:=[] } w2 E':=⟨hR2.size,hR2.defers,hR2.spec,hR2.below,hR2.len,hR2.outer,hR2.roots,hR2.cJ,hR2.dz,λt d c q=>by simp [look] at q,hR2.fS⟩
 have hR0:R T fn.ntmps ax w0 (nE sl a++sp) ⟨[],rs,[]⟩ { tmps:=a'.tmps,defers:=[] } w E:=⟨hR2.size,.nil,hR.spec,hR.below,hR.len,hR.outer,hR.roots,hR.cJ,hR.dz,λt d c q=>by simp [look] at q,hR.fS⟩
 obtain ⟨sA,hk2,hR4,hd4⟩:=hQ hpost dr hR0 hR3 hk hdv
 refine ⟨.returned v,w2,{ { b.atR a' cT with mode:=.returning } with defers:=[] },⟨v,sA,rfl,hk2,h0.back (s':=⟨[],aG,[]⟩) hR4 hk2.le,hd4⟩,?_,?_,?_,?_,?_,fn,?_,hrv⟩
 .rw [henter]
  exact (hsteps.trans hback).trans hst2
 all_goals first|rfl|exact FP|exact hbk|exact hbr|exact (show P.funcs[b.fn]?=some fn from FP▸hf)
theorem TF (bC:cZ P T) {fn:Func} (hf:P.funcs[f]?=some fn) (oo:(fn.name == "runtime.NumGoroutine")=false) {c:Code} (hc:fn.body=some c) {ds:List D} {rs:List ae} {d:D} {aG:List ae} (hlen:ds.length<=fn.ntmps)
  (hg:∀ (b:Frame) (cs:List Frame),b.fn=f->Goal P T fn.ntmps b cs none rs.length (rz T fn.results.toList (Ends rs d aG)) [.code c] ⟨cP 0 ds,rs,[]⟩):bB T P f ds rs d aG:=
 vG bC hf oo hc hlen (λhq _ h h' hk hv=>h.ends (λt d c q=>by simp [look] at q) h' hk hq hv) hg
theorem yP (bC:cZ P T) {r M:Nat} {g:FuncId} {vf zN:aL} {ps:List Tmp} {as bd:Code} {ds:List D} {rs:List ae} {d:D} {aG:List ae} (hr:rs[r]?=some (.loop g M vf ps as bd .ready none)) (HR:KO M ps ds vf=some zN)
  (hg:∀ (b:Frame) (cs:List Frame),b.fn=g->Goal P T M b cs (some r) rs.length (Qm r (Ends rs d aG)) [.code as,.beginRound,.code bd] ⟨zN,rs,[]⟩):lW T P r ds rs d aG:=by
 constructor
 intro N ax w0 sp sl df a w E vs h hv
 obtain ⟨l,hd,sz,db,tm,h1,h2,h3,h4,h5⟩:=h.loop hr
 have hR:=h.Cw (M:=M) (zN:=vf) (tm:=tm) h3 h4
 obtain ⟨hlen,hR1,Ws⟩:=GJ (tms:=id) HR hR h5 hv
 have hy:=run_yield (P:=P) (args:=vs.toArray) h2 (by simp [hlen])
 refine ⟨l,sz,g,_,as,bd,⟨hd,h1⟩,hy,?_⟩
 have htm:(Array.foldl (λtmps x=>match x with
   | (t,a)=>tmps.setIfInBounds t a) tm (ps.toArray.zip vs.toArray))=(ps.zip vs).foldl (λtmps x=>tmps.setIfInBounds x.1 x.2) tm:=by
  simp
 intro c cs
 simp only at htm ⊢
 rw [htm]
 let b:Frame:={ (default:Frame) with fn:=g,kind:=.normal,roundOf:=some l }
 have hb0:∀ tm,Frame.round l g tm as bd .normal=b.atR { tmps:=tm,defers:=[] } [.code as,.beginRound,.code bd]:=λtm=>by
  rfl
 rw [hb0]
 have dr:∀ x∈nE sl a++sp,jf rs.length x.1=true:=λx hx=>by
  have:=aQ.low (hR.spec x hx)
  rwa [hR.len] at this
 have hEt:E.take rs.length=E:=List.take_of_length_le (Nat.le_of_eq h.len)
 obtain ⟨j,s,a',w1,E',cT,hk,tb,nr,hend,hpost,hsteps⟩:=hg b (c::cs) rfl _ _ _ _ _ _ (bl _) dr (by rw [hEt]; exact ⟨l,sz,rfl,hd,h1⟩) hR1 Ws
 rw [hEt] at hk
 obtain ⟨x,e,hpost⟩:=cl hpost
 obtain ⟨d1,fQ⟩:=x
 unfold AZ at e
 split at e
 case h_2=>simp at e
 rename_i Qt
 split at e
 case h_2=>simp at e
 rename_i g' M' fI TN Tw RZ Dn
 rw [bW] at Dn
 obtain ⟨l',pC,cL,db',tm',q1,q2,q3,q4,q5⟩:=tb.loop Dn
 obtain ⟨K,hE',_⟩:=hk.le r _ h1 (fJ.Jo rfl)
 rw [hE'] at q1
 simp only [fJ.wk,au,bs] at q1
 obtain ⟨rfl,rfl,rfl⟩:=q1
 have fin:∀ (st:LoopState) (fi:Option Code) (bv:Bool),d1=bool bv->fQ=setAt s.rs r (.loop g' M' fI TN Tw RZ st fi)->
   ∃ sA,Kept E sA/\R T N ax w0 sp ⟨sl,aG,df⟩ a (w1.putObj l (.loop { state:=st,pending:=fi,fn:=g',tmps:=tm',params:=TN.toArray,assign:=Tw,body:=RZ,defers:=db' })) sA/\aQ sA (AV ax aG sA) (w1.putObj l (.loop { state:=st,pending:=fi,fn:=g',tmps:=tm',params:=TN.toArray,assign:=Tw,body:=RZ,defers:=db' })) d (.bool bv):=by
  intro st fi bv hd1 as0
  have hT:=tb.rb Dn hE' q2 q3 q4 q5 st fi
  rw [<- as0] at hT
  have hsd:s.df=[]:=Qt
  have hR3:R T M ax w0 (nE sl a++sp) ⟨[],fQ,[]⟩ { a' with defers:=[] } (w1.putObj l (.loop { state:=st,pending:=fi,fn:=g',tmps:=tm',params:=TN.toArray,assign:=Tw,body:=RZ,defers:=db' })) E':=⟨hT.size,.nil,hT.spec,hT.below,hT.len,hT.outer,hT.roots,hT.cJ,hT.dz,λt d c q=>by simp [look] at q,hT.fS⟩
  have hR0:R T M ax w0 (nE sl a++sp) ⟨[],rs,[]⟩ { tmps:=a'.tmps,defers:=[] } w E:=⟨hT.size,.nil,hR1.spec,hR1.below,hR1.len,hR1.outer,hR1.roots,hR1.cJ,hR1.dz,λt d c q=>by simp [look] at q,hR1.fS⟩
  obtain ⟨sA,hk2,hR4,hd4⟩:=hR0.ends (λt d c q=>by simp [look] at q) hR3 hk hpost (v:=.bool bv) (by rw [hd1]; exact ⟨rfl,rfl⟩)
  exact ⟨sA,hk2,h.back (s':=⟨[],aG,[]⟩) hR4 hk2.le,hd4⟩
 cases j with
 | none=>
   simp only [au,bs] at e
   have hend:cT=[]:=hend
   subst hend
   exact ⟨.bool true,_,fin .ready none true e.1.symm e.2.symm,hsteps.trans (.one (stepR_round_end rfl rfl (run_endRound none q2)))⟩
 | some c' =>
   simp only [au,bs] at e
   refine ⟨.bool false,_,fin .done (some c') false e.1.symm e.2.symm,hsteps.trans (.one ?_)⟩
   rcases hend with ⟨k,rfl,rfl⟩|⟨id,k,rfl,rfl,hx⟩
   .exact stepR_round_ret rfl rfl (run_endRound (some .ret) q2)
   .exact stepR_round_exit rfl rfl hx (run_endRound (some (.exit id)) q2)
end
end Go.V
