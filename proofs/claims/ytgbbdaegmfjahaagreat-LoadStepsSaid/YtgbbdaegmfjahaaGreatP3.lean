/- The roots that a call has made are forgotten; what it has written stays. -/
import Derived.Test.YtgbbdaegmfjahaaGreatP2
import Derived.OrdersIn
import Derived.RangeFuncNested
import Derived.RangeFuncLeaves
set_option linter.unusedSimpArgs false
set_option linter.unusedVariables false
namespace Go.V
open Go.RowKit
section
variable {P:Program} {T:ec} {N:Nat} {aA:Nat->Prop} {w0:Kp} {sp:List (D×Value)} {a:Act} {w:World} {E E':Env} {av dx Kc:Nat->Prop} {w':World}
theorem au2 {x y:Value} (h:eqV x y=true):x=y:=by
 unfold eqV at h
 grind [Nz]
theorem Ze {x y:C} (h:VG x y=true):x=y:=by
 unfold VG at h
 grind [au2,cE]
theorem N2:∀ {l m:List C},as9 l m=true->l=m
 | [],[],_=>rfl
 | [],y::m,h=>by
   have h:(false:Bool)=true:=h
   simp at h
 | x::l,[],h=>by
   have h:(false:Bool)=true:=h
   simp at h
 | x::l,y::m,h=>by
   have h:(Bool.rec false (as9 l m) (VG x y):Bool)=true:=h
   cases hb:VG x y with
   | false=>rw [hb] at h; simp at h
   | true=>rw [hb] at h; rw [Ze hb,N2 h]
theorem af4 {x y:ah} (h:T2 x y=true):x=y:=by
 unfold T2 at h
 split at h
 .rfl
 .rw [N2 h]
 .simp at h
theorem Kept.take {E E':Env} (h:Kept E E') (n:Nat):Kept (E.take n) (E'.take n):=by
 refine ⟨λr e hr qG=>?_,λq hq=>?_⟩
 .rw [nH] at hr ⊢
  split at hr
  .rename_i eW
   rw [if_pos eW]
   exact h.le r e hr qG
  .simp at hr
 .rw [nH] at hq ⊢
  split at hq
  .rename_i eW
   rw [if_pos eW]
   exact h.free q hq
  .simp at hq
theorem Kept.len {E E':Env} (h:Kept E E'):E.length<=E'.length:=by
 by_cases eW:E.length<=E'.length
 .exact eW
 .exfalso
  have hr:E'.length<E.length:=by omega
  have h1:=ib hr
  have h0:E'[E'.length]?=none:=List.getElem?_eq_none (bF _)
  by_cases h2:E[E'.length]=hole
  .rw [h2] at h1
   have:=h.free _ h1
   grind
  .obtain ⟨_,this,_⟩:=h.le _ _ h1 h2
   grind
theorem Kept.mv (E:Env) (n:Nat):Kept (E.take n) E:=⟨λr e hr hn=>⟨e.2.1.2,by
 rw [nH] at hr
 split at hr
 .exact hr
 .simp at hr,hn⟩,λq hq=>by
 grind⟩
theorem PJ {E:Env} {n r b sz:Nat}:dt (E.take n) r b sz->dt E r b sz:=λ⟨hh,q,q2⟩=>⟨hh,by
 grind,q2⟩
theorem Kept.back (hk:Kept E E') {r:Nat} (hr:r<E.length) {e:fG} (h:E'[r]?=some e) (he:e≠hole):∃ K,E[r]?=some (e.wk K):=by
 have h1:=ib hr
 by_cases h2:E[r]=hole
 .rw [h2] at h1
  have:=hk.free r h1
  grind
 .obtain ⟨K,this,_⟩:=hk.le r _ h1 h2
  rw [h] at this
  simp only [aw] at this
  exact ⟨E[r].2.1.2,by rw [h1,this]; rfl⟩
theorem Kept.bB (hk:Kept E E') {r b sz:Nat} (hr:r<E.length) (h:bB E' r b sz):bB E r b sz:=by
 obtain ⟨hd,h⟩:=h
 obtain ⟨K,h⟩:=hk.back hr h (fG.M7 rfl)
 exact ⟨(hd.1,K),h⟩
theorem sX {n:Nat}:∀ {l:List Nat},zc n l=true->∀ r∈l,r<n
 | [],_,r,hr=>by simp at hr
 | x::l,h,r,hr=>by
   have h:(Bool.rec false (zc n l) (Nat.blt x n):Bool)=true:=h
   cases hb:Nat.blt x n with
   | false=>rw [hb] at h; simp at h
   | true=>
     rw [hb] at h
     rcases List.mem_cons.1 hr with rfl|hr
     .exact bc hb
     .exact sX h r hr
theorem aF.shrink {α β:Type} {R S:α->β->Prop} {l:List α} {m:List β} (h:aF R l m) (k:∀ x∈l,∀ y,R x y->S x y):aF S l m:=by
 induction h with
 | nil=>exact .nil
 | cons q _ ih=>exact .cons (k _ (kz ..) _ q) (ih λx hx=>k x (gJ _ hx))
theorem bp.shrink (hk:Kept E E') (ha:∀ b,Kc b->dx b) {x:C} {v:Value} (hx:xH E.length x=true) (h:bp E' dx w' x v):bp E Kc w' x v:=by
 cases x with
 | im x=>exact dw.mono (bl.refl _ w') (λb _ q=>ha b q) h
 | rt r i j=>obtain ⟨b,sz,h1,h2⟩:=h; exact ⟨b,sz,hk.bB (bc hx) h1,h2⟩
 | sa r m=>
   obtain ⟨e,a,n,cap,h1,h2,h3⟩:=h
   obtain ⟨K,h1⟩:=hk.back (bc hx) h1 (fG.NY h2)
   exact ⟨_,a,n,cap,h1,h2,h3⟩
 | mp r=>obtain ⟨b,sz,h1,h2⟩:=h; exact ⟨b,sz,hk.bB (bc hx) h1,h2⟩
 | yl r=>obtain ⟨b,sz,h1,h2⟩:=h; exact ⟨b,sz,hk.bB (bc hx) h1,h2⟩
 | ow r j=>
   obtain ⟨e,vs,h1,h2,h3,h4⟩:=h
   obtain ⟨K,h1⟩:=hk.back (bc hx) h1 (fG.WJ h2 h3)
   exact ⟨_,vs,h1,h2,h3,h4⟩
 | fL f l=>
   obtain ⟨vs,h1,h2⟩:=h
   exact ⟨vs,h1,h2.shrink λr hr y ⟨b,sz,q,q2⟩=>⟨b,sz,hk.bB (sX hx r hr) q,q2⟩⟩
theorem jb {n:Nat}:∀ {l:List C},jm n l=true->∀ x∈l,xH n x=true
 | [],_,x,hx=>by simp at hx
 | y::l,h,x,hx=>by
   have h:(Bool.rec false (jm n l) (xH n y):Bool)=true:=h
   cases hb:xH n y with
   | false=>rw [hb] at h; simp at h
   | true=>
     rw [hb] at h
     rcases List.mem_cons.1 hx with rfl|hx
     .exact hb
     .exact jb h x hx
theorem uu {n:Nat}:∀ {l:List C},(∀ x∈l,xH n x=true)->jm n l=true
 | [],_=>rfl
 | y::l,h=>by
   show (Bool.rec false (jm n l) (xH n y):Bool)=true
   rw [h y (kz ..)]
   exact uu λx hx=>h x (gJ _ hx)
theorem CZ {n:Nat}:∀ {l:List (Bool×List C)},DM n l=true->∀ x∈l,jm n x.2=true
 | [],_,x,hx=>by simp at hx
 | y::l,h,x,hx=>by
   have h:(Bool.rec false (DM n l) (jm n y.2):Bool)=true:=h
   cases hb:jm n y.2 with
   | false=>rw [hb] at h; simp at h
   | true=>
     rw [hb] at h
     rcases List.mem_cons.1 hx with rfl|hx
     .exact hb
     .exact CZ h x hx
theorem bj.shrink (hk:Kept E E') (ha:∀ b,Kc b->dx b) {d:D} {v:Value} (hd:kf E.length d=true) (h:bj E' dx w' d v):bj E Kc w' d v:=by
 cases d with
 | c x=>exact bp.shrink hk ha hd h
 | a l=>obtain ⟨cs,h1,h2⟩:=h; exact ⟨cs,h1,h2.shrink λx hx y q=>bp.shrink hk ha (jb hd x hx) q⟩
 | t l=>
   obtain ⟨vs,h1,h2⟩:=h
   refine ⟨vs,h1,h2.shrink ?_⟩
   rintro ⟨b,l'⟩ hx y q
   have eb:=CZ hd _ hx
   cases b with
   | true=>obtain ⟨cs,q1,q2⟩:=q; exact ⟨cs,q1,q2.shrink λx hx y q=>bp.shrink hk ha (jb eb x hx) q⟩
   | false=>
     grind [bp.shrink,jb]
theorem rb {r b sz:Nat} (h:bB E r b sz):r<E.length:=by obtain ⟨hd,h⟩:=h; grind
theorem mg {a b:Nat} (h:a<b):Nat.blt a b=true:=by simp_all
theorem Bk {n:Nat}:∀ {l:List Nat},(∀ r∈l,r<n)->zc n l=true
 | [],_=>rfl
 | x::l,h=>by
   show (Bool.rec false (zc n l) (Nat.blt x n):Bool)=true
   rw [mg (h x (kz ..))]
   exact Bk λr hr=>h r (gJ _ hr)
theorem aF.left {α β:Type} {R:α->β->Prop} {l:List α} {m:List β} (h:aF R l m):∀ x∈l,∃ y,R x y:=by
 induction h with
 | nil=>intro x hx; simp at hx
 | cons q _ ih=>
   grind
theorem bp.low {x:C} {v:Value} (h:bp E av w x v):xH E.length x=true:=by
 cases x with
 | im x=>rfl
 | rt r i j=>obtain ⟨b,sz,h1,_⟩:=h; exact mg (rb h1)
 | sa r m=>obtain ⟨e,a,n,cap,h1,_⟩:=h; exact mg (List.getElem?_eq_some_iff.1 h1).1
 | mp r=>obtain ⟨b,sz,h1,_⟩:=h; exact mg (rb h1)
 | yl r=>obtain ⟨b,sz,h1,_⟩:=h; exact mg (rb h1)
 | ow r j=>obtain ⟨e,vs,h1,_⟩:=h; exact mg (List.getElem?_eq_some_iff.1 h1).1
 | fL f l=>
   obtain ⟨vs,_,h2⟩:=h
   exact Bk λr hr=>by
    obtain ⟨_,b,sz,h1,_⟩:=h2.left r hr
    exact rb h1
theorem L.low {l:List C} {cs:List Value} (h:aF (bp E av w) l cs):jm E.length l=true:=uu λx hx=>by
 obtain ⟨y,q⟩:=h.left x hx
 exact bp.low q
theorem bj.low {d:D} {v:Value} (h:bj E av w d v):kf E.length d=true:=by
 cases d with
 | c x=>exact bp.low h
 | a l=>obtain ⟨cs,_,h2⟩:=h; exact L.low h2
 | t l=>
   obtain ⟨vs,_,h2⟩:=h
   show DM E.length l=true
   have key:∀ x∈l,jm E.length x.2=true:=λx hx=>by
    obtain ⟨y,q⟩:=h2.left x hx
    grind [L.low,uu,bp.low]
   clear h2
   induction l with
   | nil=>rfl
   | cons y l ih=>
     show (Bool.rec false (DM E.length l) (jm E.length y.2):Bool)=true
     simp_all
theorem tJ {n:Nat}:∀ {rs aV:List ah} {k:Nat} {ws:List (Nat×ah)},zl n rs aV k=some ws->
  (∀ p∈ws,k<=p.1)/\∀ (pre:List ah),pre.length=k->∀ (q:Nat) (x:ah),(writes ws (pre++rs))[q]?=some x->(q<k/\pre[q]?=some x)∨(k<=q/\aV[q-k]?=some x/\(rs[q-k]?=some x∨iE n x=true))
 | [],aV,k,ws,h=>by
   have h:some []=some ws:=h
   simp only [aw] at h
   subst h
   refine ⟨λp hp=>by simp at hp,λpre IL q x hx=>?_⟩
   have hx:(pre++[])[q]?=some x:=hx
   grind
 | x0::rs,[],k,ws,h=>by
   have h:(none:Option (List (Nat×ah)))=some ws:=h
   simp at h
 | x0::rs,y::aV,k,ws,h=>by
   have h:(Bool.rec (Bool.rec none (match zl n rs aV (k+1) with
    | some ws=>some ((k,y)::ws)
    | none=>none) (iE n y)) (zl n rs aV (k+1)) (T2 x0 y):Option (List (Nat×ah)))=some ws:=h
   cases hb:T2 x0 y with
   | true=>
     rw [hb] at h
     obtain ⟨h1,h2⟩:=tJ (rs:=rs) (aV:=aV) (k:=k+1) h
     refine ⟨λp hp=>by have:=h1 p hp; omega,λpre IL q x hx=>?_⟩
     have e:pre++x0::rs=(pre++[x0])++rs:=by simp
     rw [e] at hx
     rcases h2 (pre++[x0]) (by simp [IL]) q x hx with ⟨h3,h4⟩|⟨h3,h4,h5⟩
     .by_cases hq:q<k
      .grind
      .have:q=k:=by omega
       subst this
       grind [af4]
     grind
   | false=>
     rw [hb] at h
     obtain ⟨eb,h⟩:=Bool.ay (show (Bool.rec none (match zl n rs aV (k+1) with
      | some ws=>some ((k,y)::ws)
      | none=>none) (iE n y):Option (List (Nat×ah)))=some ws from h)
     split at h
     case h_2=>simp at h
     rename_i ws' hws
     simp only [aw] at h
     subst h
     obtain ⟨h1,h2⟩:=tJ (rs:=rs) (aV:=aV) (k:=k+1) hws
     refine ⟨λp hp=>by
      grind,λpre IL q x hx=>?_⟩
     have hx:(writes ws' (setAt (pre++x0::rs) k y))[q]?=some x:=hx
     have e:setAt (pre++x0::rs) k y=(pre++[y])++rs:=by
      rw [bg,List.set_append]
      simp [IL]
     rw [e] at hx
     rcases h2 (pre++[y]) (by simp [IL]) q x hx with ⟨h3,h4⟩|⟨h3,h4,h5⟩
     .by_cases hq:q<k
      .grind
      .have:q=k:=by omega
       simp_all
     grind
theorem HA:QX λrs aV=>zl rs.length rs aV 0:=λrs aV ws h q x hx=>by
 rcases (tJ h).2 [] rfl q x hx with ⟨h1,_⟩|⟨_,h2,h3⟩
 all_goals grind
theorem iF:∀ (ws:List (Nat×ah)) (rs:List ah),(writes ws rs).length=rs.length
 | [],rs=>rfl
 | p::ws,rs=>by
   show (writes ws (setAt rs p.1 p.2)).length=_
   rw [iF ws,bg]; simp
theorem jl:∀ {sl:a8} {t:Tmp} {x:D×fj},look sl t=some x->(t,x)∈sl
 | [],t,x,h=>by simp [look] at h
 | (k,d,c)::sl,t,x,h=>by
   simp only [look] at h
   split at h
   .simp_all
   .exact gJ _ (jl h)
theorem tB {n:Nat}:∀ {l:List Fc},w9 n l=true->∀ x∈l,Av n x=true
 | [],_,x,hx=>by simp at hx
 | y::l,h,x,hx=>by
   have h:(Bool.rec false (w9 n l) (Av n y):Bool)=true:=h
   cases hb:Av n y with
   | false=>rw [hb] at h; simp at h
   | true=>
     rw [hb] at h
     rcases List.mem_cons.1 hx with rfl|hx
     .exact hb
     .exact tB h x hx
theorem IV {n el sz k i j:Nat} {get:Nat->Nat->O} {eI:Option (Nat×List Fc)} {c:Fc} (h:iE n (.bo el sz k get eI)=true) (hc:gy get eI i j=some c):Av n c=true:=by
 unfold gy at hc
 split at hc
 .simp only [aw] at hc; subst hc; rfl
 .rename_i x
  split at hc
  .rw [bz] at hc
   exact tB (show w9 n x.2=true from h) c (List.mem_of_getElem? hc)
  .simp only [aw] at hc; subst hc; rfl
theorem jq.shrink {base:Nat} (hk:Kept E E') (ha:∀ b,Kc b->dx b) {x:Fc} {K:Nat->Prop} {v:Value} (hx:Av E.length x=true) (h:jq E' dx base w' x K v):jq E Kc base w' x K v:=by
 cases x with
 | c x=>exact bp.shrink hk ha hx h
 | o x=>exact fx.mono (bl.refl _ w') (λb _ q=>ha b q) (λ_ _=>rfl) h
theorem jq.low {av:Nat->Prop} {base:Nat} {x:Fc} {K:Nat->Prop} {v:Value} (h:jq E av base w x K v):Av E.length x=true:=by
 cases x with
 | c x=>exact bp.low h
 | o x=>rfl
theorem R.trim {sl:a8} {rs aV:List ah} {df:List Nat} (h:R T N aA w0 sp ⟨sl,rs,df⟩ a w E) (h':R T N aA w0 sp ⟨sl,aV,df⟩ a w' E') (hk0:Kept E E') {ws:List (Nat×ah)} (hw:∀ (q:Nat) (x:ah),(writes ws rs)[q]?=some x->aV[q]?=some x/\(rs[q]?=some x∨iE rs.length x=true))
  {d:D} (hd:kf rs.length d=true) {v:Value} (hv:bj E' (AV aA aV E') w' d v):∃ E1,Kept E E1/\E1.length=E.length/\R T N aA w0 sp ⟨sl,writes ws rs,df⟩ a w' E1/\bj E1 (AV aA (writes ws rs) E1) w' d v:=by
 have hlen0:E.length=rs.length:=h.len
 have hkE:Kept E (E'.take E.length):=by
  have:=hk0.take E.length
  grind
 have hlen:(E'.take E.length).length=rs.length:=by rw [List.length_take,Nat.min_eq_left hk0.len,hlen0]
 have hk:Kept (E'.take E.length) E':=Kept.mv E' E.length
 refine ⟨E'.take E.length,hkE,by rw [hlen,hlen0],?_⟩
 generalize hE1:E'.take E.length=E1 at hkE hlen hk ⊢
 have eP:∀ {r b sz:Nat},dt E1 r b sz->dt E' r b sz:=λq=>PJ (by rw [hE1]; exact q)
 have N9:∀ {q:Nat} {e:fG},E1[q]?=some e->E'[q]?=some e:=λ{q e} h1=>by
  grind
 have key:∀ (q:Nat) (x:ah),(writes ws rs)[q]?=some x->aV[q]?=some x/\(rs[q]?=some x∨iE E1.length x=true):=by
  grind
 have fa:∀ b,AV aA (writes ws rs) E1 b->AV aA aV E' b:=by
  rintro b (q|⟨r,x,sz,h1,h2,h3⟩)
  .exact .inl q
  .exact .inr ⟨r,x,sz,(key r x h1).1,h2,eP h3⟩
 have lowd:∀ {d:D} {v:Value},bj E (AV aA rs E) w d v->kf E1.length d=true:=λq=>by rw [hlen,<- hlen0]; exact bj.low q
 refine ⟨⟨h.size,h.defers.mono λ_ _ ⟨b,sz,q,e⟩=>⟨b,sz,hkE.le.at_ q,e⟩,λx hx=>bj.shrink hk fa (lowd (h.spec x hx)) (h'.spec x hx),h'.below,by grind [iF],h.outer,?_,?_,?_,?_,h'.gP.mono (bl.refl _ w') (λb _ q=>fa b q)⟩,bj.shrink hk fa (by rw [hlen]; exact hd) hv⟩
 .intro q x e hx hE
  obtain ⟨k1,k2⟩:=key q x hx
  have hpost:=h'.roots q x e k1 (N9 hE)
  have low:∀ {l:List C} {cs:List Value},(jm E1.length l=true)->aF (bp E' (AV aA aV E') w') l cs->aF (bp E1 (AV aA (writes ws rs) E1) w') l cs:=λhl hc=>hc.shrink λx hx y q=>bp.shrink hk fa (jb hl x hx) q
  have hq0:q<E.length:=by grind
  have h0:=ib hq0
  cases x with
  | dead=>trivial
  | box l=>
    obtain ⟨b,cs,Tc,p1,p2,p3,p4⟩:=hpost
    refine ⟨b,cs,Tc,p1,p2,p3,low ?_ p4⟩
    rcases k2 with k2|k2
    .obtain ⟨_,_,_,_,_,_,p5⟩:=h.roots q _ _ k2 h0
     rw [hlen,<- hlen0]
     exact L.low p5
    .exact k2
  | row el sz n l=>
    obtain ⟨p1,p2,xs,p3,p4⟩:=hpost
    refine ⟨p1,p2,xs,p3,low ?_ p4⟩
    rcases k2 with k2|k2
    .obtain ⟨_,_,_,_,p5⟩:=h.roots q _ _ k2 h0
     rw [hlen,<- hlen0]
     exact L.low p5
    .exact k2
  | arr el sz n get=>
    obtain ⟨p1,p2,xs,p3,p4⟩:=hpost
    refine ⟨p1,p2,xs,p3,λi hi j hj=>?_⟩
    obtain ⟨x,p5,p6⟩:=p4 i hi j hj
    exact ⟨x,p5,dw.mono (bl.refl _ w') (λb _ q=>fa b q) p6⟩
  | bo el sz n get eI=>
    obtain ⟨p1,p2,xs,p3,Ks,p4,pf,p5⟩:=hpost
    refine ⟨p1,p2,xs,p3,Ks,p4,pf,λi hi j hj=>?_⟩
    obtain ⟨x,c,p6,p7,p8⟩:=p5 i hi j hj
    refine ⟨x,c,p6,p7,jq.shrink hk fa ?_ p8⟩
    rcases k2 with k2|k2
    .obtain ⟨_,_,_,_,_,_,_,r5⟩:=h.roots q _ _ k2 h0
     grind [jq.low]
    .exact IV k2 p7
  | own l=>
    obtain ⟨p1,p2,vs,p3,p4,Ks,p5,p6,p7⟩:=hpost
    refine ⟨p1,p2,vs,p3,p4,Ks,p5,p6,λi o ho=>?_⟩
    obtain ⟨v,g1,g2⟩:=p7 i o ho
    exact ⟨v,g1,fx.mono (bl.refl _ w') (λb _ q=>fa b q) (λ_ _=>rfl) g2⟩
  | set l=>exact hpost
  | mi=>exact hpost
  | loop f M gB ps as bd st fP=>
    obtain ⟨b,db,tm,p1,p2,p3,p4,p5⟩:=hpost
    rcases k2 with k2|k2
    .obtain ⟨b',db',tm',r1,r2,r3,r4,r5⟩:=h.roots q _ _ k2 h0
     refine ⟨b,db,tm,p1,p2,p3,λt d c hl=>?_,p5⟩
     have hcn:c=[]:=p5 _ (jl hl)
     subst hcn
     obtain ⟨s1,s2,s3⟩:=p4 t d [] hl
     obtain ⟨s4,s5,s6⟩:=r4 t d [] hl
     grind [bj.shrink]
    .simp [iE] at k2
 .intro q x b sz hx hlv jQ
  exact h'.dp q x b sz (key q x hx).1 hlv (eP jQ)
 .intro q q' x x' b sz dE hx hx' hl xX jQ bx7
  exact h'.dT q q' x x' b sz dE (key q x hx).1 (key q' x' hx').1 hl xX (eP jQ) (eP bx7)
 .intro t d c hl
  obtain ⟨s1,s2,s3⟩:=h'.slots t d c hl
  obtain ⟨s4,s5,s6⟩:=h.slots t d c hl
  grind [bj.shrink]
end
open Go.RowKit
section
variable {P:Program} {T:ec} {lo:Lo} {hi:Hint} {N:Nat} {aA:Nat->Prop} {w0:Kp} {sp:List (D×Value)} {s:VS} {a:Act} {w:World} {E:Env} {ρ:Option Nat}
theorem KY (l:List Nat) (s:VS):YR l s=⟨s.sl,Bn l s.rs,s.df⟩:=by cases l<;>rfl
theorem CL:∀ (l:List Nat) (rs:List ah) {q:Nat} {x:ah},bh (Bn l rs) q=some x->x.live->q ∉ l/\bh rs q=some x
 | [],rs,q,x,h,_=>⟨by simp,h⟩
 | k::l,rs,q,x,h,hx=>by
   obtain ⟨h1,h2⟩:=CL l (setAt rs k .dead) h hx
   rw [cj,bg,jv] at h2
   split at h2
   .split at h2
    .simp only [aw] at h2; subst h2; exact hx.elim
    .simp at h2
   grind [cj]
theorem l3.ao2 (u:l3) (s:VS):(u.on s).df=s.df:=by
 unfold l3.on BW
 grind
theorem l3.SD (u:l3) {s:VS} (h:bT s.sl):bT (u.on s).sl:=by
 unfold l3.on BW
 cases u.dst with
 | none=>exact h
 | some t=>cases u.val with
   | none=>exact h
   | some d=>exact h.cons _ _
theorem yo {us:Nat->l3} {s0:VS} {L:Nat->Bool}:∀ n,(eC us s0 L n).df=s0.df
 | 0=>rfl
 | n+1=>by
   simp only [eC]
   split
   .rw [l3.ao2,yo n]
   .exact yo n
theorem rn {us:Nat->l3} {s0:VS} {L:Nat->Bool} (h:bT s0.sl):∀ n,bT (eC us s0 L n).sl
 | 0=>h
 | n+1=>by
   simp only [eC]
   split
   .exact l3.SD _ (rn h n)
   .exact rn h n
theorem tw {us:Nat->l3} {s0:VS} {L L':Nat->Bool}:∀ {n:Nat},(∀ k,k<n->L k=L' k)->eC us s0 L n=eC us s0 L' n
 | 0,_=>rfl
 | n+1,h=>by
   simp only [eC]
   rw [h n (by omega),tw (n:=n) λk hk=>h k (by omega)]
theorem sM {u:l3} {us:Nat->l3} {s:VS}:∀ k,eC (λ|0=>u|k+1=>us k) s (λ_=>true) (k+1)=eC us (u.on s) (λ_=>true) k
 | 0=>rfl
 | k+1=>by
   rw [eC,sM k]
   rfl
structure RM (T:ec) (lo:Lo) (hi:Hint) (N:Nat) (ops:List Oper) (cJ:List Nat) (W:List (Nat×List Nat)) (i b:Nat) (s:VS) (o:Oper) (m:Nat) (u:l3):Prop where
 ev:lP T lo hi cJ i b ops (YR (eK cJ i m W) s) o=some (.ok u)
 ok:GA N u.dst u.val=true
 sub:El (u.ws.map (·.1)) (py i W)=true
 apart:oB (u.ws.map (·.1)) (eK cJ i m W)=true
 ex:Xc u.ex (eK cJ i m W)=true
theorem tU {ops:List Oper} {cJ:List Nat} {W:List (Nat×List Nat)}:∀ {l:List Oper} {ms:List Nat} {i b:Nat} {s sF:VS},lj T lo hi N ops cJ W l ms i b s=some sF->
  ∃ us:Nat->l3,sF=eC us s (λ_=>true) l.length/\∀ k o,l[k]?=some o->∃ m,ms[k]?=some m/\RM T lo hi N ops cJ W (i+k) (b+eH (l.take k)) (eC us s (λ_=>true) k) o m (us k)
 | [],ms,i,b,s,sF,h=>by
   have h:some s=some sF:=h
   simp only [aw] at h
   exact ⟨λ_=>⟨none,none,[],none,false⟩,h.symm,λk o hk=>by simp at hk⟩
 | o::l,[],i,b,s,sF,h=>by
   have h:(none:Option VS)=some sF:=h
   simp at h
 | o::l,m::ms,i,b,s,sF,h=>by
   have h:(match lP T lo hi cJ i b ops (YR (eK cJ i m W) s) o with
    | some (.ok u)=>(Bool.rec none (lj T lo hi N ops cJ W l ms (i+1) (b+eL o.op) (u.on s)) (GA N u.dst u.val&&(El (u.ws.map (·.1)) (py i W)&&(oB (u.ws.map (·.1)) (eK cJ i m W)&&Xc u.ex (eK cJ i m W)))):Option VS)
    | _=>none)=some sF:=h
   split at h
   case h_2=>simp at h
   rename_i u hu
   obtain ⟨h1,h2⟩:=Bool.ay h
   simp only [fC] at h1
   obtain ⟨us,h3,h4⟩:=tU h2
   refine ⟨λ|0=>u|k+1=>us k,?_,λk o' hk=>?_⟩
   .rw [List.length_cons,sM]; exact h3
   .cases k with
    | zero=>
      simp at hk
      subst hk
      exact ⟨m,rfl,hu,h1.1,h1.2.1,h1.2.2.1,h1.2.2.2⟩
    | succ k=>
      obtain ⟨m',h5,h6⟩:=h4 k o' (by simpa using hk)
      refine ⟨m',by simpa using h5,?_⟩
      rw [sM]
      have e1:i+(k+1)=i+1+k:=by omega
      have e2:b+eH (List.take (k+1) (o::l))=b+eL o.op+eH (l.take k):=by
       show b+(eL o.op+eH (l.take k))=_
       omega
      grind
theorem sy {ops:List Oper} {cJ:List Nat}:∀ {l:List Oper} {k b:Nat} {W:List (Nat×List Nat)} {s s':VS},ng T lo hi N cJ ops l k b W s=some (.ok [] s')->
  W=[]/\∀ ms:List Nat,ms.length=l.length->lj T lo hi N ops cJ [] l ms k b s=some s'
 | [],k,b,W,s,s',h=>by
   have h:some (If.ok W s)=some (.ok [] s'):=h
   simp only [aw,If.ok.injEq] at h
   obtain ⟨rfl,rfl⟩:=h
   exact ⟨rfl,λms _=>rfl⟩
 | o::l,k,b,W,s,s',h=>by
   have h:(match lP T lo hi cJ k b ops s o with
    | some (.ok u)=>(Bool.rec none (ng T lo hi N cJ ops l (k+1) (b+eL o.op) (I2 k u W) (u.on s)) (GA N u.dst u.val):Option If)
    | some (.cU c)=>some (.cU c)
    | none=>none)=some (.ok [] s'):=h
   split at h
   .rename_i u hu
    obtain ⟨h1,h2⟩:=Bool.ay h
    obtain ⟨h3,h4⟩:=sy h2
    have h5:u.ws=[]/\W=[]:=by
     unfold I2 at h3
     split at h3
     all_goals simp_all
    refine ⟨h5.2,λms hms=>?_⟩
    cases ms with
    | nil=>simp at hms
    | cons m ms=>
      show (match lP T lo hi cJ k b ops s o with
       | some (.ok u)=>(Bool.rec none (lj T lo hi N ops cJ [] l ms (k+1) (b+eL o.op) (u.on s)) (GA N u.dst u.val&&(El (u.ws.map (·.1)) (py k [])&&(oB (u.ws.map (·.1)) (eK cJ k m [])&&Xc u.ex (eK cJ k m [])))):Option VS)
       | _=>none)=some s'
      have hex:Xc u.ex (eK cJ k m [])=true:=by
       show Xc u.ex []=true
       cases u.ex<;>rfl
      rw [hu]
      simp only [h1,h5.1,hex]
      exact h4 ms (by simpa using hms)
   all_goals grind
theorem xb {ops:List Oper} {cJ:List Nat}:∀ {l:List Oper} {k b:Nat} {W W':List (Nat×List Nat)} {s s':VS},ng T lo hi N cJ ops l k b W s=some (.ok W' s')->(∀ x∈W,x.1<k)->∀ x∈W',x.1<k+l.length
 | [],k,b,W,W',s,s',h,hk=>by
   have h:some (If.ok W s)=some (.ok W' s'):=h
   grind
 | o::l,k,b,W,W',s,s',h,hk=>by
   have h:(match lP T lo hi cJ k b ops s o with
    | some (.ok u)=>(Bool.rec none (ng T lo hi N cJ ops l (k+1) (b+eL o.op) (I2 k u W) (u.on s)) (GA N u.dst u.val):Option If)
    | some (.cU c)=>some (.cU c)
    | none=>none)=some (.ok W' s'):=h
   split at h
   .rename_i u hu
    obtain ⟨h1,h2⟩:=Bool.ay h
    intro x hx
    have:=xb h2 (λx hx=>by
     grind [I2]) x hx
    grind
   all_goals grind
theorem lu {n:Nat}:∀ {l:List Nat},qj n l=true↔n∈l
 | []=>by simp [qj]
 | x::l=>by
   have:qj n (x::l)=(Bool.rec (qj n l) true (Nat.beq x n):Bool):=rfl
   rw [this]
   cases hb:Nat.beq x n with
   | true=>simp [cE hb]
   | false=>
     have:x≠n:=λe=>by simp_all
     simp only [List.mem_cons]
     rw [lu]
     grind
theorem xc {m:List Nat}:∀ {l:List Nat},oB l m=true->∀ q∈l,q ∉ m
 | [],_,q,hq=>by simp at hq
 | x::l,h,q,hq=>by
   have h:(Bool.rec (oB l m) false (qj x m):Bool)=true:=h
   cases hb:qj x m with
   | true=>rw [hb] at h; simp at h
   | false=>
     rw [hb] at h
     rcases List.mem_cons.1 hq with rfl|hq
     .intro hm; rw [lu.2 hm] at hb; simp at hb
     .exact xc h q hq
theorem C7 {m:List Nat}:∀ {l:List Nat},El l m=true->∀ q∈l,q∈m
 | [],_,q,hq=>by simp at hq
 | x::l,h,q,hq=>by
   obtain ⟨h1,h2⟩:=Bool.gU (show (Bool.rec false (El l m) (qj x m):Bool)=true from h)
   rcases List.mem_cons.1 hq with rfl|hq
   .exact lu.1 h1
   .exact C7 h2 q hq
theorem oc {α:Type} {k:Nat} {x:α}:∀ {l:List (Nat×α)},findF k l=some x->(k,x)∈l
 | [],h=>by simp [findF] at h
 | y::l,h=>by
   have h:(Bool.rec (findF k l) (some y.2) (Nat.beq y.1 k):Option α)=some x:=h
   cases hb:Nat.beq y.1 k with
   | true=>
     rw [hb] at h
     grind [cE]
   | false=>rw [hb] at h; exact gJ _ (oc h)
theorem Lg {k q:Nat} {W:List (Nat×List Nat)} (h:q∈py k W):∃ l,(k,l)∈W/\q∈l:=by
 grind [py,oc]
def CQ (A:List Nat) (i m j:Nat):Prop:=j≠i/\m.testBit j=false/\∀ x,A[j]?=some x->x.testBit i=false
theorem zU {A:List Nat} {i m:Nat} {x:Nat×List Nat} {W:List (Nat×List Nat)}:eK A i m (x::W)=(Bool.rec (x.2++eK A i m W) (eK A i m W) (Nat.beq x.1 i||(Nat.testBit m x.1||(match bh A x.1 with
  | some x=>Nat.testBit x i
  | none=>false))):List Nat):=rfl
theorem C2 {A:List Nat} {i m:Nat} {q:Nat}:∀ {W:List (Nat×List Nat)} {x:Nat×List Nat},x∈W->q∈x.2->CQ A i m x.1->q∈eK A i m W
 | [],x,h,_,_=>by simp at h
 | y::W,x,h,hq,hl=>by
   rw [zU]
   rcases List.mem_cons.1 h with rfl|h
   .have h1:Nat.beq x.1 i=false:=by
     cases hb:Nat.beq x.1 i with
     | true=>exact (hl.1 (cE hb)).elim
     | false=>rfl
    have h2:(match bh A x.1 with
     | some x=>Nat.testBit x i
     | none=>false)=false:=by
     rw [cj]
     split
     .rename_i y hy; exact hl.2.2 y hy
     .rfl
    rw [h1,hl.2.1,h2]
    grind
   .have:=C2 h hq hl
    generalize (Nat.beq y.1 i||_)=b
    cases b with
    | true=>exact this
    | false=>grind
theorem Cs {A:List Nat} {i m:Nat}:∀ {W:List (Nat×List Nat)},(∀ x∈W,¬ CQ A i m x.1)->eK A i m W=[]
 | [],_=>rfl
 | x::W,h=>by
   rw [zU]
   have ih:=Cs (A:=A) (i:=i) (m:=m) (W:=W) λy hy=>h y (gJ _ hy)
   have hx:=h x (kz ..)
   cases hb:(Nat.beq x.1 i||(Nat.testBit m x.1||(match bh A x.1 with
    | some x=>Nat.testBit x i
    | none=>false))) with
   | true=>exact ih
   | false=>
     simp only [Bool.or_eq_false_iff] at hb
     refine (hx ⟨λe=>?_,hb.2.1,λy hy=>?_⟩).elim
     all_goals grind [Nat.beq_refl,cj]
theorem zv {i m:Nat}:∀ {l:List Nat} {k:Nat},VC i m l k=true->∀ j x,l[j]?=some x->k+j=i∨m.testBit (k+j)=true∨x.testBit i=true
 | [],k,_,j,x,hx=>by simp at hx
 | y::l,k,h,j,x,hx=>by
   obtain ⟨h1,h2⟩:=Bool.gU (show (Bool.rec false (VC i m l (k+1)) (Nat.beq k i||(Nat.testBit m k||Nat.testBit y i)):Bool)=true from h)
   cases j with
   | zero=>
     simp_all
   | succ j=>
     have:=zv h2 j x (by simpa using hx)
     grind
theorem rA {A:List Nat} {i m:Nat} (hm:A[i]?=some m) (h:HC A i=true) {j x:Nat} (hx:A[j]?=some x):¬ CQ A i m j:=by
 unfold HC at h
 rw [cj,hm] at h
 simp only at h
 rintro ⟨h1,h2,h3⟩
 rcases zv h j x hx with h4|h4|h4
 all_goals grind
theorem vv {A:List Nat} {i b:Nat} {ops:List Oper} {s:VS} {o:Oper} {u:l3} (h:lP T lo hi A i b ops s o=some (.ok u)) :
  (nW ops s.sl o.guard=some false/\u=⟨o.dst,some (.t []),[],none,false⟩) ∨
  (nW ops s.sl o.guard=some true/\∃ e,gC T lo hi b s o.dst o.op=some e/\(∀ l,e ≠ .cU l)/\u.dst=o.dst/\
   ((∃ d,e=.val d/\u.val=some d/\u.ws=[]/\u.al=none)∨(∃ d ws,e=.wr d ws/\u.val=d/\u.ws=ws/\u.al=none)∨(∃ d rs,e=.all d rs/\u.val=some d/\u.ws=[]/\u.al=some rs/\HC A i=true) ∨
     (∃ d rs,e=.all d rs/\u.val=some d/\lo.diff s.rs rs=some u.ws/\u.al=none/\u.ex=true/\kf s.rs.length d=true))):=by
 unfold lP at h
 split at h
 .rename_i hw
  refine .inr ⟨hw,?_⟩
  unfold ua at h
  split at h
  .grind
  .grind
  .simp at h
  .rename_i d rs he
   cases hb:HC A i with
   | false=>
     rw [hb] at h
     grind [RZ,Bool.ay]
   | true=>
     rw [hb] at h
     grind
  .simp at h
 all_goals grind
theorem Qc {A:List Nat} {i b:Nat} {ops:List Oper} {s:VS} {o:Oper} {u:l3} (h:lP T lo hi A i b ops s o=some (.ok u)):u.dst=o.dst:=by
 rcases vv h with ⟨_,rfl⟩|⟨_,e,_,_,h,_⟩
 .rfl
 .exact h
theorem Bb {A:List Nat} {i b:Nat} {ops:List Oper} {s:VS} {o:Oper} {u:l3} (h:lP T lo hi A i b ops s o=some (.ok u)) (ha:u.al≠none):HC A i=true:=by
 rcases vv h with ⟨_,rfl⟩|⟨_,e,_,_,_,h|h|h|h⟩
 .exact (ha rfl).elim
 all_goals grind
structure Open (T:ec) (lo:Lo) (hi:Hint) (N:Nat) (ops:List Oper) (A:List Nat) (W:List (Nat×List Nat)) (us:Nat->l3) (s0:VS) (b0:Nat):Prop where
 anc:Anc ops A
 below:∀ (i m:Nat),A[i]?=some m->∀ j,m.testBit j=true->j<i
 order:∀ (i:Nat) (o:Oper) (m:Nat),ops[i]?=some o->A[i]?=some m->E5 m o.guard=true/\uC ops m o.op.operands.toList=true
 aa0:∀ (i j:Nat) (o o':Oper) (t:Tmp),ops[i]?=some o->ops[j]?=some o'->o.dst=some t->o'.dst=some t->i=j
 keys:∀ x∈W,x.1<ops.length
 sec:∀ (k:Nat) (o:Oper),ops[k]?=some o->∃ m,A[k]?=some m/\RM T lo hi N ops A W k (b0+eH (ops.take k)) (eC us s0 (λ_=>true) k) o m (us k)
def tH (A:List Nat) (L:Nat->Bool):Prop:=∀ (j m:Nat),A[j]?=some m->L j=true->∀ k,m.testBit k=true->L k=true
section
variable {ops:List Oper} {A:List Nat} {W:List (Nat×List Nat)} {us:Nat->l3} {s0:VS} {b0:Nat} {L:Nat->Bool} {i m:Nat} {o:Oper}
theorem Open.get (hO:Open T lo hi N ops A W us s0 b0) {k:Nat} (hk:k<ops.length):∃ o m,ops[k]?=some o/\A[k]?=some m/\RM T lo hi N ops A W k (b0+eH (ops.take k)) (eC us s0 (λ_=>true) k) o m (us k):=by
 obtain ⟨m,h1,h2⟩:=hO.sec k ops[k] (ib hk)
 grind
theorem Open.dst (hO:Open T lo hi N ops A W us s0 b0) {k:Nat} {o:Oper} (ho:ops[k]?=some o) {t:Tmp} (h:(WS t).pO (us k)):o.dst=some t:=by
 obtain ⟨m,_,h2⟩:=hO.sec k o ho
 rw [<- Qc h2.ev]
 exact l3.aI0 h
theorem Open.loose (hO:Open T lo hi N ops A W us s0 b0) (hm:A[i]?=some m) {k q:Nat} (hk:k<ops.length) (hl:CQ A i m k) (ht:(WZ q).pO (us k)):q∈eK A i m W:=by
 obtain ⟨o,x,h1,h2,h3⟩:=hO.get hk
 rcases ht with ht|ht
 .have hb:=Bb h3.ev ht
  refine (rA h2 hb hm ?_).elim
  exact ⟨λe=>hl.1 e.symm,hl.2.2 x h2,λy hy=>by
   rw [hm] at hy
   simp only [aw] at hy
   subst hy
   exact hl.2.1⟩
 .obtain ⟨l,h4,h5⟩:=Lg (C7 h3.sub q ht)
  exact C2 h4 h5 hl
theorem Open.same (hO:Open T lo hi N ops A W us s0 b0) (hL:tH A L) (hm:A[i]?=some m) (hi:L i=false) (hr:∀ k,m.testBit k=true->L k=true) {k:Nat} (hk:k<ops.length) (hl:¬ CQ A i m k):((λ_=>true) k&&decide (k<i))=L k:=by
 obtain ⟨o,x,h1,h2,h3⟩:=hO.get hk
 by_cases e1:k=i
 .subst e1; simp [hi]
 .cases h4:m.testBit k with
  | true=>simp [hO.below i m hm k h4,hr k h4]
  | false=>
    cases h5:x.testBit i with
    | true=>
      have:=hO.below k x h2 i h5
      have h6:L k=false:=by
       cases hLk:L k with
       | false=>rfl
       | true=>rw [hL k x h2 hLk i h5] at hi; simp at hi
      grind
    | false=>exact (hl ⟨e1,h4,λy hy=>by
      grind⟩).elim
theorem Open.slot (hO:Open T lo hi N ops A W us s0 b0) (hL:tH A L) (hm:A[i]?=some m) (nA:i<ops.length) (hi:L i=false) (hr:∀ k,m.testBit k=true->L k=true) {t:Tmp}
  (ht:∀ k o,ops[k]?=some o->o.dst=some t->m.testBit k=true):eT (eC us s0 (λ_=>true) i).sl t=eT (eC us s0 L ops.length).sl t:=by
 rw [<- o4 (L:=λ_=>true) (Nat.le_of_lt nA)]
 refine (WS t).agree λk hk htk=>?_
 obtain ⟨o,x,h1,h2,h3⟩:=hO.get hk
 have h4:=ht k o h1 (hO.dst h1 htk)
 exact hO.same hL hm hi hr hk λhl=>by rw [hl.2.1] at h4; simp at h4
theorem Open.root (hO:Open T lo hi N ops A W us s0 b0) (hL:tH A L) (hm:A[i]?=some m) (nA:i<ops.length) (hi:L i=false) (hr:∀ k,m.testBit k=true->L k=true) {q:Nat}
  (hq:q ∉ eK A i m W):bh (eC us s0 (λ_=>true) i).rs q=bh (eC us s0 L ops.length).rs q:=by
 rw [<- o4 (L:=λ_=>true) (Nat.le_of_lt nA)]
 refine (WZ q).agree λk hk htk=>?_
 exact hO.same hL hm hi hr hk λhl=>hq (hO.loose hm hk hl htk)
theorem zo:∀ (ws:List (Nat×ah)) (rs:List ah),(writes ws rs).length=rs.length
 | [],_=>rfl
 | p::ws,rs=>by
   show (writes ws (setAt rs p.1 p.2)).length=_
   rw [zo ws,bg,List.length_set]
theorem C4:∀ (l:List Nat) (rs:List ah),(Bn l rs).length=rs.length
 | [],_=>rfl
 | q::l,rs=>by
   show (Bn l (setAt rs q .dead)).length=_
   rw [C4 l,bg,List.length_set]
noncomputable def bA1:View Nat where
 f s:=s.rs.length
 act u x:=match u.al with
  | some rs=>rs.length
  | none=>x
 pO u:=u.al≠none
 on u s:=by
  have:(u.on s).rs=writes u.ws (D4 u.al s.rs):=by
   unfold l3.on BW
   grind
  grind [zo,D4]
 idle u x h:=by
  grind
theorem Open.len (hO:Open T lo hi N ops A W us s0 b0) (hL:tH A L) (hm:A[i]?=some m) (nA:i<ops.length) (hi:L i=false) (hr:∀ k,m.testBit k=true->L k=true) :
  (eC us s0 (λ_=>true) i).rs.length=(eC us s0 L ops.length).rs.length:=by
 rw [<- o4 (L:=λ_=>true) (Nat.le_of_lt nA)]
 refine bA1.agree λk hk htk=>?_
 refine hO.same hL hm hi hr hk λhl=>?_
 obtain ⟨o,x,h1,h2,h3⟩:=hO.get hk
 refine (rA h2 (Bb h3.ev htk) hm ?_).elim
 exact ⟨λe=>hl.1 e.symm,hl.2.2 x h2,λy hy=>by
  rw [hm] at hy
  simp only [aw] at hy
  subst hy
  exact hl.2.1⟩
theorem Ib {α:Type} {l l':List α} (h:∀ q,bh l q=bh l' q):l=l':=List.ext_getElem? λq=>by rw [<- cj,<- cj,h q]
theorem Open.af1 (hO:Open T lo hi N ops A W us s0 b0) (hL:tH A L) (ho:ops[i]?=some o) (hm:A[i]?=some m) (nA:i<ops.length) (hi:L i=false) :
  (eC us s0 (more L i) ops.length).rs=((us i).on (eC us s0 L ops.length)).rs/\∀ t,eT (eC us s0 (more L i) ops.length).sl t=eT ((us i).on (eC us s0 L ops.length)).sl t:=by
 refine ⟨Ib λq=>((WZ q).step nA hi λht k h1 h2 h3 htk=>?_).symm,λt=>((WS t).step nA hi λht k h1 h2 h3 htk=>?_).symm⟩
 .obtain ⟨o',x,h4,h5,h6⟩:=hO.get h2
  obtain ⟨m',h7,h8⟩:=hO.sec i o ho
  rw [hm] at h7
  simp only [aw] at h7
  subst h7
  have hl:CQ A i m k:=by
   refine ⟨by omega,?_,λy hy=>?_⟩
   .cases hb:m.testBit k with
    | false=>rfl
    | true=>have:=hO.below i m hm k hb; omega
   .cases hb:y.testBit i with
    | false=>rfl
    | true=>rw [hL k y hy h3 i hb] at hi; simp at hi
  rcases ht with ht|ht
  .exact rA hm (Bb h8.ev ht) h5 hl
  .exact xc h8.apart q ht (hO.loose hm h2 hl htk)
 .obtain ⟨o',x,h4,h5,h6⟩:=hO.get h2
  have:=hO.aa0 i k o o' t ho h4 (hO.dst ho ht) (hO.dst h4 htk)
  omega
theorem Ac:∀ {sl:a8} {t:Tmp} {d:D} {c:fj},look sl t=some (d,c)->eT sl t=some d
 | [],t,d,c,h=>by simp [look] at h
 | (k,x,c')::sl,t,d,c,h=>by
   rw [BB]
   simp only [look] at h
   split at h
   .simp_all
   .rename_i hb
    rw [hb]; exact Ac h
theorem look_nil:∀ {sl:a8} {t:Tmp} {d:D} {c:fj},bT sl->look sl t=some (d,c)->c=[]
 | [],t,d,c,_,h=>by simp [look] at h
 | (k,x,c')::sl,t,d,c,hn,h=>by
   simp only [look] at h
   split at h
   .simp only [aw,bN] at h
    rw [<- h.2]; exact hn _ (kz ..)
   .exact look_nil (λy hy=>hn y (gJ _ hy)) h
theorem R.like (h:R T N aA w0 sp s a w E) (hn:bT s.sl) {s':VS} (zd:bT s'.sl) (h1:s'.rs=s.rs) (h2:s'.df=s.df) (h3:∀ t,eT s'.sl t=eT s.sl t):R T N aA w0 sp s' a w E:=by
 obtain ⟨gB,aV,NG⟩:=s'
 simp only at h1 h2
 subst h1 h2
 exact ⟨h.size,h.defers,h.spec,h.below,h.len,h.outer,h.roots,h.dp,h.dT,λt d c hl=>by
  have hc:=look_nil zd hl
  subst hc
  exact h.slots t d [] (gh hn ((h3 t).symm.trans (Ac hl))),h.gP⟩
theorem Ld {sl gB:a8} {g:Option (Nat×Bool)} (h:∀ j b p t,g=some (j,b)->ops[j]?=some p->p.dst=some t->eT sl t=eT gB t):nW ops sl g=nW ops gB g:=by
 unfold nW
 split
 all_goals grind [cj]
theorem HP {b:Nat} {rs:List ah} {d:Option D} {ws:List (Nat×ah)} (h:Shape b rs ws) (hb:b<rs.length):Jd (.wr d ws) rs=writes ws rs:=by
 rcases h with ⟨x,rfl⟩|⟨q,x,rfl,hq⟩|⟨q,x,y,rfl⟩
 .show place b x rs=setAt rs b x
  rw [iU x hb,bg]
 .show place q x rs=setAt rs q x
  rw [iU x hq,bg]
 .show place b y (setAt rs q x)=setAt (setAt rs q x) b y
  grind [iU,bg]
theorem VU {rs:List ah} {d:Option D} {ws:List (Nat×ah)} (h:∀ b,Shape b rs ws):Jd (.wr d ws) rs=writes ws rs:=by
 have key:∀ q x,ws=[(q,x)]->q<rs.length->Jd (.wr d ws) rs=writes ws rs:=λq x e hq=>by
  subst e
  show place q x rs=setAt rs q x
  rw [iU x hq,bg]
 rcases h 0 with ⟨x,h0⟩|⟨q,x,h0,hq⟩|⟨q,x,y,h0⟩
 .rcases h 1 with ⟨x',h1⟩|⟨q',x',h1,hq⟩|⟨q',x',y',h1⟩
  all_goals grind
 .exact key _ _ h0 hq
 .rcases h 1 with ⟨x',h1⟩|⟨q',x',h1,hq⟩|⟨q',x',y',h1⟩
  all_goals grind
theorem R.Dm (h:R T N aA w0 sp s a w E) {r:Nat} (hE:E[r]?=some hole):s.rs[r]?=some .dead:=by
 have hr:r<s.rs.length:=by rw [<- h.len]; grind
 have hx:=ib hr
 rw [hx]
 have hrel:=h.roots r _ _ hx hE
 generalize s.rs[r]=x at hrel
 cases x with
 | dead=>rfl
 | box l=>obtain ⟨b,_,_,h1,_⟩:=hrel; simp [hole] at h1
 | arr el sz n get=>
   obtain ⟨_,_,xs,h1,_⟩:=hrel
   rcases h1.2 with ⟨h2,_⟩|⟨g,cap,cur,h2,_⟩<;>simp [hole,undef] at h2
 | row el sz n l=>
   obtain ⟨_,_,xs,h1,_⟩:=hrel
   rcases h1.2 with ⟨h2,_⟩|⟨g,cap,cur,h2,_⟩<;>simp [hole,undef] at h2
 | bo el sz n get eI=>
   obtain ⟨_,_,xs,h1,_⟩:=hrel
   rcases h1.2 with ⟨h2,_⟩|⟨g,cap,cur,h2,_⟩<;>simp [hole,undef] at h2
 | own l=>
   obtain ⟨_,h0,vs,h1,h2,_⟩:=hrel
   grind [hole,undef]
 | set l=>obtain ⟨b,_,_,h1,_⟩:=hrel; simp [hole] at h1
 | loop f M sl ps as bd st fP=>obtain ⟨b,_,_,h1,_⟩:=hrel; simp [hole] at h1
 | mi=>obtain ⟨b,h1,_⟩:=hrel; simp [hole] at h1
structure pF (b0:Nat) (E E':Env):Prop where
 le:Env.le E E'
 free:∀ q:Nat,q<b0->E[q]?=some hole->E'[q]?=some hole
theorem pF.trans {b0:Nat} {E F G:Env} (h:pF b0 E F) (k:pF b0 F G):pF b0 E G:=⟨h.le.trans k.le,λq hq e=>k.free q hq (h.free q hq e)⟩
theorem pF.refl (b0:Nat) (E:Env):pF b0 E E:=⟨Env.le_refl E,λ_ _ h=>h⟩
theorem WB {b b':Nat} {s:VS} {dst:Option Tmp} {op:Op} {d:D} {rs:List ah} (h:gC T lo hi b s dst op=some (.all d rs)):gC T lo hi b' s dst op=some (.all d rs):=by
 by_cases hm:eL op=0
 .rw [qP hm (b':=b)]; exact h
 unfold gC at h ⊢
 split at h
 .simp at h
 .rename_i hl
  cases op with
  | call c=>
    have h:iO T lo hi b s c=_:=h
    show iO T lo hi b' s c=_
    unfold iO at h ⊢
    split at h
    .exfalso
     have fin:∀ {el sz k:Nat} {l':List C} {BM:Nat} {c:C},GB el sz k l' BM b s.rs c≠some (.all d rs):=by
      intro el sz k l' BM c q
      unfold GB at q
      grind [Bool.ay]
     unfold rp at h
     split at h
     case h_2=>simp at h
     replace h:=(Bool.ay h).2
     split at h
     case h_2=>simp at h
     split at h
     .rename_i e' he'
      subst h
      unfold sb at he'
      split at he'
      case h_2=>simp at he'
      split at he'
      case h_2=>simp at he'
      split at he'
      case h_2=>simp at he'
      simp only [aw] at he'
      unfold DK at he'
      split at he'
      .replace he':=(Bool.ay he').2
       unfold sW at he'
       grind [Bool.ay]
      grind [qo]
     unfold qL at h
     split at h
     case h_2=>simp at h
     split at h
     all_goals grind [Bool.ay]
    .unfold mZ at h ⊢
     split at h
     case h_2=>simp at h
     split at h
     .exact h
     .split at h
      case h_2=>simp at h
      unfold qZ at h ⊢
      split at h
      .exact h
      .exact h
      .exfalso
       unfold gH at h
       split at h
       .simp at h
       .revert h
        generalize fo _=p
        intro h
        cases p with
        | true=>simp at h
        | false=>
          rcases pg h with ⟨l,hl⟩|⟨hl,_⟩
          all_goals grind
       .rcases pg h with ⟨l,hl⟩|⟨hl,_⟩
        all_goals grind
       .simp at h
      .grind
      .exfalso
       obtain ⟨is',cs,tP,L,_,_,_,_,q⟩:=lA h
       cases q
      .exact h
    .simp at h
  | box t x=>
    have h:xJ b s x=_:=h
    grind [xJ]
  | alloc t=>
    have h:lH T b t=_:=h
    grind [lH]
  | makeMap t r=>
    have h:lB T b t r=_:=h
    unfold lB at h
    split at h<;>simp at h
  | makeSlice t l c=>
    have h:nR T b s t l c=_:=h
    unfold nR at h
    split at h
    case h_2=>simp at h
    split at h
    case h_2=>simp at h
    split at h
    case h_2=>simp at h
    split at h
    all_goals grind [Bool.ay]
  | buildSlice t n ps=>
    have h:Qy T b s (Dc hi dst) t n ps.toList=_:=h
    unfold Qy at h
    split at h
    all_goals grind [Bool.ay,kA]
  | _=>exact (hm rfl).elim
def HH (ops:List Oper) (b0:Nat) (L:Nat->Bool) (E:Env):Prop:=∀ j o,ops[j]?=some o->L j=false->eL o.op≠0->E[b0+eH (ops.take j)]?=some hole
theorem sf (l m:List Oper):eH (l++m)=eH l+eH m:=by
 induction l with
 | nil=>show eH m=0+eH m; omega
 | cons o l ih=>
   show eL o.op+eH (l++m)=(eL o.op+eH l)+eH m
   rw [ih]; omega
theorem kb {ops:List Oper} {j:Nat} {o:Oper} (h:ops[j]?=some o):eH (ops.take (j+1))=eH (ops.take j)+eL o.op:=by
 rw [List.take_add_one,h,sf]
 rfl
theorem lC (ops:List Oper) {j k:Nat} (h:j<=k):eH (ops.take j)<=eH (ops.take k):=by
 grind [List.take_append_drop,sf]
theorem Pd {j k:Nat} {o o':Oper} (hj:ops[j]?=some o) (hk:ops[k]?=some o') (h1:eL o.op≠0) (h2:eL o'.op≠0) (qG:j≠k):eH (ops.take j)≠eH (ops.take k):=by
 rcases Nat.lt_or_ge j k with h|h
 .have:=lC ops (j:=j+1) (k:=k) h
  rw [kb hj] at this
  omega
 .have:=lC ops (j:=k+1) (k:=j) (by omega)
  rw [kb hk] at this
  omega
theorem RW {s:VS} {dst:Option Tmp} {e:cP} {u:l3} (hd:u.dst=dst) (BV:GA N u.dst u.val=true) (hv:u.val=eG e) (hnc:∀ l,e ≠ .cU l) (Ju:Jd e s.rs=writes u.ws (D4 u.al s.rs)):sA N s dst e=some (u.on s):=by
 subst hd
 have key:∀ (d:D) (s1:VS),u.val=some d->s1={ s with rs:=writes u.ws (D4 u.al s.rs) }->tD N s1 u.dst d=some (u.on s):=λd s1 hv hs=>by
  subst hs
  unfold l3.on tD BW
  unfold GA at BV
  cases hdst:u.dst with
  | none=>rfl
  | some t=>
    rw [hdst,hv] at BV
    simp only [hv,show Nat.blt t N=true from BV]
 cases e with
 | val d=>
   refine key d s hv ?_
   obtain ⟨sl,rs,df⟩:=s
   have:rs=_:=Ju
   grind
 | wr d ws=>
   show Ot N _ u.dst d=_
   have hv:u.val=d:=hv
   cases d with
   | some d=>exact key d _ hv (by rw [<- Ju])
   | none=>
     unfold GA at BV
     grind [l3.on,BW,Ot]
 | all d rs=>exact key d _ hv (by rw [<- Ju]; rfl)
 | cU l=>exact (hnc l rfl).elim
theorem Open.op {ops:Array Oper} (hO:Open T lo hi N ops.toList A W us s0 b0) (bZ:dU P T) (Ll:iv T P lo) (hL:tH A L) (ho:ops[i]?=some o) (hm:A[i]?=some m) (hLi:L i=false) (hr:∀ k,m.testBit k=true->L k=true)
  (h:R T N aA w0 sp (eC us s0 L ops.size) a w E) (hn:bT s0.sl) (hh:HH ops.toList b0 L E) {Q:Exit->Act->World->Prop} {K:Act->World->Prop}
  (hK:∀ a' w' E',pF b0 E E'->R T N aA w0 sp (eC us s0 (more L i) ops.size) a' w' E'->HH ops.toList b0 (more L i) E'->K a' w'):wpOpIn (Fr ρ) 0 P ops Q i K a w:=by
 have hlen:ops.toList.length=ops.size:=by simp
 have WT:ops.toList[i]?=some o:=by simpa using ho
 have nA:i<ops.toList.length:=(List.getElem?_eq_some_iff.1 WT).1
 obtain ⟨m',h1,hs⟩:=hO.sec i o WT
 rw [hm] at h1
 simp only [aw] at h1
 subst h1
 have hord:=hO.order i o m WT hm
 let S:=eC us s0 L ops.size
 have hnS:bT S.sl:=rn hn _
 have slot:∀ {t:Tmp},(∀ k o,ops.toList[k]?=some o->o.dst=some t->m.testBit k=true)->eT (eC us s0 (λ_=>true) i).sl t=eT S.sl t:=λht=>by
  have:=hO.slot hL hm nA hLi hr ht
  grind
 have hfin:∀ {a' w' E'},pF b0 E E'->R T N aA w0 sp ((us i).on S) a' w' E'->HH ops.toList b0 (more L i) E'->K a' w':=λ{a' w' E'} hkb hR hH=>by
  obtain ⟨q1,q2⟩:=hO.af1 hL WT hm nA hLi
  rw [hlen] at q1 q2
  exact hK _ _ _ hkb (hR.like (l3.SD _ hnS) (rn hn _) q1 (by rw [l3.ao2,yo,yo]) q2) hH
 have hwant:∀ {b:Bool},nW ops.toList (YR (eK A i m W) (eC us s0 (λ_=>true) i)).sl o.guard=some b->Region.wanted o (yielded ops a.tmps)=b:=λ{b} hw=>by
  rw [KY] at hw
  refine sP h hnS (b:=b) ?_
  rw [<- hw]
  refine (Ld λj b p t hg hp ht=>?_).symm
  refine slot λk o1 hk qD=>?_
  have:=hO.aa0 j k p o1 t hp hk ht qD
  subst this
  have:=hord.1
  rw [hg] at this
  exact this
 unfold wpOpIn
 rw [ho]
 simp only
 rcases vv hs.ev with ⟨hw,hu⟩|⟨hw,e,he,hnc,hdst,hcase⟩
 .rw [if_neg (by rw [hwant hw]; simp)]
  refine ⟨λ_ _=>trivial,?_⟩
  have ny:tD N S o.dst (.t [])=some ((us i).on S):=by
   have BV:=hs.ok
   rw [hu] at BV ⊢
   unfold tD l3.on BW
   unfold GA at BV
   cases hd:o.dst with
   | none=>rfl
   | some t=>
     rw [hd] at BV
     simp only at BV
     simp only [BV]
     rfl
  obtain ⟨h2,h3⟩:=sY h hnS ny CA
  refine hfin (pF.refl _ _) h2 λj oj hj GI hmk=>?_
  by_cases hji:j=i
  .subst hji; rw [lx] at GI; simp at GI
  .rw [jJ hji] at GI; exact hh j oj hj GI hmk
 .rw [if_pos (hwant hw)]
  rw [KY] at he
  have hops:∀ x∈o.op.operands.toList,cF (eC us s0 (λ_=>true) i).sl x=cF S.sl x:=λx hx=>by
   cases x with
   | tmp t=>
     refine slot λk o1 hk qD=>?_
     have:=lS hord.2 t hx
     unfold N1 at this
     split at this
     .rename_i j hj
      obtain ⟨j',o2,h4,h5,h6⟩:=yW hj
      have:=hO.aa0 j' k o2 o1 t h5 hk h6 qD
      grind
     grind [sR]
   | _=>rfl
  have hrle:rF (Bn (eK A i m W) (eC us s0 (λ_=>true) i).rs) S.rs:=λq x hq hx=>by
   obtain ⟨h4,h5⟩:=CL _ _ hq hx
   have:=hO.root hL hm nA hLi hr h4
   grind
  have hall:∀ d r,e=.all d r->Bn (eK A i m W) (eC us s0 (λ_=>true) i).rs=S.rs:=λd r hd=>by
   have te:eK A i m W=[]:=by
    rcases hcase with ⟨_,h4,_⟩|⟨_,_,h4,_⟩|⟨_,_,_,_,_,_,h4⟩|⟨_,_,_,_,_,_,h4,_⟩
    .rw [hd] at h4; cases h4
    .rw [hd] at h4; cases h4
    .exact Cs λx hx=>by
      obtain ⟨_,y,_,h5,_⟩:=hO.get (hO.keys x hx)
      exact rA hm h4 h5
    .have:=hs.ex
     grind [Xc]
   rw [te]
   refine Ib λq=>?_
   have:=hO.root hL hm nA hLi hr (q:=q) (by rw [te]; simp)
   rw [hlen] at this
   exact this
  have heS:gC T lo hi (b0+eH (ops.toList.take i)) S o.dst o.op=some e:=Kq (NG:=S.df) Ll.mono (by rw [C4]; have:=hO.len hL hm nA hLi hr; grind) hrle hops hnc hall he
  by_cases hc4:∃ d rs,e=.all d rs/\(us i).val=some d/\lo.diff S.rs rs=some (us i).ws/\(us i).al=none/\kf S.rs.length d=true
  .obtain ⟨d,aV,h4,h5,h6,h7,h8⟩:=hc4
   subst h4
   have he':=WB (b':=S.rs.length) heS
   rcases ti bZ Ll h hnS (.inr rfl) he' (next:=K) (λv w' E' ha=>by
    obtain ⟨g1,g2,g3⟩:=ha
    have hk:=Kept.NZ g1 (Nat.le_of_eq h.len)
    obtain ⟨E1,hkE,hEl,k1,k2⟩:=R.trim (sl:=S.sl) (df:=S.df) h g2 hk (Ll.diff _ _ _ h6) h8 (g3 d rfl)
    have ny:tD N { S with rs:=writes (us i).ws S.rs } o.dst d=some ((us i).on S):=by
     have BV:=hs.ok
     rw [<- hdst]
     unfold l3.on tD BW D4
     unfold GA at BV
     rw [h7,h5]
     cases hdst':(us i).dst with
     | none=>rfl
     | some t=>
       rw [hdst',h5] at BV
       simp only [show Nat.blt t N=true from BV]
    obtain ⟨k3,k4⟩:=sY k1 hnS ny k2
    refine hfin ⟨hkE.le,λq _ e=>hkE.free q e⟩ k3 λj oj hj GI hmk=>?_
    by_cases hji:j=i
    .subst hji; rw [lx] at GI; simp at GI
    .rw [jJ hji] at GI; exact hkE.free _ (hh j oj hj GI hmk)) with ⟨l,hl⟩|h3
   .exact (hnc l hl).elim
   .exact h3.wpIn
  have hcase:(∃ d,e=.val d/\(us i).val=some d/\(us i).ws=[]/\(us i).al=none)∨(∃ d ws,e=.wr d ws/\(us i).val=d/\(us i).ws=ws/\(us i).al=none)∨(∃ d rs,e=.all d rs/\(us i).val=some d/\(us i).ws=[]/\(us i).al=some rs/\HC A i=true):=by
   grind [KY]
  have hbr:∃ b,gC T lo hi b S o.dst o.op=some e/\mm S E b/\Jd e S.rs=writes (us i).ws (D4 (us i).al S.rs)/\(∀ E',ot b E E'->HH ops.toList b0 (more L i) E')/\(∀ E',ot b E E'->pF b0 E E'):=by
   by_cases hmk:eL o.op=0
   .refine ⟨S.rs.length,by grind [qP],.inr rfl,?_,λE' hg j oj hj GI YX=>?_,λE' hg=>⟨hg.le,λq hq e=>hg.free q (λe'=>by
     have:=(List.getElem?_eq_some_iff.1 e).1
     rw [h.len] at this
     grind) e⟩⟩
    .rcases hcase with ⟨d,h4,_,h5,h6⟩|⟨d,ws,h4,_,h5,h6⟩|⟨d,rs,h4,_,h5,h6,_⟩
     .rw [h4,h5,h6]; rfl
     .rw [h4,h5,h6]
      refine VU λb=>Ab (T:=T) (lo:=lo) (hi:=hi) (dst:=o.dst) (op:=o.op) (d:=d) (s:=S) ?_
      grind [qP]
     .rw [h4,h5,h6]; rfl
    .by_cases hji:j=i
     .grind
     .rw [jJ hji] at GI
      have h7:=hh j oj hj GI YX
      refine hg.free _ ?_ h7
      have:=(List.getElem?_eq_some_iff.1 h7).1
      rw [h.len] at this
      exact Nat.ne_of_lt this
   .have h7:=hh i o WT hLi hmk
    have eW:b0+eH (ops.toList.take i)<S.rs.length:=by
     have:=(List.getElem?_eq_some_iff.1 h7).1
     rw [h.len] at this
     exact this
    refine ⟨_,heS,.inl ⟨h.Dm h7,h7⟩,?_,λE' hg j oj hj GI YX=>?_,λE' hg=>⟨hg.le,λq hq e=>hg.free q (by omega) e⟩⟩
    .rcases hcase with ⟨d,h4,_,h5,h6⟩|⟨d,ws,h4,_,h5,h6⟩|⟨d,rs,h4,_,h5,h6,_⟩
     .rw [h4,h5,h6]; rfl
     .rw [h4,h5,h6]
      rw [h4] at heS
      exact HP (Ab heS) eW
     .rw [h4,h5,h6]; rfl
    .by_cases hji:j=i
     .subst hji; rw [lx] at GI; simp at GI
     .rw [jJ hji] at GI
      have h8:=hh j oj hj GI YX
      refine hg.free _ ?_ h8
      have:=Pd hj WT YX hmk hji
      omega
  obtain ⟨b,hb1,hb2,hb3,hb4,hb5⟩:=hbr
  have hval:(us i).val=eG e:=by
   rcases hcase with ⟨d,h4,h5,_⟩|⟨d,ws,h4,h5,_⟩|⟨d,rs,h4,h5,_⟩<;>rw [h4,h5]<;>rfl
  have ny:=RW hdst hs.ok hval hnc hb3
  have hd:=Hl hb1
  rcases ti bZ Ll h hnS hb2 hb1 (next:=K) (λv w' E' ha=>by
   obtain ⟨h3,h4⟩:=NC hnS ny ha (λq=>by
    grind)
   exact hfin (hb5 _ ha.1) h3 (hb4 _ ha.1)) with ⟨l,hl⟩|h3
  .exact (hnc l hl).elim
  .exact h3.wpIn
end
def Xf:List Bool->Nat
 | []=>0
 | true::l=>Xf l
 | false::l=>Xf l+1
theorem Nc:∀ {l:List Bool} {i:Nat},l[i]?=some false->Xf (l.set i true)+1=Xf l
 | [],i,h=>by simp at h
 | b::l,0,h=>by
   simp at h; subst h; rfl
 | b::l,i+1,h=>by
   have ih:=Nc (l:=l) (i:=i) (by simpa using h)
   cases b with
   | true=>exact ih
   | false=>simp only [List.set_cons_succ,Xf]; omega
theorem A9:∀ {l:List Bool},Xf l=0->∀ (i:Nat),l[i]?≠some false
 | [],_,i=>by simp
 | true::l,h,i=>by
   cases i with
   | zero=>simp
   | succ i=>simpa using A9 (l:=l) h i
 | false::l,h,i=>by simp [Xf] at h
theorem sh:∀ n,Xf (List.replicate n false)=n
 | 0=>rfl
 | n+1=>by rw [List.replicate_succ]; simp only [Xf]; rw [sh n]
section
variable {ops:Array Oper} {A:List Nat} {W:List (Nat×List Nat)} {us:Nat->l3} {s0:VS} {b0:Nat}
theorem vw {dq:Array Bool} {i:Nat} (h:i∈Region.ready .any ops dq):i<ops.size/\dq.getD i true=false/\∃ o,ops[i]?=some o/\∀ e∈o.after.toList,Region.binds .any e=true->dq.getD e.on false=true:=by
 unfold Region.ready at h
 rw [List.mem_filter,List.mem_range,fC] at h
 obtain ⟨h1,h2,h3⟩:=h
 refine ⟨h1,by simpa using h2,?_⟩
 rw [Array.getElem?_eq_getElem h1] at h3 ⊢
 refine ⟨_,rfl,λe he hb=>?_⟩
 simp only [Option.map_some,Option.getD_some] at h3
 rw [<- Array.all_toList,List.all_eq_true] at h3
 grind
theorem P9 {dq:Array Bool} (hO:Open T lo hi N ops.toList A W us s0 b0) (ik:dq.size=ops.size) (h:Region.ready .any ops dq=[]):∀ k,k<ops.size->dq.getD k false=true:=by
 intro k
 induction k using Nat.strongRecOn with
 | _ k ih=>
   intro hk
   cases hL:dq.getD k false with
   | true=>rfl
   | false=>
     have qD:k<dq.size:=by omega
     have hget:dq[k]=false:=by simp_all
     have:k∈Region.ready .any ops dq:=by
      unfold Region.ready
      rw [List.mem_filter,List.mem_range,fC]
      refine ⟨hk,by grind,?_⟩
      rw [Array.getElem?_eq_getElem hk]
      simp only [Option.map_some,Option.getD_some]
      rw [<- Array.all_toList,List.all_eq_true]
      intro e he
      cases hb:Region.binds .any e with
      | false=>rfl
      | true=>
        have ho:ops.toList[k]?=some ops[k]:=by simp [hk]
        obtain ⟨m,hm,_⟩:=hO.sec k _ ho
        have hbit:m.testBit e.on=true:=(hO.anc.bits k _ m ho hm e.on).2 ⟨e,he,hb,.inl rfl⟩
        have eW:=hO.below k m hm e.on hbit
        grind
     grind
theorem Open.run (hO:Open T lo hi N ops.toList A W us s0 b0) (bZ:dU P T) (Ll:iv T P lo) (hn:bT s0.sl) {Q:Exit->Act->World->Prop}
  {E0:Env} (hQ:∀ a' w' E',pF b0 E0 E'->R T N aA w0 sp (eC us s0 (λ_=>true) ops.size) a' w' E'->Q .normal a' w') :
  ∀ (fuel:Nat) (dq:Array Bool) (a:Act) (w:World) (E:Env),pF b0 E0 E->dq.size=ops.size->tH A (λk=>dq.getD k false)->R T N aA w0 sp (eC us s0 (λk=>dq.getD k false) ops.size) a w E->
   HH ops.toList b0 (λk=>dq.getD k false) E->Xf dq.toList<=fuel->wpAnyIn (Fr ρ) 0 P .any ops Q fuel dq a w
 | fuel,dq,a,w,E,hkb,ik,hC,h,hh,hu=>by
   have hend:Region.ready .any ops dq=[]->Q .normal a w:=λhr=>by
    grind [P9,tw]
   cases fuel with
   | zero=>
     refine ⟨?_,?_⟩
     .cases hr:Region.ready .any ops dq with
      | nil=>rfl
      | cons i l=>
        obtain ⟨h1,h2,_⟩:=vw (show i∈Region.ready .any ops dq by rw [hr]; simp)
        have nA:i<dq.size:=by omega
        refine (A9 (l:=dq.toList) (by omega) i ?_).elim
        simp_all
     .refine hend ?_
      cases hr:Region.ready .any ops dq with
      | nil=>rfl
      | cons i l=>
        obtain ⟨h1,h2,_⟩:=vw (show i∈Region.ready .any ops dq by rw [hr]; simp)
        have nA:i<dq.size:=by omega
        refine (A9 (l:=dq.toList) (by omega) i ?_).elim
        simp_all
   | succ fuel=>
     refine ⟨hend,λi hi=>?_⟩
     obtain ⟨h1,h2,o,ho,hdep⟩:=vw hi
     have nA:i<dq.size:=by omega
     have hget:dq[i]=false:=by simp_all
     have WT:ops.toList[i]?=some o:=by simpa using ho
     obtain ⟨m,hm,_⟩:=hO.sec i o WT
     have hLi:dq.getD i false=false:=by grind
     have hr:∀ k,m.testBit k=true->dq.getD k false=true:=λk hk=>by
      obtain ⟨e,he,hb,h3⟩:=(hO.anc.bits i o m WT hm k).1 hk
      have h4:=hdep e he hb
      rcases h3 with rfl|⟨x,hx,hxk⟩
      .exact h4
      .rw [nH] at hx
       split at hx
       .exact hC e.on x hx h4 k hxk
       .simp at hx
     have hmore:∀ k,(dq.setIfInBounds i true).getD k false=more (λk=>dq.getD k false) i k:=λk=>by
      grind [lx,jJ,Array.getInternal_eq_getElem]
     refine hO.op (L:=λk=>dq.getD k false) bZ Ll hC ho hm hLi hr h hn hh λa' w' E' bw1 hR hH=>?_
     refine Open.run hO bZ Ll hn hQ fuel (dq.setIfInBounds i true) a' w' E' (hkb.trans bw1) (by simpa using ik) ?_ ?_ ?_ ?_
     .intro j x hx hj k hk
      simp only [hmore] at hj ⊢
      by_cases hji:j=i
      .grind [jJ]
      .rw [jJ hji] at hj
       by_cases hki:k=i
       .subst hki; exact lx _
       .rw [jJ hki]; exact hC j x hx hj k hk
     .simp_all
     .simp_all
     .have:=Nc (l:=dq.toList) (i:=i) (by simp [nA,hget])
      grind
end
theorem xk (bZ:dU P T) (Ll:iv T P lo) {ops:Array Oper} (ny:vn ops.toList=true) {sF:VS} {Q:Exit->Act->World->Prop} (hQ:∀ a' w' E',Kept E E'->R T N aA w0 sp sF a' w' E'->bT sF.sl->Q .normal a' w') :
  ∀ (n:Nat) {s:VS},Af T lo hi N ops.toList n s=some sF->R T N aA w0 sp s a w E->bT s.sl->wpAnyIn (Fr ρ) 0 P .any ops Q ops.size (Array.replicate ops.size false) a w
 | 0,s,e,h,hn=>by
   have e:(none:Option VS)=some sF:=e
   simp at e
 | n+1,s,e,h,hn=>by
   have e:(match ng T lo hi N (jT ops.toList []) ops.toList ops.toList 0 s.rs.length [] (gb ops.toList s) with
    | some (.cU l)=>match ie l s with
      | some s'=>Af T lo hi N ops.toList n s'
      | none=>none
    | some (.ok W s')=>CD T lo hi N ops.toList (gb ops.toList s) s' s.rs.length W
    | none=>none)=some sF:=e
   split at e
   .split at e
    case h_2=>simp at e
    rename_i s' hs'
    obtain ⟨h1,h2⟩:=h.ie hs'
    exact xk bZ Ll ny hQ n e h1 (h2 hn)
   .rename_i W s' hf
    have hlen:ops.toList.length=ops.size:=by simp
    have hanc:=aC0 ops.toList
    have hsec:∃ W,(∀ x∈W,x.1<ops.toList.length)/\lj T lo hi N ops.toList (jT ops.toList []) W ops.toList (jT ops.toList []) 0 s.rs.length (gb ops.toList s)=some sF:=by
     unfold CD at e
     split at e
     .simp only [aw] at e
      subst e
      exact ⟨[],λx hx=>by simp at hx,(sy hf).2 _ hanc.len⟩
     .exact ⟨_,λx hx=>by have:=xb hf (λx hx=>by simp at hx) x hx; omega,e⟩
    obtain ⟨W,hkeys,hsec⟩:=hsec
    obtain ⟨us,h1,h2⟩:=tU hsec
    unfold vn at ny
    simp only [fC] at ny
    have hO:Open T lo hi N ops.toList (jT ops.toList []) W us (gb ops.toList s) s.rs.length:={
     anc:=hanc
     below:=λi m hm j hj=>by have:=xr ny.2.2 i m hm j hj; omega
     order:=λi o m ho hm=>xB ny.2.1 i o m ho hm
     aa0:=Aw ny.1
     keys:=hkeys
     sec:=λk o hk=>by
      grind }
    have hR:=h.aj4 (eH ops.toList)
    have te:bT (gb ops.toList s).sl:=hn
    rw [hlen] at h1
    have hget0:∀ k,(Array.replicate ops.size false).getD k false=false:=λk=>by simp [Array.getD]
    have hS0:eC us (gb ops.toList s) (λk=>(Array.replicate ops.size false).getD k false) ops.size=gb ops.toList s:=by
     rw [tw (L':=λ_=>false) λk _=>hget0 k]
     have:∀ n,eC us (gb ops.toList s) (λ_=>false) n=gb ops.toList s:=by
      intro n
      induction n with
      | zero=>rfl
      | succ n ih=>simp only [eC]; exact ih
     exact this _
    refine Open.run hO bZ Ll te (E0:=E) (λa' w' E' hkb we=>hQ a' w' E' ⟨hkb.le,λq e=>hkb.free q (by rw [<- h.len]; grind) e⟩ (by rw [h1]; exact we) (by rw [h1]; exact rn te _)) ops.size _ a w (E++List.replicate (eH ops.toList) hole)
     ⟨Env.ey _ _,λq _ e=>by grind⟩ (by simp) ?_ ?_ ?_ ?_
    .intro j m _ hj
     grind
    .rw [hS0]; exact hR
    .intro j o hj _ hmk
     rw [<- h.len,nv (by omega),List.getElem?_replicate,if_pos]
     have h5:=kb hj
     have h6:=lC ops.toList (j:=j+1) (k:=ops.toList.length) (List.getElem?_eq_some_iff.1 hj).1
     grind
    grind [Array.toList_replicate,sh]
   .simp at e
theorem HO (bZ:dU P T) (hl:iv T P lo) (Gs:P.follows .mixedOrders=true) (h:R T N aA w0 sp s a w E) (hn:bT s.sl) {f:FuncId} {ro:Option Nat} {id:Nat} {ops:Array Oper} {s':VS} (e:regionF T lo hi N f ro id ops.toList true s=some s')
  {b:Frame} {k:List Item} {cs:List Frame}:∃ a' w' E',Kept E E'/\R T N aA w0 sp s' a' w' E'/\bT s'.sl/\Steps P (lone (b.atR a (.code (.region id ops true)::k)) cs w) (lone (b.atR a' k) cs w'):=by
 unfold regionF at e
 simp only at e
 split at e
 .simp at e
 split at e
 case h_2=>simp at e
 rename_i ny
 split at e
 case h_2=>simp at e
 rename_i s1 hs1
 simp only [aw] at e
 subst e
 have hg:R T N aA w0 sp s a { w with drawn:=w.drawn+1 } E:=h.grown ⟨rfl,rfl,rfl,bF _,λ_ _=>rfl⟩
 have hw:=xk (ρ:=b.roundOf) (Q:=λen a' w'=>en=.normal/\∃ E',Kept E E'/\R T N aA w0 sp s1 a' w' E'/\bT s1.sl) bZ hl ny (λa' w' E' hk h1 h2=>⟨rfl,E',hk,h1,h2⟩) 8 hs1 hg hn
 obtain ⟨en,a',w',⟨rfl,E',hk,h1,h2⟩,harr⟩:=wpIn_region_any (id:=id) Gs hw b k cs rfl trivial (ML _ _)
 obtain ⟨h3,h4⟩:=MC (hi:=hi) h1 h2 f id
 exact ⟨a',w',E',hk,h3,h4,StepsIn.steps harr⟩
end
open Go.RowKit
section
variable {P:Program} {T:ec} {lo:Lo} {hi:Hint} {N:Nat} {aA:Nat->Prop} {w0:Kp} {sp:List (D×Value)} {s:VS} {a:Act} {w:World} {E:Env} {f:FuncId} {ro:Option Nat}
def ju (E:Env) (b:Frame):Option Nat->Prop
 | none=>b.roundOf=none
 | some r=>∃ l sz,b.roundOf=some l/\bB E r l sz
theorem ju.mono {E E':Env} {b:Frame} (hE:Env.le E E'):∀ {ro:Option Nat},ju E b ro->ju E' b ro
 | none,h=>h
 | some r,⟨l,sz,h1,h2⟩=>⟨l,sz,h1,hE.at_ h2⟩
def w7:Option Code->List Item->Prop
 | none,todo=>todo=[]
 | some c,todo=>(∃ k,c=.ret/\todo=.code .ret::k)∨(∃ id k,c=.exit id/\todo=.code (.exit id)::k/\exitTo id k=none)
theorem R.loop (h:R T N aA w0 sp s a w E) {r M:Nat} {g:FuncId} {sl:a8} {ps:List Tmp} {as bd:Code} {st:LoopState} {fP:Option Code} (hr:s.rs[r]?=some (.loop g M sl ps as bd st fP)) :
  ∃ b hd sz db tm,E[r]?=some (some b,hd,sz)/\w.heap[b]?=some (.loop { state:=st,pending:=fP,fn:=g,tmps:=tm,params:=ps.toArray,assign:=as,body:=bd,defers:=db })/\tm.size=M/\iJ E (AV aA s.rs E) w M sl tm/\bT sl:=by
 have eW:r<E.length:=by rw [h.len]; grind
 have hE:=ib eW
 obtain ⟨b,db,tm,q1,q2,q3,q4,q5⟩:=h.roots r _ _ hr hE
 generalize E[r]=e at hE q1
 obtain ⟨e1,e2,e3⟩:=e
 have q1:e1=some b:=q1
 subst q1
 exact ⟨b,e2,e3,db,tm,hE,q2,q3,q4,q5⟩
theorem R.vc (h:R T N aA w0 sp s a w E) {r M b sz:Nat} {hd:Hd} {g:FuncId} {sl:a8} {ps:List Tmp} {as bd:Code} {st:LoopState} {fP:Option Code} (hr:s.rs[r]?=some (.loop g M sl ps as bd st fP)) {db:Nat} {tm:Array Value}
  (hE:E[r]?=some (some b,hd,sz)) (hw:w.heap[b]?=some (.loop { state:=st,pending:=fP,fn:=g,tmps:=tm,params:=ps.toArray,assign:=as,body:=bd,defers:=db })) (hM:tm.size=M) (Qv:iJ E (AV aA s.rs E) w M sl tm) (hn:bT sl) (st':LoopState) (aj5:Option Code) :
  R T N aA w0 sp { s with rs:=setAt s.rs r (.loop g M sl ps as bd st' aj5) } a (w.putObj b (.loop { state:=st',pending:=aj5,fn:=g,tmps:=tm,params:=ps.toArray,assign:=as,body:=bd,defers:=db })) E:=by
 have eW:b<w.heap.size:=(Array.getElem?_eq_some_iff.1 hw).1
 rw [bg]
 refine h.turn hr trivial hE (by simp) (λk hk=>World.putObj_heap_other hk) ⟨rfl,rfl,rfl⟩ ⟨b,db,tm,rfl,World.putObj_heap_same eW,hM,?_,hn⟩
 refine Qv.mono (Env.le_refl E) ⟨by simp,λk hk fa=>World.putObj_heap_other λe=>?_⟩ (λ_ _ q=>q)
 subst e
 exact fa (.inr ⟨r,_,sz,hr,trivial,bB.own ⟨hd,hE⟩⟩)
theorem R.kill (h:R T N aA w0 sp s a w E) {r b sz:Nat} {hd:Hd} {x:ah} (hr:s.rs[r]?=some x) (hx:x.live) (hE:E[r]?=some (some b,hd,sz)) (o:Obj):R T N aA w0 sp { s with rs:=setAt s.rs r .dead } a (w.putObj b o) E:=by
 rw [bg]
 exact h.turn hr hx hE (by simp) (λk hk=>World.putObj_heap_other hk) ⟨rfl,rfl,rfl⟩ trivial
theorem IX (h:R T N aA w0 sp s a w E) {b:Frame} (hb:ju E b ro) {s':VS} (e:wC ro s=some s') {k:List Item} {cs:List Frame} :
  ∃ w',R T N aA w0 sp s' a w' E/\s'.sl=s.sl/\Steps P (lone (b.atR a (.beginRound::k)) cs w) (lone (b.atR a k) cs w'):=by
 unfold wC at e
 split at e
 case h_2=>simp at e
 rename_i r
 split at e
 case h_2=>simp at e
 rename_i g M sl ps as bd hr
 simp only [aw] at e
 subst e
 rw [cj] at hr
 obtain ⟨l,hd,sz,db,tm,h1,h2,h3,h4,h5⟩:=h.loop hr
 obtain ⟨l',dE,h6,sj,h7⟩:=hb
 rw [h1] at h7
 simp only [aw,bN] at h7
 obtain ⟨rfl,rfl,rfl⟩:=h7
 exact ⟨_,h.vc hr h1 h2 h3 h4 h5 .busy none,rfl,.one (stepR_beginRound h6 (run_beginRound h2 rfl))⟩
theorem Ix (h:R T N aA w0 sp s a w E) (hn:bT s.sl) (g:FuncId) (ps:List Tmp) (as bd:Code) :
  R T N aA w0 sp { s with rs:=s.rs++[.mi,.loop g N s.sl ps as bd .ready none],df:=s.rs.length::s.df } { a with defers:=[{ target:=.collected w.heap.size,args := #[] }]++a.defers }
   ((w.alloc (.deferred (some []))).alloc (.loop { state:=.ready,pending:=none,fn:=g,tmps:=a.tmps,params:=ps.toArray,assign:=as,body:=bd,defers:=w.heap.size }))
   ((E++[(some w.heap.size,mY,1)])++[(some (w.heap.size+1),mY,1)])/\bB ((E++[(some w.heap.size,mY,1)])++[(some (w.heap.size+1),mY,1)]) (s.rs.length+1) (w.heap.size+1) 1:=by
 let w1:=w.alloc (.deferred (some []))
 have hs1:w1.heap.size=w.heap.size+1:=World.size_alloc ..
 have hold1:∀ b,b<w.heap.size->w1.heap[b]?=w.heap[b]?:=λb hb=>(jo w _).block b hb
 have h1:=h.new (x:=.mi) (e:=(some w.heap.size,mY,1)) (w':=w1) hs1 hold1 (jo w _) rfl ⟨w.heap.size,rfl,World.alloc_heap_new w _⟩
 let o:=Obj.loop { state:=.ready,pending:=none,fn:=g,tmps:=a.tmps,params:=ps.toArray,assign:=as,body:=bd,defers:=w.heap.size }
 let w2:=w1.alloc o
 have hs2:w2.heap.size=w1.heap.size+1:=World.size_alloc ..
 have hold2:∀ b,b<w1.heap.size->w2.heap[b]?=w1.heap[b]?:=λb hb=>(jo w1 _).block b hb
 have hlen1:(E++[(some w.heap.size,mY,1)]).length=(s.rs++[ah.mi]).length:=h1.len
 have h2:=h1.new (x:=.loop g N s.sl ps as bd .ready none) (e:=(some w1.heap.size,mY,1)) (w':=w2) hs2 hold2 (jo w1 _) rfl ⟨w1.heap.size,w.heap.size,a.tmps,rfl,World.alloc_heap_new w1 _,h.size,by
  have Qv:iJ (E++[(some w.heap.size,mY,1)]) (AV aA (s.rs++[ah.mi]) (E++[(some w.heap.size,mY,1)])) w1 N s.sl a.tmps:=h1.slots
  refine Qv.mono (Env.ey _ _) ⟨by omega,λb hb _=>hold2 b hb⟩ ?_
  exact h1.au3,hn⟩
 have e1:s.rs++[ah.mi,.loop g N s.sl ps as bd .ready none]=(s.rs++[ah.mi])++[.loop g N s.sl ps as bd .ready none]:=by simp
 have hw1:w1.heap.size=w.heap.size+1:=hs1
 have jQ:∀ F:Env,bB ((E++[(some w.heap.size,mY,1)])++F) s.rs.length w.heap.size 1:=λF=>by
  refine ⟨mY,?_⟩
  grind
 rw [hw1] at h2
 refine ⟨?_,⟨mY,?_⟩⟩
 .rw [e1]
  exact ⟨h2.size,.cons ⟨w.heap.size,1,jQ _,rfl⟩ h2.defers,h2.spec,h2.below,h2.len,h2.outer,h2.roots,h2.dp,h2.dT,h2.slots,h2.gP⟩
 grind
theorem BL {g:Operand} {l:Nat} {ρ:Operand->Value} {fid:FuncId} {cs:Array Value} (hg:ρ g=.func (.func fid) #[] cs) (hv:ρ (.const (.func (.yield l) #[] #[]))=.func (.yield l) #[] #[]) (he:Enters P fid) (w:World) :
  ∃ d,(resolve ρ (rangeCall g l) 0).run P w=.ok d w/\(invoke d.target d.args).run P w=.ok (.enter fid (#[.func (.yield l) #[] #[]]++cs)) w:=by
 refine ⟨_,by simp [resolve,hg,Deferred.ofValue,Sem.run_pure]; rfl,?_⟩
 grind [invoke,C8]
end
open Go.RowKit
section
variable {P:Program} {T:ec} {lo:Lo} {hi:Hint} {N:Nat} {aA:Nat->Prop} {w0:Kp} {sp:List (D×Value)} {s:VS} {a:Act} {w:World} {E:Env} {f:FuncId} {ro:Option Nat}
theorem Jk (hl:iv T P lo) (h:R T N aA w0 sp s a w E) (hn:bT s.sl) {b:Frame} (KM:b.fn=f) (Jv:ju E b ro) {g:Operand} {ps:Array Tmp} {as bd:Code} {j:Option Code} {s':VS} (e:ru lo N f ro g ps.toList as bd s=some (j,s')) {k:List Item} {cs:List Frame} :
  ∃ a' w' E',Kept E E'/\R T N aA w0 sp s' a' w' E'/\s'.sl=s.sl/\Steps P (lone (b.atR a (.code (.rangeFunc g ps as bd)::k)) cs w) (lone (b.atR a' (Dd j k)) cs w'):=by
 unfold ru at e
 split at e
 .simp at e
 split at e
 case h_2=>simp at e
 rename_i c hc
 split at e
 case h_2=>simp at e
 rename_i hf eO LV
 split at e
 case h_2=>simp at e
 rename_i d0 aV xu
 have hbr:b.roundOf=none:=Jv
 obtain ⟨h2,jQ⟩:=Ix h hn f ps.toList as bd
 generalize hE2:((E++[(some w.heap.size,mY,1)])++[(some (w.heap.size+1),mY,1)]:Env)=E2 at h2 jQ
 generalize hw2:((w.alloc (.deferred (some []))).alloc (.loop { state:=.ready,pending:=none,fn:=f,tmps:=a.tmps,params:=ps.toList.toArray,assign:=as,body:=bd,defers:=w.heap.size }))=w2 at h2
 have hkE:Kept E E2:=by
  subst hE2
  refine ⟨(Env.ey _ _).trans (Env.ey _ _),λq hq=>?_⟩
  grind
 have hev:=h2.cF hn (cr hc)
 obtain ⟨cv,hfv,hcv⟩:=xv h2 LV hev
 obtain ⟨hen,hcon⟩:=hl.call _ _ _ _ _ xu
 have hfv':a.eval g=.func (.func hf) #[] cv:=hfv
 obtain ⟨dd,BX,hinv⟩:=BL (l:=w.heap.size+1) (ρ:=a.eval) hfv' rfl hen w2
 have henter:(Instr.enterLoop b.fn a.tmps ps as bd b.roundOf).run P w=.ok (w.heap.size+1,[{ target:=.collected w.heap.size,args := #[] }]) w2:=by
  rw [hbr,KM,<- hw2]
  exact run_enterLoop_outer _ _ _ _ _
 have hstep:=stepR_rangeFunc (k:=k) (cs:=cs) henter BX hinv
 have uF:aF (bj E2 (AV aA (s.rs++[ah.mi,.loop f N s.sl ps.toList as bd .ready Option.none]) E2) w2) (.c (.yl (s.rs.length+1))::eO) (.func (.yield (w.heap.size+1)) #[] #[]::cv.toList):=
  .cons ⟨_,_,jQ,rfl⟩ hcv
 have xG:((Value.func (.yield (w.heap.size+1)) #[] #[]::cv.toList:List Value)).toArray = #[.func (.yield (w.heap.size+1)) #[] #[]]++cv:=by
  apply Array.ext'; simp
 obtain ⟨en,w3,fr,⟨v,E3,rfl,hk3,hR3,_⟩,hcomes,hfr,hleave⟩:=hcon N aA w0 sp s.sl (s.rs.length::s.df) _ w2 E2 _ h2 uF (b.atR { a with defers:=[{ target:=.collected w.heap.size,args := #[] }]++a.defers } (.inRangeFunc (w.heap.size+1)::k)::cs)
 rw [xG] at hcomes
 have hsteps:Steps P (lone (b.atR a (.code (.rangeFunc g ps as bd)::k)) cs w) (lone (b.atR { a with defers:=[{ target:=.collected w.heap.size,args := #[] }]++a.defers } (.endRangeFunc (w.heap.size+1)::k)) cs w3):=by
  refine (Steps.one hstep).trans (Steps.trans hcomes (.one ?_))
  rw [<- finish_atR_inRangeFunc (w.heap.size+1) v]
  exact step_leave_returned hleave
 have fin:∀ (st:LoopState) (fP:Option Code) (g':FuncId) (M:Nat) (gB:a8) (ps':List Tmp) (Yk Xo:Code),st ≠ .busy->bh aV (s.rs.length+1)=some (.loop g' M gB ps' Yk Xo st fP)->
   ∃ a' w' E',Kept E E'/\R T N aA w0 sp { s with rs:=setAt aV (s.rs.length+1) .dead,df:=s.rs.length::s.df } a' w' E'/\Steps P (lone (b.atR a (.code (.rangeFunc g ps as bd)::k)) cs w) (lone (b.atR a' (Dd fP k)) cs w'):=by
  intro st fP g' M gB ps' Yk Xo ny hr
  rw [cj] at hr
  obtain ⟨l,hd,sz,db,tm,h1,h3,h4,h5,h6⟩:=hR3.loop hr
  obtain ⟨sj,h7⟩:=hk3.le.at_ jQ
  rw [h1] at h7
  simp only [aw,bN] at h7
  obtain ⟨rfl,rfl,rfl⟩:=h7
  refine ⟨_,_,E3,hkE.trans hk3,hR3.kill hr trivial h1 (.loop { state:=.exhausted,pending:=fP,fn:=g',tmps:=tm,params:=ps'.toArray,assign:=Yk,body:=Xo,defers:=db }),hsteps.trans (.one ?_)⟩
  have:=stepR_endRangeFunc (P:=P) (b:=b) (a:={ a with defers:=[{ target:=.collected w.heap.size,args := #[] }]++a.defers }) (k:=k) (cs:=cs) (run_endLoop h3 ny)
  rw [this]
  cases fP<;>rfl
 grind
theorem ta (bZ:dU P T) (hl:iv T P lo) (Gs:P.follows .mixedOrders=true) {b:Frame} (KM:b.fn=f) {cs:List Frame} {j:Option Code} {s':VS} :
  ∀ (n:Nat) {todo:List Item} {s:VS} {a:Act} {w:World} {E:Env},BK T lo hi N f ro n todo s=some (j,s')->R T N aA w0 sp s a w E->bT s.sl->ju E b ro->
   ∃ a' w' E' dN,Kept E E'/\R T N aA w0 sp s' a' w' E'/\bT s'.sl/\w7 j dN/\Steps P (lone (b.atR a todo) cs w) (lone (b.atR a' dN) cs w')
 | 0,todo,s,a,w,E,e,h,hn,Jv=>by
   have e:(none:Option (Option Code×VS))=some (j,s'):=e
   simp at e
 | n+1,todo,s,a,w,E,e,h,hn,Jv=>by
   have go:∀ {fQ:List Item} {s1:VS} {a1:Act} {w1:World} {E1:Env},BK T lo hi N f ro n fQ s1=some (j,s')->Kept E E1->R T N aA w0 sp s1 a1 w1 E1->bT s1.sl->Steps P (lone (b.atR a todo) cs w) (lone (b.atR a1 fQ) cs w1)->
     ∃ a' w' E' dN,Kept E E'/\R T N aA w0 sp s' a' w' E'/\bT s'.sl/\w7 j dN/\Steps P (lone (b.atR a todo) cs w) (lone (b.atR a' dN) cs w'):=by
    intro fQ s1 a1 w1 E1 e1 hk h1 hn1 ny
    obtain ⟨a',w',E',dN,q1,q2,q3,q4,q5⟩:=ta bZ hl Gs KM n e1 h1 hn1 (Jv.mono hk.le)
    exact ⟨a',w',E',dN,hk.trans q1,q2,q3,q4,ny.trans q5⟩
   have stop:∀ {fQ:List Item} {c:Option Code},some (c,s)=some (j,s')->w7 c todo->∃ a' w' E' dN,Kept E E'/\R T N aA w0 sp s' a' w' E'/\bT s'.sl/\w7 j dN/\Steps P (lone (b.atR a todo) cs w) (lone (b.atR a' dN) cs w'):=by
    intro fQ c e1 he
    simp only [aw,bN] at e1
    obtain ⟨rfl,rfl⟩:=e1
    exact ⟨a,w,E,todo,Kept.refl E,h,hn,he,Steps.refl _ _⟩
   cases todo with
   | nil=>exact stop (fQ:=[]) e rfl
   | cons x k=>
     cases x with
     | inBlock id=>exact go (fQ:=k) (s1:=s) e (Kept.refl E) h hn (.one stepR_inBlock)
     | inLoop c=>exact go (fQ:=.code c::.inLoop c::k) (s1:=s) e (Kept.refl E) h hn (.one stepR_inLoop)
     | beginRound=>
       have e:(match wC ro s with
        | some s'=>BK T lo hi N f ro n k s'
        | none=>none)=some (j,s'):=e
       split at e
       case h_2=>simp at e
       rename_i s1 hs1
       obtain ⟨w',h1,h2,h3⟩:=IX h Jv hs1
       exact go e (Kept.refl E) h1 (by rw [h2]; exact hn) h3
     | code c=>
       cases c with
       | skip=>exact go (fQ:=k) (s1:=s) e (Kept.refl E) h hn (.one stepR_skip)
       | label l=>exact go (fQ:=k) (s1:=s) e (Kept.refl E) h hn (.one stepR_label)
       | ret=>exact stop (fQ:=[]) (c:=some .ret) e (.inl ⟨k,rfl,rfl⟩)
       | seq x y=>exact go (fQ:=.code x::.code y::k) (s1:=s) e (Kept.refl E) h hn (.one stepR_seq)
       | cond c x y=>
         have e:(match jU (cF s.sl c) with
          | some p=>BK T lo hi N f ro n (.code (Bool.rec y x p)::k) s
          | none=>none)=some (j,s'):=e
         split at e
         case h_2=>simp at e
         rename_i p hp
         have hv:a.eval c=.bool p:=(h.cF hn (fh hp)).1
         refine go e (Kept.refl E) h hn ?_
         have:=Steps.one (stepR_cond (P:=P) (b:=b) (k:=k) (cs:=cs) (w:=w) (x:=x) (y:=y) hv)
         cases p<;>exact this
       | block id c=>exact go (fQ:=.code c::.inBlock id::k) (s1:=s) e (Kept.refl E) h hn (.one stepR_block)
       | loop c=>exact go (fQ:=.code c::.inLoop c::k) (s1:=s) e (Kept.refl E) h hn (.one stepR_loop)
       | exit id=>
         have e:(match exitTo id k with
          | some k'=>BK T lo hi N f ro n k' s
          | none=>some (some (.exit id),s))=some (j,s'):=e
         split at e
         .rename_i k' qD
          exact go e (Kept.refl E) h hn (.one (stepR_exit qD))
         .rename_i qD
          exact stop (fQ:=[]) e (.inr ⟨id,k,rfl,rfl,qD⟩)
       | region id ops draw=>
         have e0:(match regionF T lo hi N f ro id ops.toList draw s with
          | some s'=>BK T lo hi N f ro n k s'
          | none=>none)=some (j,s'):=e
         clear e
         cases hs1:regionF T lo hi N f ro id ops.toList draw s with
         | none=>grind
         | some s1=>
         rw [hs1] at e0
         have e:BK T lo hi N f ro n k s1=some (j,s'):=e0
         clear e0
         cases draw with
         | false=>
           obtain ⟨a',w',E',q1,q2,q3,q4⟩:=zn (b:=b) (k:=k) (cs:=cs) bZ hl h hn hs1
           exact go e q1 q2 q3 q4
         | true=>
           obtain ⟨a',w',E',q1,q2,q3,q4⟩:=HO (b:=b) (k:=k) (cs:=cs) bZ hl Gs h hn hs1
           exact go e q1 q2 q3 q4
       | rangeFunc g ps as bd=>
         have e:(match ru lo N f ro g ps.toList as bd s with
          | some (j,s')=>BK T lo hi N f ro n (Dd j k) s'
          | none=>none)=some (j,s'):=e
         split at e
         case h_2=>simp at e
         rename_i j1 s1 hs1
         obtain ⟨a',w',E',q1,q2,q3,q4⟩:=Jk (k:=k) (cs:=cs) hl h hn KM Jv hs1
         grind
       | _=>
         have e:(none:Option (Option Code×VS))=some (j,s'):=e
         simp at e
     | _=>
       have e:(none:Option (Option Code×VS))=some (j,s'):=e
       simp at e
end
open Go.RowKit
section
variable {P:Program} {T:ec} {lo:Lo} {hi:Hint} {N:Nat} {aA:Nat->Prop} {w0:Kp} {sp:List (D×Value)} {s:VS} {a:Act} {w:World} {E:Env} {f:FuncId} {ro:Option Nat}
def T9 (E:Env) (av:Nat->Prop) (w:World) (x:Bool×List C) (y:Value):Prop:=match x with
 | (true,l)=>∃ cs:Array Value,y=.agg cs/\aF (bp E av w) l cs.toList
 | (false,l)=>∃ c,l=[c]/\bp E av w c y
def tf (tmps:Array Value):ResultVar->Sem Value
 | .tmp t=>pure (tmps.getD t undef)
 | .cell a t=>do loadVar t (<- asAddr (tmps.getD a undef))
theorem D9 (bZ:dU P T) (h:R T N aA w0 sp s a w E) {x:ResultVar} {p:Option Prop} {q:Bool×List C} (e:tk T s x=some (p,q)) (hp:need p) :
  ∃ v,(tf a.tmps x).run P w=.ok v w/\T9 E (AV aA s.rs E) w q v:=by
 have nil:bP a []:=λp hp=>by cases hp
 cases x with
 | tmp t=>
   simp only [tk] at e
   split at e
   .rename_i x hx
    have hx:=h.ev nil hx
    simp only [aw,bN] at e
    obtain ⟨rfl,rfl⟩:=e
    exact ⟨_,rfl,x,rfl,hx⟩
   .rename_i l hx
    obtain ⟨cs,hv,hl⟩:=h.ev nil hx
    simp only [aw,bN] at e
    obtain ⟨rfl,rfl⟩:=e
    exact ⟨_,rfl,cs,hv,hl⟩
   .simp at e
 | cell ad t=>
   simp only [tk] at e
   have run:∀ v,(Instr.loadAt t (a.eval (.tmp ad))).run P w=.ok v w->(tf a.tmps (.cell ad t)).run P w=.ok v w:=by
    intro v hv
    have he:a.eval (.tmp ad)=a.tmps.getD ad undef:=rfl
    rw [he] at hv
    unfold tf
    cases hu:a.tmps.getD ad undef<;>rw [hu] at hv<;>simp [Instr.loadAt,Instr.sureAddr,stuck] at hv
    rename_i oa
    cases oa with
    | none=>simp at hv
    | some x=>
      simp only [hu,asAddr,Sem.run_bind]
      exact hv
   split at e
   .rename_i p' x hx
    simp only [aw,bN] at e
    obtain ⟨rfl,rfl⟩:=e
    obtain ⟨v,h1,h2⟩:=tg bZ h nil hx hp
    exact ⟨v,run v (h1 w (Below.refl _ _)),x,rfl,h2⟩
   .rename_i p' l hx
    simp only [aw,bN] at e
    obtain ⟨rfl,rfl⟩:=e
    obtain ⟨v,h1,cs,h2,h3⟩:=tg bZ h nil hx hp
    exact ⟨v,run v (h1 w (Below.refl _ _)),cs,h2,h3⟩
   .simp at e
theorem ll (bZ:dU P T) (h:R T N aA w0 sp s a w E):∀ {rs:List ResultVar} {p:Option Prop} {l:List (Bool×List C)},sL T s rs=some (p,l)->need p->
  ∃ vs,(rs.mapM (tf a.tmps)).run P w=.ok vs w/\aF (T9 E (AV aA s.rs E) w) l vs
 | [],p,l,e,hp=>by
   simp only [sL,aw,bN] at e
   obtain ⟨rfl,rfl⟩:=e
   exact ⟨[],rfl,.nil⟩
 | x::rs,p,l,e,hp=>by
   simp only [sL] at e
   split at e
   .rename_i p1 q p2 l' h1 h2
    simp only [aw,bN] at e
    obtain ⟨rfl,rfl⟩:=e
    have hp':need p1/\need p2:=by
     cases p1<;>cases p2<;>simp_all [Mu,need]
    obtain ⟨v,h3,h4⟩:=D9 bZ h h1 hp'.1
    obtain ⟨vs,h5,h6⟩:=ll bZ h h2 hp'.2
    refine ⟨v::vs,?_,.cons h4 h6⟩
    simp_all
   .simp at e
theorem nu (bZ:dU P T) (h:R T N aA w0 sp s a w E) {fn:Func} {p:Option Prop} {d:D} (e:ae1 T s fn.results.toList=some (p,d)) (hp:need p) :
  ∃ v,(results fn a.tmps).run P w=.ok v w/\bj E (AV aA s.rs E) w d v:=by
 have run:∀ vs,(fn.results.toList.mapM (tf a.tmps)).run P w=.ok vs w->(results fn a.tmps).run P w=.ok (if h:vs.toArray.size=1 then vs.toArray[0] else .tuple vs.toArray) w:=by
  intro vs xG
  have hm:(fn.results.mapM (tf a.tmps)).run P w=.ok vs.toArray w:=by
   have hgs:fn.results=fn.results.toList.toArray:=rfl
   rw [hgs,List.mapM_toArray]
   simp only [Sem.run_map,xG,Result.andThen_ok]
  show ((do let vs <- fn.results.mapM (tf a.tmps); pure (if h:vs.size=1 then vs[0] else .tuple vs)):Sem Value).run P w=_
  simp_all
 unfold ae1 at e
 split at e
 .rename_i p' x hx
  simp only [aw,bN] at e
  obtain ⟨rfl,rfl⟩:=e
  obtain ⟨vs,h1,h2⟩:=ll bZ h hx hp
  cases h2 with
  | cons q1 q2=>
    cases q2
    obtain ⟨c,hc,q⟩:=q1
    simp only [List.cons.injEq,and_true] at hc
    subst hc
    exact ⟨_,run _ h1,q⟩
 .rename_i p' l hx
  simp only [aw,bN] at e
  obtain ⟨rfl,rfl⟩:=e
  obtain ⟨vs,h1,h2⟩:=ll bZ h hx hp
  cases h2 with
  | cons q1 q2=>cases q2; exact ⟨_,run _ h1,q1⟩
 .rename_i p' l hne1 hne2 hx
  simp only [aw,bN] at e
  obtain ⟨rfl,rfl⟩:=e
  obtain ⟨vs,h1,h2⟩:=ll bZ h hx hp
  refine ⟨_,run vs h1,?_⟩
  have hlen:vs.length≠1:=by
   intro hl
   have:=h2.length
   rw [hl] at this
   match l,this with
   | [(true,l)],_=>exact hne2 _ rfl
   | [(false,k)],_=>
     cases h2 with
     | cons q1 q2=>
       obtain ⟨c,hc,_⟩:=q1
       exact hne1 _ (by rw [hc])
  rw [dif_neg (by simpa using hlen)]
  exact ⟨_,rfl,h2⟩
 .simp at e
theorem nh:∀ {ds:List D} {k t:Nat} {d:D} {c:fj},look (dF k ds) t=some (d,c)->c=[]/\k<=t/\ds[t-k]?=some d
 | [],k,t,d,c,h=>by simp [dF,look] at h
 | x::ds,k,t,d,c,h=>by
   simp only [dF,look] at h
   split at h
   .simp_all
   .obtain ⟨h1,h2,h3⟩:=nh h
    grind
theorem lk:∀ {ds:List D} {k:Nat},bT (dF k ds)
 | [],k,x,hx=>by simp [dF] at hx
 | d::ds,k,x,hx=>by
   simp only [dF] at hx
   rcases List.mem_cons.1 hx with rfl|hx
   .rfl
   .exact lk x hx
theorem G5 (hn:bT s.sl) {x:ResultVar} {q:Bool×List C} (e:yC T s x=some q):∃ p,tk T s x=some (p,q)/\need p:=by
 unfold yC at e
 cases x with
 | tmp t=>
   simp only at e
   simp only [tk]
   split at e
   .rename_i c hc
    have:s.ev [] (.tmp t)=some (.c c):=dW (x:=.tmp t) hn hc
    rw [this]
    simp only [aw] at e
    subst e; exact ⟨_,rfl,trivial⟩
   .rename_i l hc
    have:s.ev [] (.tmp t)=some (.a l):=dW (x:=.tmp t) hn hc
    rw [this]
    simp only [aw] at e
    subst e; exact ⟨_,rfl,trivial⟩
   .simp at e
 | cell ad t=>
   grind [tk,AM]
theorem xl (hn:bT s.sl):∀ {l:List ResultVar} {q:List (Bool×List C)},Fj T s l=some q->∃ p,sL T s l=some (p,q)/\need p
 | [],q,e=>by
   have e:some []=some q:=e
   simp only [aw] at e
   subst e; exact ⟨_,rfl,trivial⟩
 | x::l,q,e=>by
   have e:(match yC T s x,Fj T s l with
    | some q,some l=>some (q::l)
    | _,_=>none)=some q:=e
   split at e
   case h_2=>simp at e
   rename_i h1 h2
   simp only [aw] at e
   subst e
   obtain ⟨p1,k1,k2⟩:=G5 hn h1
   obtain ⟨p2,k3,k4⟩:=xl hn h2
   refine ⟨Mu p1 p2,by simp only [sL,k1,k3],?_⟩
   cases p1<;>cases p2<;>simp_all [Mu,need]
theorem Lf (hn:bT s.sl) {l:List ResultVar} {d:D} (e:as4 T s l=some d):∃ p,ae1 T s l=some (p,d)/\need p:=by
 grind [as4,ae1,xl]
open Classical in
noncomputable def pU (sl:a8) (a:Act):List (D×Value):=sl.filterMap λx=>if look sl x.1=some x.2/\bP a x.2.2 then some (x.2.1,a.tmps.getD x.1 undef) else none
theorem Ia:∀ {sl:a8} {t:Tmp} {x:D×fj},look sl t=some x->(t,x)∈sl
 | [],t,x,h=>by simp [look] at h
 | (k,d,c)::sl,t,x,h=>by
   simp only [look] at h
   split at h
   .simp_all
   .exact gJ _ (Ia h)
theorem Rs {sl:a8} {t:Tmp} {d:D} {c:fj} (hl:look sl t=some (d,c)) (hc:bP a c):(d,a.tmps.getD t undef)∈pU sl a:=by
 unfold pU
 rw [List.mem_filterMap]
 refine ⟨(t,d,c),Ia hl,?_⟩
 rw [if_pos ⟨hl,hc⟩]
theorem Tq (h:R T N aA w0 sp s a w E):∀ x∈pU s.sl a,bj E (AV aA s.rs E) w x.1 x.2:=by
 intro x hx
 unfold pU at hx
 rw [List.mem_filterMap] at hx
 obtain ⟨⟨t,d,c⟩,h1,h2⟩:=hx
 split at h2
 .rename_i h3
  simp only [aw] at h2
  subst h2
  exact (h.slots t d c h3.1).2.1 h3.2
 .simp at h2
theorem R.E4 {sl:a8} {rs:List ah} {df:List Nat} (h:R T N aA w0 sp ⟨sl,rs,df⟩ a w E) {M:Nat} {CE:a8} {tm:Array Value} (hM:tm.size=M)
  (hs:iJ E (AV aA rs E) w M CE tm):R T M aA w0 (pU sl a++sp) ⟨CE,rs,[]⟩ { tmps:=tm,defers:=[] } w E:=
 ⟨hM,.nil,λx hx=>(List.mem_append.1 hx).elim (λq=>Tq h x q) (h.spec x),h.below,h.len,h.outer,h.roots,h.dp,h.dT,hs,h.gP⟩
theorem R.back {sl:a8} {rs:List ah} {df:List Nat} (h:R T N aA w0 sp ⟨sl,rs,df⟩ a w E) {M:Nat} {s':VS} {a':Act} {w':World} {E':Env} (h':R T M aA w0 (pU sl a++sp) s' a' w' E') (hE:Env.le E E') :
  R T N aA w0 sp ⟨sl,s'.rs,df⟩ a w' E' :=
 ⟨h.size,h.defers.mono λ_ _ ⟨b,sz,q,e⟩=>⟨b,sz,hE.at_ q,e⟩,λx hx=>h'.spec x (List.mem_append_right _ hx),h'.below,h'.len,h'.outer,h'.roots,h'.dp,h'.dT,λt d c hl=>
  ⟨(h.slots t d c hl).1,λhc=>h'.spec _ (List.mem_append_left _ (Rs hl hc)),(h.slots t d c hl).2.2⟩,h'.gP⟩
theorem ui {cs:List Frame}:∀ (l:List Nat) {sl:a8} {rs fB:List ah} {a:Act} {w:World} {fr:Frame},Sk l rs=some fB->R T N aA w0 sp ⟨sl,rs,l⟩ a w E->fr.mode=.returning->fr.defers=a.defers->
  ∃ w',R T N aA w0 sp ⟨sl,fB,[]⟩ { a with defers:=[] } w' E/\Steps P (lone fr cs w) (lone { fr with defers:=[] } cs w')
 | [],sl,rs,fB,a,w,fr,e,h,hm,hd=>by
   have e:some rs=some fB:=e
   simp only [aw] at e
   subst e
   have te:a.defers=[]:=by
    have:=h.defers
    generalize a.defers=l at this
    cases this; rfl
   have ha:({ a with defers:=[] }:Act)=a:=by rw [<- te]
   have hf:({ fr with defers:=[] }:Frame)=fr:=by rw [<- te,<- hd]
   rw [ha,hf]
   exact ⟨w,h,Steps.refl _ _⟩
 | r::l,sl,rs,fB,a,w,fr,e,h,hm,hd=>by
   have e:(match bh rs r with
    | some .mi=>Sk l (setAt rs r .dead)
    | _=>none)=some fB:=e
   split at e
   case h_2=>simp at e
   rename_i hr
   rw [cj] at hr
   have US:=h.defers
   generalize hads:a.defers=ads at US
   cases US with
   | cons h1 h2=>
     rename_i d ds
     obtain ⟨b,sz,⟨sj,hE⟩,rfl⟩:=h1
     obtain ⟨b',h3,h4⟩:=h.roots r _ _ hr hE
     have h3:some b=some b':=h3
     simp only [aw] at h3
     subst h3
     have hk:=h.kill hr trivial hE (.deferred none)
     have hR:R T N aA w0 sp ⟨sl,setAt rs r .dead,l⟩ { a with defers:=ds } (w.putObj b (.deferred none)) E:=
      ⟨hk.size,h2,hk.spec,hk.below,hk.len,hk.outer,hk.roots,hk.dp,hk.dT,hk.slots,hk.gP⟩
     have ny:=step_collected (P:=P) (cs:=cs) (fr:=fr) (by rw [hm]; simp) (hd.trans hads) rfl (run_takeDeferred h4)
     obtain ⟨w',q1,q2⟩:=ui l (fr:={ fr with defers:=[]++ds }) e hR hm rfl
     exact ⟨w',q1,(Steps.one ny).trans q2⟩
def M2 (P:Program) (F:FuncId->Option Func):Prop:=∀ f fn,F f=some fn->P.funcs[f]?=some fn/\(fn.name == "runtime.NumGoroutine")=false
theorem Jb (bZ:dU P T) (Gs:P.follows .mixedOrders=true) {F:FuncId->Option Func} (hF:M2 P F) (hl:iv T P lo) {fuel:Nat} {ds:List D} {rs aV:List ah} {d:D} (e:Vf T hi F fuel lo f ds rs=some (d,aV)) :
  Enters P f/\∀ (N:Nat) (aA:Nat->Prop) (w0:Kp) (sp:List (D×Value)) (sl:a8) (df:List Nat) (a:Act) (w:World) (E:Env) (vs:List Value),R T N aA w0 sp ⟨sl,rs,df⟩ a w E->aF (bj E (AV aA rs E) w) ds vs->
  Go.Calls P f vs.toArray w λe w'=>∃ v E',e=.returned v/\Kept E E'/\R T N aA w0 sp ⟨sl,aV,df⟩ a w' E'/\bj E' (AV aA aV E') w' d v:=by
 unfold Vf at e
 split at e
 case h_2=>simp at e
 rename_i fn hfn
 split at e
 case h_2=>simp at e
 rename_i c hc
 obtain ⟨hlen,e⟩:=Bool.ay e
 have hlen:=eN hlen
 split at e
 case h_2=>simp at e
 rename_i j s hrun
 obtain ⟨hret,e⟩:=Bool.ay e
 unfold Sw at e
 split at e
 case h_2=>simp at e
 rename_i fB htake
 split at e
 case h_2=>simp at e
 rename_i d1 BX
 simp only [aw,bN] at e
 obtain ⟨rfl,rfl⟩:=e
 obtain ⟨hf,qc⟩:=hF f fn hfn
 refine ⟨⟨fn,hf,qc,by simp [hc]⟩,?_⟩
 intro N aA w0 sp sl df a w E vs h hv cs
 let b:Frame:={ (default:Frame) with fn:=f,kind:=.normal,roundOf:=none }
 let tm:=vs.toArray++Array.replicate (fn.ntmps-vs.toArray.size) undef
 have hvl:=hv.length
 have henter:Frame.enter P f vs.toArray .normal=b.atR { tmps:=tm,defers:=[] } [.code c]:=by
  simp [Frame.enter,Frame.atR,hf,hc,b,tm]
 have htm:tm.size=fn.ntmps:=by grind
 have hR:=h.E4 (M:=fn.ntmps) (CE:=dF 0 ds) (tm:=tm) htm (λt d' c' hl=>by
  obtain ⟨rfl,_,h2⟩:=nh hl
  simp only [Nat.sub_zero] at h2
  have ht:t<ds.length:=(List.getElem?_eq_some_iff.1 h2).1
  obtain ⟨v,h3,h4⟩:=hv.nth (i:=t) (x:=d') (by rw [bz]; exact h2)
  refine ⟨Nat.lt_of_lt_of_le ht hlen,λ_=>?_,λq=>(q λp hp=>by cases hp).elim⟩
  have hg:tm.getD t undef=v:=by
   have htv:t<vs.length:=by rw [<- hvl]; exact ht
   have:vs[t]?=some v:=h3
   simp only [tm]
   rw [Array.getD_eq_getD_getElem?,Array.getElem?_append_left (by simpa using htv)]
   simp [this]
  rw [hg]
  exact h4)
 obtain ⟨a',w1,E',dN,hk,we,zd,hend,hsteps⟩:=ta (hi:=hi) (ro:=none) (b:=b) (cs:=cs) bZ hl Gs rfl fuel hrun hR lk rfl
 have hback:Steps P (lone (b.atR a' dN) cs w1) (lone { b.atR a' dN with mode:=.returning } cs w1):=by
  cases j with
  | none=>
    have hend:dN=[]:=hend
    subst hend
    exact .one (stepR_end rfl)
  | some c' =>
    rcases hend with ⟨k,rfl,rfl⟩|⟨id,k,rfl,_,_⟩
    .exact .one (stepR_ret rfl)
    .simp [Vh] at hret
 have hR'':R T fn.ntmps aA w0 (pU sl a++sp) ⟨s.sl,s.rs,s.df⟩ a' w1 E':=we
 obtain ⟨w2,hR2,hst2⟩:=ui (P:=P) (cs:=cs) s.df (fr:={ b.atR a' dN with mode:=.returning }) htake hR'' rfl rfl
 obtain ⟨pr,hpr1,hpr2⟩:=Lf (s:=⟨s.sl,fB,[]⟩) zd BX
 obtain ⟨v,hrv,hdv⟩:=nu bZ hR2 hpr1 hpr2
 refine ⟨.returned v,w2,{ { b.atR a' dN with mode:=.returning } with defers:=[] },⟨v,E',rfl,hk,h.back hR2 hk.le,hdv⟩,?_,rfl,rfl,rfl,rfl,fn,hf,hrv⟩
 rw [henter]
 exact (hsteps.trans hback).trans hst2
theorem IF (bZ:dU P T) (Gs:P.follows .mixedOrders=true) {F:FuncId->Option Func} (hF:M2 P F) {Kn:FuncId->Option D} (hKn:∀ f d,Kn f=some d->Enters P f/\Hc T P f [] d) (hl:iv T P lo) {fuel:Nat} {ds:List D} {rs aV:List ah} {d:D}
  (e:Wi T hi F Kn fuel lo f ds rs=some (d,aV)) :
  Enters P f/\∀ (N:Nat) (aA:Nat->Prop) (w0:Kp) (sp:List (D×Value)) (sl:a8) (df:List Nat) (a:Act) (w:World) (E:Env) (vs:List Value),R T N aA w0 sp ⟨sl,rs,df⟩ a w E->aF (bj E (AV aA rs E) w) ds vs->
  Go.Calls P f vs.toArray w λe w'=>∃ v E',e=.returned v/\Kept E E'/\R T N aA w0 sp ⟨sl,aV,df⟩ a w' E'/\bj E' (AV aA aV E') w' d v:=by
 unfold Wi at e
 split at e
 .rename_i d0 hd0
  split at e
  case h_2=>simp at e
  simp only [aw,bN] at e
  obtain ⟨rfl,rfl⟩:=e
  obtain ⟨h1,h2⟩:=hKn f _ hd0
  refine ⟨h1,?_⟩
  intro N aA w0 sp sl df a w E vs h hv
  cases hv
  have avlt:∀ b,AV aA rs E b->b<w.heap.size:=by
   rintro b (q|⟨r,x,sz,q1,q2,q3⟩)
   .exact h.kr q
   .exact (h.dp r x b sz q1 q2 q3).2
  refine (h2 (AV aA rs E) w [] avlt h.gP .nil).mono ?_
  rintro en w' ⟨v,rfl,hd,hb⟩
  exact ⟨v,E,rfl,Kept.refl E,h.grown hb,bj.mono (λr e q=>by simp at q) (bl.refl _ w') (λb _ q=>q) hd⟩
 .exact Jb bZ Gs hF hl e
theorem Lc {rs:List ah} {tms:Array Value->Array Value}:∀ {ps:List Tmp} {ds:List D} {vs:List Value} {sl gB:a8} {tm:Array Value},Pp N ps ds sl=some gB->R T N aA w0 sp ⟨sl,rs,[]⟩ { tmps:=tm,defers:=[] } w E->bT sl->
  aF (bj E (AV aA rs E) w) ds vs->ps.length=vs.length/\R T N aA w0 sp ⟨gB,rs,[]⟩ { tmps:=(ps.zip vs).foldl (λtmps x=>tmps.setIfInBounds x.1 x.2) tm,defers:=[] } w E/\bT gB
 | [],[],vs,sl,gB,tm,e,h,hn,hv=>by
   have e:some sl=some gB:=e
   simp only [aw] at e
   subst e
   cases hv
   exact ⟨rfl,h,hn⟩
 | [],d::ds,vs,sl,gB,tm,e,h,hn,hv=>by
   have e:(none:Option a8)=some gB:=e
   simp at e
 | t::ps,[],vs,sl,gB,tm,e,h,hn,hv=>by
   have e:(none:Option a8)=some gB:=e
   simp at e
 | t::ps,d::ds,vs,sl,gB,tm,e,h,hn,hv=>by
   obtain ⟨ht,e⟩:=Bool.ay (show (Bool.rec none (Pp N ps ds ((t,d,[])::sl)) (Nat.blt t N):Option a8)=some gB from e)
   cases hv with
   | cons q k=>
     rename_i v vs
     have hp:tD N ⟨sl,rs,[]⟩ (some t) d=some ⟨(t,d,[])::sl,rs,[]⟩:=by
      unfold tD; simp only [ht]
     obtain ⟨h1,h2⟩:=sY h hn hp q
     obtain ⟨h3,h4,h5⟩:=Lc (tms:=tms) e h1 h2 k
     simp_all
theorem Ma (bZ:dU P T) (Gs:P.follows .mixedOrders=true) (hl:iv T P lo) {fuel r:Nat} {ds:List D} {rs aV:List ah} {d:D} (e:aG8 T hi fuel lo r ds rs=some (d,aV)) :
  ∀ (N:Nat) (aA:Nat->Prop) (w0:Kp) (sp:List (D×Value)) (sl:a8) (df:List Nat) (a:Act) (w:World) (E:Env) (vs:List Value),R T N aA w0 sp ⟨sl,rs,df⟩ a w E->aF (bj E (AV aA rs E) w) ds vs->
  ∃ b sz f tm as bd,bB E r b sz/\(Instr.yield b vs.toArray).run P w=.ok (.round b f tm as bd) w/\
   BC P b f tm as bd w λv w'=>∃ E',Kept E E'/\R T N aA w0 sp ⟨sl,aV,df⟩ a w' E'/\bj E' (AV aA aV E') w' d v:=by
 intro N aA w0 sp sl df a w E vs h hv
 unfold aG8 at e
 split at e
 case h_2=>simp at e
 rename_i g M yF ps as bd hr
 split at e
 case h_2=>simp at e
 rename_i CE LX
 split at e
 case h_2=>simp at e
 rename_i j s hrun
 rw [cj] at hr
 obtain ⟨l,hd,sz,db,tm,h1,h2,h3,h4,h5⟩:=h.loop hr
 have hR:=h.E4 (M:=M) (CE:=yF) (tm:=tm) h3 h4
 obtain ⟨hlen,hR1,hn1⟩:=Lc (tms:=id) LX hR h5 hv
 have hy:=run_yield (P:=P) (args:=vs.toArray) h2 (by simp [hlen])
 refine ⟨l,sz,g,_,as,bd,⟨hd,h1⟩,hy,?_⟩
 have htm:(Array.foldl (λtmps x=>match x with
   | (t,a)=>tmps.setIfInBounds t a) tm (ps.toArray.zip vs.toArray))=(ps.zip vs).foldl (λtmps x=>tmps.setIfInBounds x.1 x.2) tm:=by
  simp
 intro c cs
 simp only at htm ⊢
 rw [htm]
 let b:Frame:={ (default:Frame) with fn:=g,kind:=.normal,roundOf:=some l }
 have hb0:∀ tm,Frame.round l g tm as bd .normal=b.atR { tmps:=tm,defers:=[] } [.code as,.beginRound,.code bd]:=λtm=>by
  rfl
 rw [hb0]
 obtain ⟨a',w1,E',dN,hk,we,zd,hend,hsteps⟩:=ta (hi:=hi) (ro:=some r) (b:=b) (cs:=c::cs) bZ hl Gs rfl fuel hrun hR1 hn1 ⟨l,sz,rfl,hd,h1⟩
 unfold FB at e
 split at e
 case h_2=>simp at e
 split at e
 case h_2=>simp at e
 rename_i g' M' gB ps' Yk Xo ZR
 rw [cj] at ZR
 obtain ⟨l',sj,dE,db',tm',q1,q2,q3,q4,q5⟩:=we.loop ZR
 obtain ⟨K,hE',_⟩:=hk.le r _ h1 (fG.M7 rfl)
 rw [hE'] at q1
 simp only [fG.wk,aw,bN] at q1
 obtain ⟨rfl,rfl,rfl⟩:=q1
 cases j with
 | none=>
   simp only [aw,bN] at e
   obtain ⟨rfl,rfl⟩:=e
   have hend:dN=[]:=hend
   subst hend
   exact ⟨.bool true,_,⟨E',hk,h.back (we.vc ZR hE' q2 q3 q4 q5 .ready none) hk.le,rfl,rfl⟩,hsteps.trans (.one (stepR_round_end rfl rfl (run_endRound none q2)))⟩
 | some c' =>
   simp only [aw,bN] at e
   obtain ⟨rfl,rfl⟩:=e
   refine ⟨.bool false,_,⟨E',hk,h.back (we.vc ZR hE' q2 q3 q4 q5 .done (some c')) hk.le,rfl,rfl⟩,hsteps.trans (.one ?_)⟩
   rcases hend with ⟨k,rfl,rfl⟩|⟨id,k,rfl,rfl,hx⟩
   .exact stepR_round_ret rfl rfl (run_endRound (some .ret) q2)
   .exact stepR_round_exit rfl rfl hx (run_endRound (some (.exit id)) q2)
theorem vV (bZ:dU P T) (Gs:P.follows .mixedOrders=true) {F:FuncId->Option Func} (hF:M2 P F) {Kn:FuncId->Option D} (hKn:∀ f d,Kn f=some d->Enters P f/\Hc T P f [] d) {fuel:Nat} :
  ∀ n,iv T P (loN T hi F Kn fuel n)
 | 0=>⟨λf ds rs d aV e=>by
   have e:(none:Option (D×List ah))=some (d,aV):=e
   simp at e,λr ds rs d aV e=>by
   have e:(none:Option (D×List ah))=some (d,aV):=e
   simp at e,HA,λf ds rs d q x e=>by
   have e:(none:Option (D×Nat×ah))=some (d,q,x):=e
   simp at e,λf ds rs rT r _ _ e=>by
   have e:(none:Option (D×Nat×ah))=some r:=e
   simp at e⟩
 | n+1=>⟨λf ds rs d aV e=>IF bZ Gs hF hKn (vV bZ Gs hF hKn n) e,λr ds rs d aV e=>Ma bZ Gs (vV bZ Gs hF hKn n) e,HA,λf ds rs d q x e=>by
   have e:(none:Option (D×Nat×ah))=some (d,q,x):=e
   simp at e,λf ds rs rT r _ _ e=>by
   have e:(none:Option (D×Nat×ah))=some r:=e
   simp at e⟩
end
noncomputable section
def nd (b:Bool) (A:Prop):Prop:=Bool.rec False A b
def br (b:Bool) (A B:Prop):Prop:=Bool.rec B A b
theorem cg {b:Bool} {A:Prop}:nd b A↔b=true/\A:=by cases b<;>simp [nd]
theorem ai {b:Bool} {A:Prop} (h:b=true) (a:A):nd b A:=cg.2 ⟨h,a⟩
theorem ag {b:Bool} {A B:Prop} (h:b=true->A) (k:b=false->B):br b A B:=by
 cases b
 .exact k rfl
 .exact h rfl
theorem ze {b:Bool} {A B:Prop} (h:br b A B):(b=true/\A)∨(b=false/\B):=by
 cases b
 .exact .inr ⟨rfl,h⟩
 .exact .inl ⟨rfl,h⟩
def gR {α:Type} (x:Option α) (k:α->Prop):Prop:=match x with
 | some a=>k a
 | none=>False
theorem cO {α:Type} {x:Option α} {k:α->Prop} (h:gR x k):∃ a,x=some a/\k a:=by
 cases x with
 | none=>exact h.elim
 | some a=>exact ⟨a,rfl,h⟩
structure bt (T:ec) (P:Program) (f:FuncId) (ds:List D) (rs:List ah) (d:D) (aV:List ah):Prop where
 out:Enters P f/\∀ (N:Nat) (aA:Nat->Prop) (w0:Kp) (sp:List (D×Value)) (sl:a8) (df:List Nat) (a:Act) (w:World) (E:Env) (vs:List Value),R T N aA w0 sp ⟨sl,rs,df⟩ a w E->aF (bj E (AV aA rs E) w) ds vs->
  Go.Calls P f vs.toArray w λe w'=>∃ v E',e=.returned v/\Kept E E'/\R T N aA w0 sp ⟨sl,aV,df⟩ a w' E'/\bj E' (AV aA aV E') w' d v
structure nS (T:ec) (P:Program) (r:Nat) (ds:List D) (rs:List ah) (d:D) (aV:List ah):Prop where
 out:∀ (N:Nat) (aA:Nat->Prop) (w0:Kp) (sp:List (D×Value)) (sl:a8) (df:List Nat) (a:Act) (w:World) (E:Env) (vs:List Value),R T N aA w0 sp ⟨sl,rs,df⟩ a w E->aF (bj E (AV aA rs E) w) ds vs->
  ∃ b sz f tm as bd,bB E r b sz/\(Instr.yield b vs.toArray).run P w=.ok (.round b f tm as bd) w/\
   BC P b f tm as bd w λv w'=>∃ E',Kept E E'/\R T N aA w0 sp ⟨sl,aV,df⟩ a w' E'/\bj E' (AV aA aV E') w' d v
structure zC (T:ec) (P:Program) (f:FuncId) (ds:List D) (rs:List ah) (d:D) (q:Nat) (x:ah):Prop where
 out:∀ rT:List ah,rs.length=rT.length->(∀ (k:Nat) (y:ah),bh rs k=some y->y.live->bh rT k=some y)->bt T P f ds rT d (place q x rT)
abbrev Out:=D×List (Nat×ah)×List ah
inductive Rd where
 | no
 | ret (o:D×Nat×ah)
 | get (q:Nat) (k:ah->Rd)
def Aa (rs:List ah) (r:Rd):Option (D×Nat×ah):=Rd.rec none (λo=>some o) (λq _ ih=>match bh rs q with
 | some x=>match x with
   | .dead=>none
   | x=>ih x
 | none=>none) r
structure eU where
 F:FuncId->List D->List ah->Out
 FY:Nat->List D->List ah->Out:=λ_ _ _=>(.t [],[],[])
 B:FuncId->List D->List ah->Bool:=λ_ _ _=>true
 R1:FuncId->List D->List ah->Out:=λ_ _ _=>(.t [],[],[])
 R2:FuncId->List D->List ah->Out:=λ_ _ _=>(.t [],[],[])
 S:List Nat:=[]
 W:FuncId->List D->Rd:=λ_ _=>.no
def mR (rs:List ah) (x:Out):List ah:=writes x.2.1 rs++x.2.2
def IW (S:List Nat) (ws:List (Nat×ah)):Bool:=List.rec true (λp _ ih=>Bool.rec false ih (qj p.1 S)) ws
def l1 (S:List Nat) (aV:List ah):List (Nat×ah):=List.rec [] (λq _ ih=>match bh aV q with
 | some x=>(q,x)::ih
 | none=>ih) S
def VV (n:Nat) (ws:List (Nat×ah)):Bool:=List.rec true (λp _ ih=>Bool.rec false ih (iE n p.2)) ws
def kW (X:eU):Lo:=⟨λf ds rs=>some ((X.F f ds rs).1,mR rs (X.F f ds rs)),λr ds rs=>some ((X.FY r ds rs).1,mR rs (X.FY r ds rs)),λrs aV=>some (l1 X.S aV),λf ds rs=>Aa rs (X.W f ds)⟩
def Grown (S:List Nat) (rs aV:List ah):Prop:=∃ ws ex,IW S ws=true/\aV=writes ws rs++ex
open Classical in
def da (T:ec) (P:Program) (X:eU):Lo:=⟨λf ds rs=>if bt T P f ds rs (X.F f ds rs).1 (mR rs (X.F f ds rs)) then some ((X.F f ds rs).1,mR rs (X.F f ds rs)) else none,
 λr ds rs=>if nS T P r ds rs (X.FY r ds rs).1 (mR rs (X.FY r ds rs)) then some ((X.FY r ds rs).1,mR rs (X.FY r ds rs)) else none,
 λrs aV=>if Grown X.S rs aV/\VV rs.length (l1 X.S aV)=true then some (l1 X.S aV) else none,
 λf ds rs=>match Aa rs (X.W f ds) with
  | some o=>if zC T P f ds rs o.1 o.2.1 o.2.2 then some o else none
  | none=>none⟩
section
variable (T:ec) (P:Program) (X:eU) (hi:Hint)
def JF (s:VS) (t:Nat) (x ix:Operand) (k:D->Prop):Prop:=match O7 T t with
 | some a=>match ja (cF s.sl ix) with
   | some i=>match dJ (cF s.sl x) with
     | some (.rt r q j)=>nd (bQ i a.1) (k (.c (.rt r q (j+i.toNat*a.2.size))))
     | some (.im (.gp q))=>gR (Lb T a.1 a.2.size i q) k
     | _=>False
   | none=>False
 | none=>match uo T t with
   | some y=>match ja (cF s.sl ix) with
     | some i=>match dJ (cF s.sl x) with
       | some (.im (.sl sz n get))=>nd (Nat.beq sz y.size) (nd (bQ i n) (k (.c (.im (.pt sz (get i.toNat))))))
       | some (.sa r m)=>match bh s.rs r with
         | some (.row _ sz _ _)=>nd (Nat.beq sz y.size) (nd (bQ i m) (k (.c (.rt r i.toNat 0))))
         | some (.arr _ sz _ _)=>nd (Nat.beq sz y.size) (nd (bQ i m) (k (.c (.rt r i.toNat 0))))
         | some (.bo _ sz _ _ _)=>nd (Nat.beq sz y.size) (nd (bQ i m) (k (.c (.rt r i.toNat 0))))
         | _=>False
       | _=>False
     | none=>False
   | none=>False
def Us (s:VS) (c x y:Operand) (k:D->Prop):Prop:=match jU (cF s.sl c) with
 | some b=>br b (gR (jU (cF s.sl x)) λz=>k (bool z)) (gR (jU (cF s.sl y)) λz=>k (bool z))
 | none=>False
def DU (rs:List ah) (c:C) (h:Int) (k:D->Prop):Prop:=match c with
 | .im (.sl sz n get)=>nd (Js h n) (k (.c (.im (.sl sz h.toNat get))))
 | .sa r m=>match bh rs r with
   | some (.row _ _ _ _)=>nd (Js h m) (k (.c (.sa r h.toNat)))
   | some (.arr _ _ _ _)=>nd (Js h m) (k (.c (.sa r h.toNat)))
   | some (.bo _ _ _ _ _)=>nd (Js h m) (k (.c (.sa r h.toNat)))
   | _=>False
 | _=>gR (oS rs c h) k
def FH (sz:Nat) (c:C) (h:Int) (k:D->Prop):Prop:=match c with
 | .im (.sl dE n get)=>nd (Js h n) (nd (Nat.beq dE sz) (k (.c (.im (.sl dE (n-h.toNat) λi j=>get (h.toNat+i) j)))))
 | _=>False
def Lk (s:VS) (t:Nat) (x:Operand) (lo hi mx:Option Operand) (k:D->Prop):Prop:=match lo,hi,mx with
 | none,some h,none=>match uo T t with
   | some _=>match dJ (cF s.sl x),ja (cF s.sl h) with
     | some c,some n=>DU s.rs c n k
     | _,_=>False
   | none=>False
 | some l,none,none=>match uo T t with
   | some y=>match dJ (cF s.sl x),ja (cF s.sl l) with
     | some c,some n=>FH y.size c n k
     | _,_=>False
   | none=>False
 | _,_,_=>False
def UD (y:Ty) (sz n:Nat) (get:Nat->Nat->I) (i j:Nat) (k:D->Prop):Prop:=match y.kd.agg with
 | true=>nd (Nat.ble (j+y.size) sz) (nd (Nat.blt i n) (k (.a (eo (get i) j y.size))))
 | false=>nd (Nat.blt j sz) (nd (Nat.blt i n) (k (.c (.im (get i j)))))
def EC (i:Nat) (K:Nat->Prop) (m:Nat):Nat->Prop:=Nat.rec (λ_=>False) (λ_ ih c=>br (Nat.beq i c) (K c) (ih (c+1))) m
def I4 (y:Ty) (f:Nat->Option C) (j:Nat) (k:D->Prop):Prop:=match y.kd.agg with
 | true=>gR (rQ f j y.size) λl=>k (.a l)
 | false=>gR (f j) λc=>k (.c c)
def aT3 (y:Ty) (sz j:Nat):Bool:=match y.kd.agg with
 | true=>Nat.ble (j+y.size) sz
 | false=>Nat.blt j sz
def LL (y:Ty) (sz n:Nat) (get:Nat->Nat->O) (eI:Option (Nat×List Fc)) (i j:Nat) (k:D->Prop):Prop:=nd (aT3 y sz j) (nd (Nat.blt i n) (match eI with
 | none=>I4 y (λj=>O0 (get i j)) j k
 | some x=>nd (Nat.beq i x.1) (I4 y (λj=>Qp (bh x.2 j)) j k)))
def Tf (s:VS) (t:Nat) (x:Operand) (k:D->Prop):Prop:=match T.ty t,dJ (cF s.sl x) with
 | some y,some c=>match c with
   | .rt r i j=>match bh s.rs r with
     | some (.arr _ sz n get)=>UD y sz n get i j k
     | some (.row _ sz n l)=>EC i (λc=>gR (uA y l (c*sz+j)) k) n 0
     | some (.bo _ sz n get eI)=>LL y sz n get eI i j k
     | _=>gR (l7 T s t x) k
   | _=>gR (l7 T s t x) k
 | _,_=>False
def aF7 (op:BinOp) (a b:Int) (k:D->Prop):Prop:=match op with
 | .quo=>nd (!(b==0)) (k (int (IntKind.i64.wrap (a.tdiv b))))
 | .rem=>nd (!(b==0)) (k (int (a.tmod b)))
 | _=>gR (Ah op a b) λz=>k (.v z)
def aH0 (s:VS) (op:BinOp) (t:Nat) (x y:Operand) (k:D->Prop):Prop:=match isNil y with
 | true=>gR (xt T s op t x) k
 | false=>match ja (cF s.sl x),ja (cF s.sl y) with
   | some a,some b=>aF7 op a b k
   | _,_=>gR (A7 T s op t x y) k
def F0 (el sz n:Nat) (get:Nat->Nat->O) (eI:Option (Nat×List Fc)) (r i j:Nat) (cs:List C) (k:cP->Prop):Prop:=match Gv cs with
 | some ys=>nd (Nat.blt i n) (k (.wr none [(r,.bo el sz n (Po get i j ys) eI)]))
 | none=>False
def E7 (el sz n:Nat) (get:Nat->Nat->O) (eI:Option (Nat×List Fc)) (size r i j:Nat) (cs:List C) (k:cP->Prop):Prop:=nd (Nat.ble (j+size) sz) (match eI with
 | none=>F0 el sz n get none r i j cs k
 | some x=>nd (Nat.beq i x.1) (gR (RE cs x.2 j) λl=>k (.wr none [(r,.bo el sz n get (some (x.1,l)))])))
def NA (rs:List ah) (size r i j:Nat) (cs:List C) (k:cP->Prop):Prop:=match bh rs r with
 | some (.arr el sz n get)=>match Gv cs with
   | some ys=>nd (Nat.ble (j+size) sz) (nd (Nat.blt i n) (k (.wr none [(r,.arr el sz n (B2 get i j ys))])))
   | none=>gR (qo rs cs) k
 | some (.bo el sz n get eI)=>E7 el sz n get eI size r i j cs k
 | _=>gR (mN rs size r i j cs) k
def Km (s:VS) (dst:Option Tmp) (t:Nat) (x v:Operand) (k:cP->Prop):Prop:=match dst with
 | some _=>False
 | none=>match T.ty t,cF s.sl v with
   | some y,some d=>match d.cells with
     | some cs=>nd (Nat.beq cs.length y.size&&Nat.blt 0 y.size) (match dJ (cF s.sl x) with
       | some (.rt r i j)=>NA s.rs y.size r i j cs k
       | _=>False)
     | none=>False
   | _,_=>False
def UF (b:Nat) (s:VS) (t:Nat) (l c:Operand) (k:cP->Prop):Prop:=match T.ty t with
 | some { kd:=.slice el,.. }=>match T.ty el with
   | some y=>match zT y with
     | some z=>match ja (cF s.sl l),ja (cF s.sl c) with
       | some (.ofNat n),some (.ofNat m)=>match Gv z with
         | some is=>nd (Nat.blt 0 y.size) (nd (Nat.ble n maxLen&&Nat.ble (n*y.bytes) 281474976710656) (nd (Nat.beq n m) (k (.wr (some (.c (.sa b n))) [(b,.arr el y.size n (λ_=>iR is))]))))
         | none=>False
       | _,_=>False
     | none=>False
   | none=>False
 | _=>False
def Rh (el sz n':Nat) (get':Nat->Nat->I) (bytes b:Nat) (rs:List ah) (c:C) (k:cP->Prop):Prop:=match c with
 | .im (.v (.slice none 0 0))=>nd (cw n' bytes) (k (.wr (some (.c (.sa b n'))) [(b,.arr el sz n' get')]))
 | .sa r m=>match bh rs r with
   | some (.arr tN dE n get)=>nd (Nat.beq el tN&&Nat.beq sz dE) (nd (cw (n+n') bytes) (nd (Nat.beq m n) (k (.wr (some (.c (.sa b (n+n')))) [(r,.dead),(b,.arr el sz (n+n') (fZ n get get'))]))))
   | _=>False
 | _=>False
def RO (sz:Nat) (rs:List ah) (c:C) (k:Nat×(Nat->Nat->I)->Prop) (K:Prop):Prop:=match c with
 | .sa q m=>match bh rs q with
   | some (.arr _ dE n get)=>nd (Nat.beq dE sz) (nd (Nat.ble m n) (k (m,get)))
   | _=>match tQ sz rs c with
     | some x=>k x
     | none=>K
 | _=>match tQ sz rs c with
   | some x=>k x
   | none=>K
def al9 (ty:Ty) (el b:Nat) (rs:List ah) (c src:C) (k:cP->Prop):Prop:=RO ty.size rs src (λx=>nd (Nat.blt 0 ty.size) (Rh el ty.size x.1 x.2 ty.bytes b rs c k)) (gR (qo rs [src]) k)
def ap3 (ty:Ty) (el tN dE n:Nat) (get:Nat->Nat->O) (b r m:Nat) (rs:List ah) (src:C) (k:cP->Prop):Prop:=match Ap rs src with
 | some (sz,1,l)=>nd (Nat.beq sz ty.size&&Nat.blt 0 sz) (nd (Nat.beq el tN&&Nat.beq sz dE) (nd (cw (n+1) ty.bytes) (nd (Nat.beq m n) (k (.wr (some (.c (.sa b (n+1)))) [(r,.dead),(b,.bo el sz (n+1) get (some (n,l.map Fc.c)))])))))
 | _=>False
def SS (el b:Nat) (rs:List ah) (c src:C) (k:cP->Prop):Prop:=match c with
 | .sa r m=>match bh rs r with
   | some (.bo tN dE n get none)=>match T.ty el with
     | some ty=>ap3 ty el tN dE n get b r m rs src k
     | none=>False
   | _=>gR (qL T el b rs (some c) (some src)) k
 | _=>gR (qL T el b rs (some c) (some src)) k
def ay5 (el b:Nat) (rs:List ah) (x src:Option C) (k:cP->Prop):Prop:=match x,src with
 | some c,some src=>match Qw rs c src with
   | true=>match T.ty el with
     | some ty=>al9 ty el b rs c src k
     | none=>False
   | false=>SS T el b rs c src k
 | _,_=>False
def aK1 (b:Nat) (s:VS) (ts:List TypeId) (xs:List Operand) (k:cP->Prop):Prop:=match ts,xs with
 | [t,t'],[x,y]=>nd (Nat.beq t t') (match T.ty t with
   | some { kd:=.slice el,.. }=>ay5 T el b s.rs (dJ (cF s.sl x)) (dJ (cF s.sl y)) k
   | _=>False)
 | _,_=>False
def FX (rs:List ah) (g:FuncId) (ds:List D) (k:cP->Prop):Prop:=match dK rs ds with
 | some is=>bt T P g is [] (X.F g is []).1 (mR [] (X.F g is []))/\gR (iC (kW X) rs g ds) k
 | none=>False
def S2 (rs:List ah) (g:FuncId) (ds:List D) (k:cP->Prop):Prop:=
 bt T P g ds rs (X.F g ds rs).1 (mR rs (X.F g ds rs))/\nd (IW X.S (X.F g ds rs).2.1) (k (.all (X.F g ds rs).1 (mR rs (X.F g ds rs))))
def aU5 (rs:List ah) (g:FuncId) (ds:List D) (k:cP->Prop):Prop:=match Aa rs (X.W g ds) with
 | some o=>zC T P g ds rs o.1 o.2.1 o.2.2/\nd (Nat.blt o.2.1 rs.length) (k (.wr (some o.1) [(o.2.1,o.2.2)]))
 | none=>False
def D3 (x:Option cP):Option (Bool×cP):=match x with
 | some e=>some (true,e)
 | none=>none
def J3 (lo:Lo) (rs:List ah) (f:FuncId) (ds:List D) (b:Nat):Option (Bool×cP):=match dK rs ds with
 | some is=>match lo.call f is [] with
   | some (.c (.sa q m),aV)=>match bh aV q with
     | some (.arr el sz n get)=>match kq rs ds (.wr (some (.c (.sa b n))) [(b,.arr el sz n get)]) with
       | some e=>some (Nat.beq m n,e)
       | none=>none
     | _=>D3 (gH lo rs f ds b)
   | _=>D3 (gH lo rs f ds b)
 | none=>none
def JK (rs:List ah) (b:Nat) (g:FuncId) (ds:List D) (k:cP->Prop):Prop:=match hi.mode g with
 | 0=>FX T P X rs g ds k
 | 1=>S2 T P X rs g ds k
 | 2=>match dK rs ds with
   | some is=>bt T P g is [] (X.F g is []).1 (mR [] (X.F g is []))/\gR (J3 (kW X) rs g ds b) λe=>nd e.1 (k e.2)
   | none=>False
 | 4=>aU5 T P X rs g ds k
 | 5=>match dK rs ds with
   | some is=>bt T P g is [] (X.F g is []).1 (mR [] (X.F g is []))/\gR (BQ (kW X) rs g ds b) k
   | none=>False
 | _=>Bool.rec (S2 T P X rs g ds k) (FX T P X rs g ds k) (fA ds)
def bd3 (rs:List ah) (r:Nat) (ds:List D) (k:cP->Prop):Prop:=
 nS T P r ds rs (X.FY r ds rs).1 (mR rs (X.FY r ds rs))/\nd (IW X.S (X.FY r ds rs).2.1) (k (.all (X.FY r ds rs).1 (mR rs (X.FY r ds rs))))
def K5 (b:Nat) (s:VS) (f:Operand) (xs:List Operand) (k:cP->Prop):Prop:=match dJ (cF s.sl f),B1 s.sl xs with
 | some c,some ds=>match c with
   | .yl r=>bd3 T P X s.rs r ds k
   | _=>match rD c with
     | some (g,eO)=>JK T P X hi s.rs b g (ds++eO) k
     | none=>False
 | _,_=>False
def WI (b:Nat) (s:VS) (c:Call) (k:cP->Prop):Prop:=match J4 T s c with
 | some d=>k (.val d)
 | none=>match c.callee with
   | .builtin .append=>aK1 T b s c.argTypes.toList c.args.toList k
   | .value f=>K5 T P X hi b s f c.args.toList k
   | _=>False
def WH (b:Nat) (s:VS) (dst:Option Tmp) (op:Op) (k:cP->Prop):Prop:=match op with
 | .indexAddr t x i=>JF T s t x i λd=>k (.val d)
 | .pick c x y=>Us s c x y λd=>k (.val d)
 | .slice t x lo h mx=>Lk T s t x lo h mx λd=>k (.val d)
 | .load t x=>Tf T s t x λd=>k (.val d)
 | .binOp o t x y _=>aH0 T s o t x y λd=>k (.val d)
 | .store t x v=>Km T s dst t x v k
 | .makeSlice t l c=>UF T b s t l c k
 | .call c=>WI T P X hi b s c k
 | op=>gR (gC T (kW X) hi b s dst op) k
def Sv (t:Tmp) (b:Bool) (sl:a8):a8:=List.rec [] (λx l ih=>Bool.rec (x::ih) ((x.1,bool b,x.2.2)::l) (Nat.beq x.1 t)) sl
def xp (t:Tmp) (b:Bool) (s:VS):VS:={ s with sl:=Sv t b s.sl }
def MR (s:VS) (c:Operand) (p:Bool) (A B:VS->Prop):Prop:=match c with
 | .tmp t=>br p (A (xp t true s)) (B (xp t false s))
 | _=>br p (A s) (B s)
def Np (ops:List Oper) (s:VS) (g:Option (Nat×Bool)) (A B:VS->Prop):Prop:=match g with
 | none=>A s
 | some (j,want)=>match bh ops j with
   | some p=>match p.dst with
     | some t=>match eT s.sl t with
       | some (.t [])=>B s
       | d=>match jU d with
         | some x=>Bool.rec (br x (B (xp t true s)) (A (xp t false s))) (br x (A (xp t true s)) (B (xp t false s))) want
         | none=>False
     | none=>False
   | none=>False
def MZ (N:Nat) (s:VS) (dst:Option Tmp) (k:VS->Prop) (again:List Nat->Prop) (e:cP):Prop:=match e with
 | .cU l=>again l
 | e=>gR (sA N s dst e) k
def WY (N:Nat) (s:VS) (dst:Option Tmp) (op:Op) (k:VS->Prop):Prop:=
 WH T P X hi s.rs.length s dst op (MZ N s dst k λl=>gR (ie l s) λs1=>WH T P X hi s1.rs.length s1 dst op (MZ N s1 dst k λ_=>False))
def opW (N:Nat) (ops:List Oper) (s:VS) (o:Oper) (k:VS->Prop):Prop:=
 Np ops s o.guard (λs=>WY T P X hi N s o.dst o.op k) λs=>gR (tD N s o.dst (.t [])) k
def aC6 (N:Nat) (ops l:List Oper):VS->(VS->Prop)->Prop:=List.rec (λs k=>k s) (λo _ ih s k=>opW T P X hi N ops s o λs'=>ih s' k) l
def aV1 (rs:List ah) (cJ:List Nat) (i:Nat) (dst:Option Tmp) (e:cP) (k:Fst->Prop):Prop:=gR (ua (kW X) rs cJ i dst (some e)) λu=>match u with
 | .ok ⟨t,d,ws,none,true⟩=>nd (VV rs.length ws) (k (.ok ⟨t,d,ws,none,true⟩))
 | u=>k u
def evalW (cJ:List Nat) (i b:Nat) (ops:List Oper) (s:VS) (o:Oper) (k:VS->Fst->Prop):Prop:=
 Np ops s o.guard (λs=>WH T P X hi b s o.dst o.op λe=>aV1 X s.rs cJ i o.dst e (k s)) λs=>k s (.ok ⟨o.dst,some (.t []),[],none,false⟩)
def EJ (N:Nat) (cJ:List Nat) (ops l:List Oper):Nat->Nat->List (Nat×List Nat)->VS->(If->Prop)->Prop:=List.rec (λ_ _ W s q=>q (.ok W s)) (λo _ ih k b W s q=>
 evalW T P X hi cJ k b ops s o λs u=>match u with
  | .ok u=>nd (GA N u.dst u.val) (ih (k+1) (b+eL o.op) (I2 k u W) (u.on s) q)
  | .cU c=>q (.cU c)) l
def Dh (N:Nat) (ops:List Oper) (cJ:List Nat) (W:List (Nat×List Nat)) (l:List Oper):List Nat->Nat->Nat->VS->(VS->Prop)->Prop:=List.rec (λ_ _ _ s q=>q s) (λo _ ih ms i b s q=>
 match ms with
 | m::ms=>evalW T P X hi cJ i b ops (YR (eK cJ i m W) s) o λs1 u=>match u with
   | .ok u=>nd (GA N u.dst u.val&&(El (u.ws.map (·.1)) (py i W)&&(oB (u.ws.map (·.1)) (eK cJ i m W)&&Xc u.ex (eK cJ i m W)))) (ih ms (i+1) (b+eL o.op) (u.on { s with sl:=s1.sl }) q)
   | .cU _=>False
 | []=>False) l
def FQ (N:Nat) (ops:List Oper) (s0 s':VS) (b:Nat) (W:List (Nat×List Nat)) (k:VS->Prop):Prop:=match W with
 | []=>k s'
 | _=>Dh T P X hi N ops (jT ops []) W ops (jT ops []) 0 b s0 k
def JN (N:Nat) (ops:List Oper) (n:Nat):VS->(VS->Prop)->Prop:=Nat.rec (λ_ _=>False) (λ_ ih s k=>
 EJ T P X hi N (jT ops []) ops ops 0 s.rs.length [] (gb ops s) λr=>match r with
  | .cU l=>gR (ie l s) λs'=>ih s' k
  | .ok W s'=>FQ T P X hi N ops (gb ops s) s' s.rs.length W k) n
def yy (N:Nat) (f:FuncId) (ro:Option Nat) (id:Nat) (ops:List Oper) (draw:Bool) (s:VS) (k:VS->Prop):Prop:=match draw with
 | false=>aC6 T P X hi N ops ops s λs'=>k (uK hi f id s')
 | true=>match ro with
   | some _=>False
   | none=>match vn ops with
     | true=>JN T P X hi N ops 8 s λs'=>k (uK hi f id s')
     | false=>False
def Gh (b:Nat) (s:VS) (aV:List ah) (k:Option Code->VS->Prop):Prop:=match bh aV (b+1) with
 | some (.loop _ _ _ _ _ _ .ready none)=>k none { s with rs:=setAt aV (b+1) .dead,df:=b::s.df }
 | some (.loop _ _ _ _ _ _ .done (some c))=>k (some c) { s with rs:=setAt aV (b+1) .dead,df:=b::s.df }
 | _=>False
def Sf (s:VS) (h:FuncId) (ds:List D) (rs:List ah) (k:Option Code->VS->Prop):Prop:=
 br (X.B h ds rs) (bt T P h ds rs (X.R1 h ds rs).1 (mR rs (X.R1 h ds rs))/\Gh s.rs.length s (mR rs (X.R1 h ds rs)) k) (bt T P h ds rs (X.R2 h ds rs).1 (mR rs (X.R2 h ds rs))/\Gh s.rs.length s (mR rs (X.R2 h ds rs)) k)
def Gi (N:Nat) (f:FuncId) (ro:Option Nat) (g:Operand) (ps:List Tmp) (as b:Code) (s:VS) (k:Option Code->VS->Prop):Prop:=match ro with
 | some _=>False
 | none=>match dJ (cF s.sl g) with
   | some c=>match rD c with
     | some (h,eO)=>Sf T P X s h (.c (.yl (s.rs.length+1))::eO) (s.rs++[.mi,.loop f N s.sl ps as b .ready none]) k
     | none=>False
   | none=>False
def wS (N:Nat) (f:FuncId) (ro:Option Nat) (stop:Nat->Bool) (L:List Item->VS->Prop) (Q:Option Code->VS->Prop) (n:Nat):Bool->List Item->VS->Prop:=Nat.rec (λ_ _ _=>False) (λ_ ih go todo s=>match todo with
 | []=>Q none s
 | x::k=>match x with
   | .inBlock _=>ih go k s
   | .inLoop c=>ih go (.code c::.inLoop c::k) s
   | .beginRound=>gR (wC ro s) λs'=>ih go k s'
   | .code c=>match c with
     | .skip=>ih go k s
     | .label _=>ih go k s
     | .ret=>Q (some .ret) s
     | .seq a b=>ih go (.code a::.code b::k) s
     | .cond c a b=>match jU (cF s.sl c) with
       | some p=>MR s c p (ih go (.code a::k)) (ih go (.code b::k))
       | none=>False
     | .block id c=>ih go (.code c::.inBlock id::k) s
     | .loop c=>ih go (.code c::.inLoop c::k) s
     | .exit id=>match exitTo id k with
       | some k'=>ih go k' s
       | none=>Q (some (.exit id)) s
     | .region id ops draw=>Bool.rec (yy T P X hi N f ro id ops.toList draw s λs'=>ih false k s') (L (.code (.region id ops draw)::k) s) (!go&&stop id)
     | .rangeFunc g ps as b=>Gi T P X N f ro g ps.toList as b s λj s'=>ih false (Dd j k) s'
     | _=>False
   | _=>False) n
end
def uJ (T:ec) (res:List ResultVar) (Q:D->List ah->Prop) (j:Option Code) (s:VS):Prop:=nd (Vh j) (gR (Sw T s res) λx=>Q x.1 x.2)
def QO (r:Nat) (Q:D->List ah->Prop) (j:Option Code) (s:VS):Prop:=gR (FB r j s) λx=>Q x.1 x.2
end
section
variable {T:ec} {P:Program} {X:eU} {hi:Hint} {N:Nat} {s:VS}
theorem OV {t:Nat} {x ix:Operand} {k:D->Prop} (h:JF T s t x ix k):∃ d,pj T s t x ix=some d/\k d:=by
 unfold JF at h
 unfold pj
 split at h
 .rename_i a ha
  split at h
  case h_2=>exact h.elim
  rename_i i nA
  split at h
  case h_3=>exact h.elim
  .rename_i r q j hc
   obtain ⟨h1,h2⟩:=cg.1 h
   refine ⟨_,?_,h2⟩
   simp only [ha,nA,hc,AG,EY,h1]
  .rename_i q hc
   obtain ⟨d,h1,h2⟩:=cO h
   exact ⟨d,by simp only [ha,nA,hc,AG,h1],h2⟩
 .rename_i ha
  split at h
  case h_2=>exact h.elim
  rename_i y hy
  split at h
  case h_2=>exact h.elim
  rename_i i nA
  split at h
  .rename_i sz n get hc
   obtain ⟨h1,h2⟩:=cg.1 h
   obtain ⟨h3,h4⟩:=cg.1 h2
   refine ⟨_,?_,h4⟩
   simp only [ha,hy,nA,hc,tF,h1,h3]
  .rename_i r m hc
   split at h
   case h_4=>exact h.elim
   all_goals
    rename_i hr
    obtain ⟨h1,h2⟩:=cg.1 h
    obtain ⟨h3,h4⟩:=cg.1 h2
    refine ⟨_,?_,h4⟩
    simp only [ha,hy,nA,hc,tF,hr,h1,h3]
  .exact h.elim
theorem V7 {c x y:Operand} {k:D->Prop} (h:Us s c x y k):∃ d,Cz s c x y=some d/\k d:=by
 unfold Us at h
 unfold Cz
 split at h
 case h_2=>exact h.elim
 rename_i b hb
 rcases ze h with ⟨rfl,h⟩|⟨rfl,h⟩
 .obtain ⟨z,h1,h2⟩:=cO h
  grind
 .obtain ⟨z,h1,h2⟩:=cO h
  grind
theorem Mb {rs:List ah} {c:C} {h0:Int} {k:D->Prop} (h:DU rs c h0 k):∃ d,oS rs c h0=some d/\k d:=by
 unfold DU at h
 split at h
 .obtain ⟨h1,h2⟩:=cg.1 h
  exact ⟨_,by simp only [oS,h1],h2⟩
 .split at h
  case h_4=>exact h.elim
  all_goals
   rename_i hr
   obtain ⟨h1,h2⟩:=cg.1 h
   exact ⟨_,by simp only [oS,hr,h1],h2⟩
 .exact cO h
theorem KT {sz:Nat} {c:C} {h0:Int} {k:D->Prop} (h:FH sz c h0 k):∃ d,A1 sz c h0=some d/\k d:=by
 unfold FH at h
 split at h
 case h_2=>exact h.elim
 obtain ⟨h1,h2⟩:=cg.1 h
 obtain ⟨h3,h4⟩:=cg.1 h2
 exact ⟨_,by simp only [A1,h1,h3,Bool.and_self],h4⟩
theorem O9 {t:Nat} {x:Operand} {l h0 mx:Option Operand} {k:D->Prop} (h:Lk T s t x l h0 mx k):∃ d,lO T s t x l h0 mx=some d/\k d:=by
 unfold Lk at h
 unfold lO
 split at h
 all_goals grind [Mb,KT]
theorem Bc {i:Nat} {K:Nat->Prop}:∀ {m c:Nat},EC i K m c->K i
 | 0,c,h=>h.elim
 | m+1,c,h=>by
   have h:br (Nat.beq i c) (K c) (EC i K m (c+1)):=h
   rcases ze h with ⟨h1,h2⟩|⟨_,h2⟩
   .rw [cE h1]; exact h2
   .exact Bc h2
theorem QA {y:Ty} {f g:Nat->Option C} {j:Nat} {k:D->Prop} (hfg:f=g) (h:I4 y f j k):∃ d,(match y.kd.agg with
  | true=>match rQ g j y.size with
    | some l=>some (.a l)
    | none=>none
  | false=>match g j with
    | some c=>some (.c c)
    | none=>none)=some d/\k d:=by
 subst hfg
 unfold I4 at h
 split at h
 .rename_i ha
  obtain ⟨l,h1,h2⟩:=cO h
  grind
 .rename_i ha
  obtain ⟨l,h1,h2⟩:=cO h
  grind
theorem Pb {y:Ty} {sz n:Nat} {get:Nat->Nat->O} {eI:Option (Nat×List Fc)} {i j:Nat} {k:D->Prop} (h:LL y sz n get eI i j k):∃ d,GW y sz n (BT get eI i) i j=some d/\k d:=by
 unfold LL at h
 obtain ⟨h1,h2⟩:=cg.1 h
 obtain ⟨h3,h4⟩:=cg.1 h2
 have fin:∀ {f:Nat->Option C},f=BT get eI i->I4 y f j k->∃ d,GW y sz n (BT get eI i) i j=some d/\k d:=by
  intro f hf hp
  obtain ⟨d,q1,q2⟩:=QA hf hp
  refine ⟨d,?_,q2⟩
  unfold GW
  unfold aT3 at h1
  cases ha:y.kd.agg with
  | true=>simp only [ha] at h1 q1 ⊢; simp only [h1,h3]; exact q1
  | false=>simp only [ha] at h1 q1 ⊢; simp only [h1,h3]; exact q1
 split at h4
 .exact fin rfl h4
 .rename_i x
  obtain ⟨q1,q2⟩:=cg.1 h4
  exact fin (by funext j; simp only [BT,q1]) q2
theorem WR {t:Nat} {x:Operand} {k:D->Prop} (h:Tf T s t x k):∃ d,l7 T s t x=some d/\k d:=by
 unfold Tf at h
 split at h
 case h_2=>exact h.elim
 rename_i y c hy hc
 split at h
 case h_2=>exact cO h
 rename_i r i j
 split at h
 case h_4=>exact cO h
 case h_2=>
  rename_i el sz n l hr
  obtain ⟨d,h1,h2⟩:=cO (Bc h)
  grind [l7,uD,zL]
 case h_3=>
  grind [Pb,l7,uD,zL]
 rename_i el sz n get hr
 unfold UD at h
 split at h
 .rename_i ha
  obtain ⟨h1,h2⟩:=cg.1 h
  obtain ⟨h3,h4⟩:=cg.1 h2
  exact ⟨_,by simp only [l7,hy,hc,uD,hr,zL,M3,ha,h1,h3],h4⟩
 .rename_i ha
  obtain ⟨h1,h2⟩:=cg.1 h
  obtain ⟨h3,h4⟩:=cg.1 h2
  exact ⟨_,by simp only [l7,hy,hc,uD,hr,zL,M3,ha,h1,h3],h4⟩
theorem Xz {op:BinOp} {a b:Int} {k:D->Prop} (h:aF7 op a b k):∃ z,Ah op a b=some z/\k (.v z):=by
 unfold aF7 at h
 split at h
 .obtain ⟨h1,h2⟩:=cg.1 h
  simp only [Bool.not_eq_true'] at h1
  exact ⟨_,by simp only [Ah,h1],h2⟩
 .obtain ⟨h1,h2⟩:=cg.1 h
  simp only [Bool.not_eq_true'] at h1
  exact ⟨_,by simp only [Ah,h1],h2⟩
 .exact cO h
theorem HV {d:Option D} {n:Int} (e:ja d=some n):∃ v,Jo d=some v/\L6 v=some n:=by
 grind [ja]
theorem ac4 {op:BinOp} {t:Nat} {x y:Operand} {k:D->Prop} (h:aH0 T s op t x y k):∃ d,A7 T s op t x y=some d/\k d:=by
 unfold aH0 at h
 split at h
 .rename_i hn
  obtain ⟨d,h1,h2⟩:=cO h
  exact ⟨d,by simp only [A7,hn,h1],h2⟩
 .rename_i hn
  split at h
  .rename_i a b ha hb
   obtain ⟨z,h1,h2⟩:=Xz h
   obtain ⟨u,hu,hu2⟩:=HV ha
   obtain ⟨v,hv,hv2⟩:=HV hb
   have hp:J5 y=false:=by
    unfold J5
    split
    .rename_i q
     have hb:ja (some (.c (.im (.v (.pointer none)))))=some b:=hb
     cases hb
    .have hb:ja (some (.c (.im (.v .nilFunc))))=some b:=hb
     cases hb
    .rfl
   grind [A7,J8]
  .exact cO h
theorem LU {el sz n size r i j:Nat} {get:Nat->Nat->O} {eI:Option (Nat×List Fc)} {cs:List C} {k:cP->Prop} (hb:Nat.ble (j+size) sz=true) (h:F0 el sz n get eI r i j cs k):∃ e,qs el sz n get eI size r i j cs=some e/\k e:=by
 unfold F0 at h
 split at h
 case h_2=>exact h.elim
 rename_i ys hys
 obtain ⟨h1,h2⟩:=cg.1 h
 exact ⟨_,by simp only [qs,hys,h1,hb],h2⟩
theorem JH {el sz n size r i j:Nat} {get:Nat->Nat->O} {eI:Option (Nat×List Fc)} {cs:List C} {k:cP->Prop} (h:E7 el sz n get eI size r i j cs k):∃ e,s7 el sz n get eI size r i j cs=some e/\k e:=by
 unfold E7 at h
 obtain ⟨h1,h2⟩:=cg.1 h
 split at h2
 .exact LU h1 h2
 .rename_i x
  obtain ⟨q1,q2⟩:=cg.1 h2
  obtain ⟨l,q3,q4⟩:=cO q2
  exact ⟨_,by simp only [s7,q1,q3,h1],q4⟩
theorem Ps {lo:Lo} {hi:Hint} {b:Nat} {dst:Option Tmp} {t:Nat} {x v:Operand} {k:cP->Prop} (h:Km T s dst t x v k):∃ e,iu T s dst t x v=some e/\k e:=by
 unfold Km at h
 split at h
 .exact h.elim
 split at h
 case h_2=>exact h.elim
 rename_i y d hy hd
 split at h
 case h_2=>exact h.elim
 rename_i cs hcs
 obtain ⟨h1,h2⟩:=cg.1 h
 split at h2
 case h_2=>exact h2.elim
 rename_i r i j hx
 have fin:∀ {e:cP},mN s.rs y.size r i j cs=some e->iu T s none t x v=some e:=λhe=>by
  simp only [iu,hy,hd,hcs,h1,hx,he]
 unfold NA at h2
 split at h2
 .rename_i el sz n get hr
  split at h2
  .rename_i ys hys
   obtain ⟨h3,h4⟩:=cg.1 h2
   obtain ⟨h5,h6⟩:=cg.1 h4
   exact ⟨_,fin (by simp only [mN,hr,hys,h3,h5]),h6⟩
  .rename_i hys
   obtain ⟨e,h3,h4⟩:=cO h2
   exact ⟨e,fin (by simp only [mN,hr,hys,h3]),h4⟩
 .grind [JH,mN]
 .obtain ⟨e,h3,h4⟩:=cO h2
  exact ⟨e,fin h3,h4⟩
theorem Sm {b:Nat} {t:Nat} {l c:Operand} {k:cP->Prop} (h:UF T b s t l c k):∃ e,nR T b s t l c=some e/\k e:=by
 unfold UF at h
 split at h
 case h_2=>exact h.elim
 rename_i uL
 split at h
 case h_2=>exact h.elim
 rename_i hy
 split at h
 case h_2=>exact h.elim
 rename_i hz
 split at h
 case h_2=>exact h.elim
 rename_i hl hc
 split at h
 case h_2=>exact h.elim
 rename_i his
 obtain ⟨h1,h2⟩:=cg.1 h
 obtain ⟨h3,h4⟩:=cg.1 h2
 obtain ⟨h5,h6⟩:=cg.1 h4
 exact ⟨_,by simp only [nR,uL,hy,hz,hl,hc,his,h1,h3,h5],h6⟩
theorem VT {el sz n':Nat} {get':Nat->Nat->I} {bytes b:Nat} {rs:List ah} {c:C} {k:cP->Prop} (h:Rh el sz n' get' bytes b rs c k):∃ e,sW el sz n' get' bytes b rs c=some e/\k e:=by
 unfold Rh at h
 split at h
 .obtain ⟨h1,h2⟩:=cg.1 h
  exact ⟨_,by simp only [sW,h1],h2⟩
 .split at h
  case h_2=>exact h.elim
  rename_i hr
  obtain ⟨h1,h2⟩:=cg.1 h
  obtain ⟨h3,h4⟩:=cg.1 h2
  obtain ⟨h5,h6⟩:=cg.1 h4
  exact ⟨_,by simp only [sW,hr,h1,h3,h5],h6⟩
 .exact h.elim
theorem SL {sz:Nat} {rs:List ah} {c:C} {k:Nat×(Nat->Nat->I)->Prop} {K:Prop} (h:RO sz rs c k K):(∃ x,tQ sz rs c=some x/\k x)∨(tQ sz rs c=none/\K):=by
 have fin:(match tQ sz rs c with
  | some x=>k x
  | none=>K)->(∃ x,tQ sz rs c=some x/\k x)∨(tQ sz rs c=none/\K):=λq=>by
  grind
 unfold RO at h
 split at h
 .split at h
  .rename_i hr
   obtain ⟨h1,h2⟩:=cg.1 h
   obtain ⟨h3,h4⟩:=cg.1 h2
   exact .inl ⟨_,by simp only [tQ,hr,h1,h3],h4⟩
  .exact fin h
 .exact fin h
theorem Tu {el b:Nat} {rs:List ah} {c src:C} {k:cP->Prop} (h:SS T el b rs c src k):∃ e,qL T el b rs (some c) (some src)=some e/\k e:=by
 unfold SS at h
 split at h
 .split at h
  .rename_i hr
   split at h
   case h_2=>exact h.elim
   rename_i ty bZ
   unfold ap3 at h
   split at h
   case h_2=>exact h.elim
   rename_i hs
   obtain ⟨h1,h2⟩:=cg.1 h
   obtain ⟨h3,h4⟩:=cg.1 h2
   obtain ⟨h5,h6⟩:=cg.1 h4
   obtain ⟨h7,h8⟩:=cg.1 h6
   exact ⟨_,by simp only [qL,bZ,hs,h1,GB,hr,h3,h5,h7,Bool.and_self],h8⟩
  .exact cO h
 .exact cO h
theorem Z5 {el b:Nat} {x src:Option C} {k:cP->Prop} (h:ay5 T el b s.rs x src k):∃ e,(match sb T el b s.rs x src with
   | some e=>e
   | none=>qL T el b s.rs x src)=some e/\k e:=by
 unfold ay5 at h
 split at h
 case h_2=>exact h.elim
 rename_i c src
 split at h
 .rename_i hg
  split at h
  case h_2=>exact h.elim
  rename_i ty bZ
  simp only [sb,hg,bZ]
  unfold al9 at h
  rcases SL h with ⟨x,h1,h2⟩|⟨h1,h2⟩
  .obtain ⟨h3,h4⟩:=cg.1 h2
   obtain ⟨e,h5,h6⟩:=VT h4
   refine ⟨e,?_,h6⟩
   simp only [DK,h1,h3]
   exact h5
  .obtain ⟨e,h3,h4⟩:=cO h2
   exact ⟨e,by simp only [DK,h1,h3],h4⟩
 grind [sb,Tu]
theorem ae2 {b:Nat} {ts:List TypeId} {xs:List Operand} {k:cP->Prop} (h:aK1 T b s ts xs k):∃ e,rp T b s ts xs=some e/\k e:=by
 unfold aK1 at h
 split at h
 case h_2=>exact h.elim
 obtain ⟨h1,h2⟩:=cg.1 h
 split at h2
 case h_2=>exact h2.elim
 rename_i hy
 obtain ⟨e,h3,h4⟩:=Z5 h2
 refine ⟨e,?_,h4⟩
 simp only [rp,h1,hy]
 exact h3
theorem Ei {dst:Option Tmp} {t:Nat} {x v:Operand} {d:D} {aV:List ah} (h:iu T s dst t x v=some (.all d aV)):False:=by
 unfold iu at h
 split at h
 .simp at h
 split at h
 case h_2=>simp at h
 split at h
 all_goals grind [Bool.ay,mN,lG,uy]
theorem L1 {b:Nat} {ts:List TypeId} {xs:List Operand} {d:D} {aV:List ah} (h:rp T b s ts xs=some (.all d aV)):False:=by
 unfold rp at h
 split at h
 case h_2=>simp at h
 replace h:=(Bool.ay h).2
 split at h
 case h_2=>simp at h
 split at h
 .rename_i e' he'
  subst h
  unfold sb at he'
  split at he'
  case h_2=>simp at he'
  split at he'
  case h_2=>simp at he'
  split at he'
  case h_2=>simp at he'
  simp only [aw] at he'
  unfold DK at he'
  split at he'
  .replace he':=(Bool.ay he').2
   unfold sW at he'
   grind [Bool.ay]
  .obtain ⟨m,hm⟩:=lG he'; cases hm
 .have fin:∀ {el sz k:Nat} {l':List C} {BM:Nat} {c:C},GB el sz k l' BM b s.rs c≠some (.all d aV):=by
   intro el sz k l' BM c q
   unfold GB at q
   grind [Bool.ay]
  unfold qL at h
  split at h
  case h_2=>simp at h
  split at h
  all_goals grind [Bool.ay]
theorem JI {lo:Lo} {b:Nat} {dst:Option Tmp} {op:Op} {d:D} {aV:List ah} (h1:∀ c,op ≠ .call c) (h2:∀ t x v,op ≠ .store t x v) (h3:∀ t l c,op ≠ .makeSlice t l c) (h:gC T lo hi b s dst op=some (.all d aV)):False:=by
 unfold gC at h
 split at h
 .simp at h
 .cases op with
  | call c=>exact h1 c rfl
  | store t x v=>exact h2 t x v rfl
  | makeSlice t l c=>exact h3 t l c rfl
  | box t x=>
    have h:xJ b s x=_:=h
    grind [xJ]
  | alloc t=>
    have h:lH T b t=_:=h
    grind [lH]
  | makeMap t r=>
    have h:lB T b t r=_:=h
    unfold lB at h
    split at h<;>simp at h
  | buildSlice t n ps=>
    have h:Qy T b s (Dc hi dst) t n ps.toList=_:=h
    unfold Qy at h
    split at h
    all_goals grind [Bool.ay,kA]
  | mapUpdate t m k v=>
    have h:n9 T s dst t m k v=_:=h
    unfold n9 at h
    grind [Bool.ay]
  | _=>simp [il] at h
def Good (X:eU) (rs:List ah) (e:cP):Prop:=∀ d aV,e=.all d aV->Grown X.S rs aV
theorem pn {f:FuncId} {ds:List D} {rs:List ah} (h:bt T P f ds rs (X.F f ds rs).1 (mR rs (X.F f ds rs))):(da T P X).call f ds rs=(kW X).call f ds rs:=by
 simp [da,kW,h]
theorem Pa {r:Nat} {ds:List D} {rs:List ah} (h:nS T P r ds rs (X.FY r ds rs).1 (mR rs (X.FY r ds rs))):(da T P X).Wl r ds rs=(kW X).Wl r ds rs:=by
 simp [da,kW,h]
theorem Vr {rs:List ah} {g:FuncId} {ds is:List D} (hr:dK rs ds=some is) (hk:bt T P g is [] (X.F g is []).1 (mR [] (X.F g is []))):B6 (da T P X) rs g ds=B6 (kW X) rs g ds:=by
 simp only [B6,hr,pn hk]
theorem Sz {rs:List ah} {g:FuncId} {ds is:List D} {b:Nat} (hr:dK rs ds=some is) (hk:bt T P g is [] (X.F g is []).1 (mR [] (X.F g is []))):AA (da T P X) rs g ds b=AA (kW X) rs g ds b:=by
 simp only [AA,hr,pn hk]
theorem tp {rs:List ah} {ds:List D} {e e':cP} (h:kq rs ds e=some e') (he:∀ d aV,e ≠ .all d aV):Good X rs e':=by
 intro d aV q
 subst q
 rcases pg h with ⟨l,hl⟩|⟨hl,_⟩
 all_goals grind
theorem GJ {lo:Lo} {rs:List ah} {g:FuncId} {ds:List D} {e:cP} (h:iC lo rs g ds=some e):Good X rs e:=by
 unfold iC at h
 split at h
 case h_2=>simp at h
 rename_i d hd
 cases hp:jc d with
 | true=>rw [hp] at h; simp only [aw] at h; subst h; intro _ _ q; cases q
 | false=>
   rw [hp] at h
   grind [Bool.ay,tp]
theorem G2 {lo:Lo} {rs:List ah} {g:FuncId} {ds:List D} {b:Nat} {e:cP} (h:gH lo rs g ds b=some e):Good X rs e:=by
 unfold gH at h
 split at h
 .simp only [aw] at h; subst h; intro _ _ q; cases q
 .revert h
  generalize fo _=p
  intro h
  cases p with
  | true=>simp only [aw] at h; subst h; intro _ _ q; cases q
  | false=>exact tp h λ_ _ q=>by cases q
 all_goals grind [tp]
theorem CI {rs:List ah} {g:FuncId} {ds:List D} {k:cP->Prop} (h:FX T P X rs g ds k):∃ e,iC (da T P X) rs g ds=some e/\Good X rs e/\k e:=by
 unfold FX at h
 split at h
 case h_2=>exact h.elim
 rename_i is hr
 obtain ⟨hk,h⟩:=h
 obtain ⟨e,h1,h2⟩:=cO h
 grind [GJ,iC,Vr]
theorem Jn {rs:List ah} {g:FuncId} {ds:List D} {k:cP->Prop} (h:S2 T P X rs g ds k):∃ e,wo (da T P X) rs g ds=some e/\Good X rs e/\k e:=by
 obtain ⟨hk,h⟩:=h
 obtain ⟨h1,h2⟩:=cg.1 h
 refine ⟨_,by simp only [wo,pn hk,kW],?_,h2⟩
 intro d aV q
 simp only [cP.all.injEq] at q
 exact ⟨_,_,h1,q.2.symm⟩
theorem Y8 {rs:List ah} {r:Nat} {ds:List D} {k:cP->Prop} (h:bd3 T P X rs r ds k):∃ e,ER (da T P X) rs r ds=some e/\Good X rs e/\k e:=by
 obtain ⟨hk,h⟩:=h
 obtain ⟨h1,h2⟩:=cg.1 h
 refine ⟨_,by simp only [ER,Pa hk,kW],?_,h2⟩
 intro d aV q
 simp only [cP.all.injEq] at q
 exact ⟨_,_,h1,q.2.symm⟩
theorem Pz {lo:Lo} {rs:List ah} {f:FuncId} {ds:List D} {b:Nat} {e:cP} (h:J3 lo rs f ds b=some (true,e)):gH lo rs f ds b=some e:=by
 have tt:∀ {x:Option cP},D3 x=some (true,e)->x=some e:=λ{x} q=>by
  cases x with
  | none=>cases q
  | some y=>grind [D3]
 unfold J3 at h
 split at h
 case h_2=>cases h
 rename_i is hi
 split at h
 case h_2=>exact tt h
 rename_i q m aV hc
 split at h
 case h_2=>exact tt h
 rename_i el sz n get hq
 split at h
 case h_2=>cases h
 rename_i e' he
 simp only [aw,bN] at h
 obtain ⟨h1,rfl⟩:=h
 simp only [gH,AA,hi,hc,hq,h1]
 exact he
theorem Ph {rs:List ah} {b:Nat} {g:FuncId} {ds:List D} {k:cP->Prop} (h:JK T P X hi rs b g ds k):∃ e,qZ (da T P X) hi rs b g ds=some e/\Good X rs e/\k e:=by
 unfold JK at h
 unfold qZ
 split at h
 .rename_i hm
  simp only [hm]
  exact CI h
 .rename_i hm
  simp only [hm]
  exact Jn h
 .rename_i hm
  simp only [hm]
  split at h
  case h_2=>exact h.elim
  rename_i is hr
  obtain ⟨hk,h⟩:=h
  obtain ⟨⟨c,e⟩,h1,h2⟩:=cO h
  obtain ⟨h3,h4⟩:=cg.1 h2
  have h3:c=true:=h3
  subst h3
  have h1:=Pz h1
  grind [gH,Sz,G2]
 .rename_i hm
  simp only [hm]
  unfold aU5 at h
  split at h
  case h_2=>exact h.elim
  rename_i x hx
  obtain ⟨h2,h3⟩:=h
  obtain ⟨h4,h5⟩:=cg.1 h3
  refine ⟨.wr (some x.1) [(x.2.1,x.2.2)],?_,(by intro d aV q; cases q),h5⟩
  unfold Yb da
  simp only [hx,if_pos h2,h4]
 .rename_i hm
  simp only [hm]
  split at h
  case h_2=>exact h.elim
  rename_i is hr
  obtain ⟨hk,h⟩:=h
  obtain ⟨e,h1,h2⟩:=cO h
  refine ⟨e,by rw [<- h1]; simp only [BQ,hr,pn hk],?_,h2⟩
  obtain ⟨is',cs,tP,L,_,_,_,_,rfl⟩:=lA h1
  intro d aV q; cases q
 .rename_i h0 h1 h2 h4 h5
  split
  .grind
  .grind
  .grind
  .grind
  .grind
  .cases hp:fA ds with
   | true=>
     rw [hp] at h
     exact CI h
   | false=>
     rw [hp] at h
     exact Jn h
theorem PT {b:Nat} {f:Operand} {xs:List Operand} {k:cP->Prop} (h:K5 T P X hi b s f xs k):∃ e,mZ (da T P X) hi b s f xs=some e/\Good X s.rs e/\k e:=by
 unfold K5 at h
 unfold mZ
 split at h
 all_goals grind [Y8,Ph]
theorem SR {b:Nat} {c:Call} {dst:Option Tmp} {k:cP->Prop} (h:WI T P X hi b s c k):∃ e,gC T (da T P X) hi b s dst (.call c)=some e/\Good X s.rs e/\k e:=by
 unfold WI at h
 unfold gC
 split at h
 .rename_i d hd
  have hl:fw T s (.call c)=some d:=hd
  rw [hl]
  exact ⟨_,rfl,(λ_ _ q=>by cases q),h⟩
 .rename_i hd
  have hl:fw T s (.call c)=none:=hd
  rw [hl]
  show ∃ e,iO T (da T P X) hi b s c=some e/\Good X s.rs e/\k e
  unfold iO
  split at h
  .rename_i hc
   simp only [hc]
   obtain ⟨e,h1,h2⟩:=ae2 h
   refine ⟨e,h1,λd aV q=>?_,h2⟩
   grind [L1]
  all_goals grind [PT]
theorem Dt {b:Nat} {dst:Option Tmp} {op:Op} {k:cP->Prop} (h:WH T P X hi b s dst op k):∃ e,gC T (da T P X) hi b s dst op=some e/\Good X s.rs e/\k e:=by
 have gv:∀ d:D,Good X s.rs (.val d):=λd _ _ q=>by cases q
 unfold WH at h
 split at h
 .grind [OV,fw,gC]
 .grind [V7,fw,gC]
 .grind [O9,fw,gC]
 .grind [WR,fw,gC]
 .grind [ac4,fw,gC]
 .rename_i t x v
  obtain ⟨e,h1,h2⟩:=Ps (lo:=da T P X) (hi:=hi) (b:=b) h
  exact ⟨e,h1,λd aV q=>(Ei (q▸h1)).elim,h2⟩
 .rename_i t l c
  obtain ⟨e,h1,h2⟩:=Sm h
  refine ⟨e,h1,λd aV q=>?_,h2⟩
  subst q
  unfold nR at h1
  repeat (first|(split at h1)|(replace h1:=(Bool.ay h1).2))
  all_goals simp at h1
 .exact SR h
 .rename_i op0 n1 n2 n3 n4 n5 n6 n7 n8
  obtain ⟨e,h1,h2⟩:=cO h
  have hw:il T (da T P X) hi b s dst op=il T (kW X) hi b s dst op:=by
   cases op<;>first|(simp only [il]; done)|exact (n8 _ rfl).elim
  refine ⟨e,?_,λd aV q=>?_,h2⟩
  all_goals grind [gC,JI]
theorem zm {t:Tmp} {b:Bool}:∀ {sl:a8},eT sl t=some (bool b)->Sv t b sl=sl
 | [],h=>by simp [eT] at h
 | x::l,h=>by
   have h:(Bool.rec (eT l t) (some x.2.1) (Nat.beq x.1 t):Option D)=some (bool b):=h
   show (Bool.rec (x::Sv t b l) ((x.1,bool b,x.2.2)::l) (Nat.beq x.1 t):a8)=x::l
   cases hb:Nat.beq x.1 t with
   | true=>
     rw [hb] at h
     grind
   | false=>
     rw [hb] at h
     simp only
     rw [zm h]
theorem ka {t:Tmp} {b:Bool} {s:VS} (h:eT s.sl t=some (bool b)):xp t b s=s:=by
 unfold xp
 rw [zm h]
theorem V4 {s:VS} {c:Operand} {p:Bool} {A B:VS->Prop} (hp:jU (cF s.sl c)=some p) (h:MR s c p A B):(p=true/\A s)∨(p=false/\B s):=by
 unfold MR at h
 split at h
 .rcases ze h with ⟨rfl,h⟩|⟨rfl,h⟩
  .rw [ka (fh hp)] at h; exact .inl ⟨rfl,h⟩
  .rw [ka (fh hp)] at h; exact .inr ⟨rfl,h⟩
 .exact ze h
theorem Hr {ops:List Oper} {s:VS} {g:Option (Nat×Bool)} {A B:VS->Prop} (h:Np ops s g A B):(nW ops s.sl g=some true/\A s)∨(nW ops s.sl g=some false/\B s):=by
 unfold Np at h
 unfold nW
 split at h
 .exact .inl ⟨rfl,h⟩
 .rename_i j want
  split at h
  case h_2=>exact h.elim
  rename_i p hp
  split at h
  case h_2=>exact h.elim
  rename_i t ht
  simp only [hp,ht]
  split at h
  .rename_i hl
   exact .inr ⟨by rw [hl]; rfl,h⟩
  .rename_i d hl
   split at h
   case h_2=>exact h.elim
   rename_i x hx
   have hw:NT (eT s.sl t) want=some (Pl x want):=by
    grind [NT]
   rw [hw]
   have hlk:=fh hx
   cases want with
   | true=>
     rcases ze (b:=x) h with ⟨rfl,h⟩|⟨rfl,h⟩
     .exact .inl ⟨rfl,by rw [ka hlk] at h; exact h⟩
     .exact .inr ⟨rfl,by rw [ka hlk] at h; exact h⟩
   | false=>
     rcases ze (b:=x) h with ⟨rfl,h⟩|⟨rfl,h⟩
     .exact .inr ⟨rfl,by rw [ka hlk] at h; exact h⟩
     .exact .inl ⟨rfl,by rw [ka hlk] at h; exact h⟩
theorem Rn {dst:Option Tmp} {k:VS->Prop} {again:List Nat->Prop} {e:cP} (h:MZ N s dst k again e):(∃ l,e=.cU l/\again l)∨((∀ l,e ≠ .cU l)/\∃ s',sA N s dst e=some s'/\k s'):=by
 unfold MZ at h
 split at h
 .grind
 .rename_i hn
  exact .inr ⟨hn,cO h⟩
theorem U4 {dst:Option Tmp} {op:Op} {k:VS->Prop} (h:WY T P X hi N s dst op k):∃ s',Hy T (da T P X) hi N s dst op=some s'/\k s':=by
 unfold WY at h
 obtain ⟨e,h1,_,h2⟩:=Dt h
 grind [Hy,Rn,cO,Dt,QI]
theorem au0 {ops:List Oper} {o:Oper} {k:VS->Prop} (h:opW T P X hi N ops s o k):∃ s',opF T (da T P X) hi N ops s o=some s'/\k s':=by
 unfold opW at h
 unfold opF
 rcases Hr h with ⟨h1,h2⟩|⟨h1,h2⟩
 .rw [h1]; exact U4 h2
 .rw [h1]; exact cO h2
theorem Om {ops:List Oper}:∀ (l:List Oper) {s:VS} {k:VS->Prop},aC6 T P X hi N ops l s k->∃ s',Pv T (da T P X) hi N ops l s=some s'/\k s'
 | [],s,k,h=>⟨s,rfl,h⟩
 | o::l,s,k,h=>by
   have h:opW T P X hi N ops s o (λs'=>aC6 T P X hi N ops l s' k):=h
   obtain ⟨s1,h1,h2⟩:=au0 h
   obtain ⟨s2,h3,h4⟩:=Om l h2
   grind [Pv]
theorem IZ {cJ:List Nat} {i b:Nat} {ops:List Oper} {o:Oper} {k:VS->Fst->Prop} (h:evalW T P X hi cJ i b ops s o k):∃ u,lP T (da T P X) hi cJ i b ops s o=some u/\k s u:=by
 unfold evalW at h
 unfold lP
 rcases Hr h with ⟨h1,h2⟩|⟨h1,h2⟩
 .rw [h1]
  obtain ⟨e,h3,h4,h5⟩:=Dt h2
  simp only [h3]
  unfold aV1 at h5
  obtain ⟨u,h6,h7⟩:=cO h5
  cases e with
  | val d=>
    grind [ua]
  | wr d ws=>
    grind [ua]
  | cU l=>
    grind [ua]
  | all d aV=>
    simp only [ua] at h6 ⊢
    cases hb:HC cJ i with
    | true=>
      rw [hb] at h6
      grind
    | false=>
      rw [hb] at h6
      have h6:RZ (kW X) o.dst d s.rs aV=some u:=h6
      show ∃ u,RZ (da T P X) o.dst d s.rs aV=some u/\k s u
      unfold RZ at h6 ⊢
      simp only [kW] at h6
      obtain ⟨h8,h9⟩:=Bool.ay h6
      simp only [aw] at h9
      subst h9
      obtain ⟨BH,UL⟩:=cg.1 h7
      have hd:(da T P X).diff s.rs aV=some (l1 X.S aV):=by
       simp only [da]
       rw [if_pos ⟨h4 d aV rfl,BH⟩]
      grind
 grind
theorem Cq {cJ:List Nat} {ops:List Oper}:∀ (l:List Oper) {k b:Nat} {W:List (Nat×List Nat)} {s:VS} {q:If->Prop},EJ T P X hi N cJ ops l k b W s q->∃ r,ng T (da T P X) hi N cJ ops l k b W s=some r/\q r
 | [],k,b,W,s,q,h=>⟨_,rfl,h⟩
 | o::l,k,b,W,s,q,h=>by
   have h:evalW T P X hi cJ k b ops s o (λs u=>match u with
    | .ok u=>nd (GA N u.dst u.val) (EJ T P X hi N cJ ops l (k+1) (b+eL o.op) (I2 k u W) (u.on s) q)
    | .cU c=>q (.cU c)):=h
   obtain ⟨u,h1,h2⟩:=IZ h
   have hf:ng T (da T P X) hi N cJ ops (o::l) k b W s=(match lP T (da T P X) hi cJ k b ops s o with
    | some (.ok u)=>Bool.rec none (ng T (da T P X) hi N cJ ops l (k+1) (b+eL o.op) (I2 k u W) (u.on s)) (GA N u.dst u.val)
    | some (.cU c)=>some (.cU c)
    | none=>none):=rfl
   rw [hf,h1]
   cases u with
   | cU c=>exact ⟨_,rfl,h2⟩
   | ok u=>
     obtain ⟨h3,h4⟩:=cg.1 h2
     obtain ⟨r,h5,h6⟩:=Cq l h4
     simp_all
theorem z7 {ops:List Oper} {cJ:List Nat} {W:List (Nat×List Nat)}:∀ (l:List Oper) {ms:List Nat} {i b:Nat} {s:VS} {q:VS->Prop},Dh T P X hi N ops cJ W l ms i b s q->∃ r,lj T (da T P X) hi N ops cJ W l ms i b s=some r/\q r
 | [],ms,i,b,s,q,h=>⟨_,rfl,h⟩
 | o::l,ms,i,b,s,q,h=>by
   cases ms with
   | nil=>exact (show False from h).elim
   | cons m ms=>
     have h:evalW T P X hi cJ i b ops (YR (eK cJ i m W) s) o (λs1 u=>match u with
      | .ok u=>nd (GA N u.dst u.val&&(El (u.ws.map (·.1)) (py i W)&&(oB (u.ws.map (·.1)) (eK cJ i m W)&&Xc u.ex (eK cJ i m W)))) (Dh T P X hi N ops cJ W l ms (i+1) (b+eL o.op) (u.on { s with sl:=s1.sl }) q)
      | .cU _=>False):=h
     obtain ⟨u,h1,h2⟩:=IZ h
     have Qv:(YR (eK cJ i m W) s).sl=s.sl:=by cases eK cJ i m W<;>rfl
     simp only [Qv] at h2
     have hf:lj T (da T P X) hi N ops cJ W (o::l) (m::ms) i b s=(match lP T (da T P X) hi cJ i b ops (YR (eK cJ i m W) s) o with
      | some (.ok u)=>Bool.rec none (lj T (da T P X) hi N ops cJ W l ms (i+1) (b+eL o.op) (u.on s)) (GA N u.dst u.val&&(El (u.ws.map (·.1)) (py i W)&&(oB (u.ws.map (·.1)) (eK cJ i m W)&&Xc u.ex (eK cJ i m W))))
      | _=>none):=rfl
     rw [hf,h1]
     cases u with
     | cU c=>exact h2.elim
     | ok u=>
       obtain ⟨h3,h4⟩:=cg.1 h2
       obtain ⟨r,h5,h6⟩:=z7 l h4
       simp_all
theorem Cx {ops:List Oper}:∀ (n:Nat) {s:VS} {k:VS->Prop},JN T P X hi N ops n s k->∃ s',Af T (da T P X) hi N ops n s=some s'/\k s'
 | 0,s,k,h=>(show False from h).elim
 | n+1,s,k,h=>by
   have h:EJ T P X hi N (jT ops []) ops ops 0 s.rs.length [] (gb ops s) (λr=>match r with
    | .cU l=>gR (ie l s) λs'=>JN T P X hi N ops n s' k
    | .ok W s'=>FQ T P X hi N ops (gb ops s) s' s.rs.length W k):=h
   obtain ⟨r,h1,h2⟩:=Cq _ h
   have hf:Af T (da T P X) hi N ops (n+1) s=(match ng T (da T P X) hi N (jT ops []) ops ops 0 s.rs.length [] (gb ops s) with
    | some (.cU l)=>match ie l s with
      | some s'=>Af T (da T P X) hi N ops n s'
      | none=>none
    | some (.ok W s')=>CD T (da T P X) hi N ops (gb ops s) s' s.rs.length W
    | none=>none):=rfl
   rw [hf,h1]
   cases r with
   | cU l=>
     obtain ⟨s1,h3,h4⟩:=cO h2
     simp only [h3]
     exact Cx n h4
   | ok W s' =>
     have h2:FQ T P X hi N ops (gb ops s) s' s.rs.length W k:=h2
     show ∃ s2,CD T (da T P X) hi N ops (gb ops s) s' s.rs.length W=some s2/\k s2
     unfold FQ at h2
     grind [CD,z7]
theorem Le {f:FuncId} {ro:Option Nat} {id:Nat} {ops:List Oper} {draw:Bool} {k:VS->Prop} (h:yy T P X hi N f ro id ops draw s k):∃ s',regionF T (da T P X) hi N f ro id ops draw s=some s'/\k s':=by
 unfold yy at h
 cases draw with
 | false=>
   obtain ⟨s1,h1,h2⟩:=Om _ h
   refine ⟨_,?_,h2⟩
   show (match Pv T (da T P X) hi N ops ops s with
    | some s'=>some (uK hi f id s')
    | none=>none)=_
   rw [h1]
 | true=>
   simp only at h
   cases ro with
   | some r=>grind
   | none=>
   simp only at h
   split at h
   case h_2=>exact h.elim
   rename_i ny
   obtain ⟨s1,h1,h2⟩:=Cx _ h
   refine ⟨_,?_,h2⟩
   show (match vn ops with
    | true=>match Af T (da T P X) hi N ops 8 s with
      | some s'=>some (uK hi f id s')
      | none=>none
    | false=>none)=_
   rw [ny,h1]
end
open Go.RowKit
section
variable {P:Program} {T:ec} {X:eU} {hi:Hint} {N:Nat} {f:FuncId}
theorem xj (p:Nat×ah) (ws:List (Nat×ah)) (rs:List ah):writes (p::ws) rs=writes ws (rs.set p.1 p.2):=by
 show writes ws (setAt rs p.1 p.2)=_
 rw [bg]
theorem pD {q:Nat}:∀ {ws:List (Nat×ah)} {rs:List ah},(∀ p∈ws,p.1≠q)->(writes ws rs)[q]?=rs[q]?
 | [],rs,_=>rfl
 | p::ws,rs,h=>by
   rw [xj,pD λy hy=>h y (gJ _ hy),jv,if_neg (h p (kz ..))]
theorem xh {q:Nat} {x:ah}:∀ {ws:List (Nat×ah)} {rs:List ah},q<rs.length->(∀ p∈ws,p.1=q->p.2=x)->((∃ p∈ws,p.1=q)∨rs[q]?=some x)->(writes ws rs)[q]?=some x
 | [],rs,hq,h,k=>by
   rcases k with ⟨p,hp,_⟩|k
   .cases hp
   .exact k
 | p::ws,rs,hq,h,k=>by
   rw [xj]
   refine xh (by simpa using hq) (λy hy=>h y (gJ _ hy)) ?_
   grind
theorem zE {S:List Nat}:∀ {ws:List (Nat×ah)},IW S ws=true->∀ p∈ws,p.1∈S
 | [],_,p,hp=>by cases hp
 | y::ws,h,p,hp=>by
   obtain ⟨h1,h2⟩:=Bool.gU (show (Bool.rec false (IW S ws) (qj y.1 S):Bool)=true from h)
   rcases List.mem_cons.1 hp with rfl|hp
   .exact lu.1 h1
   .exact zE h2 p hp
theorem Ch {n:Nat}:∀ {ws:List (Nat×ah)},VV n ws=true->∀ p∈ws,iE n p.2=true
 | [],_,p,hp=>by cases hp
 | y::ws,h,p,hp=>by
   obtain ⟨h1,h2⟩:=Bool.gU (show (Bool.rec false (VV n ws) (iE n y.2):Bool)=true from h)
   rcases List.mem_cons.1 hp with rfl|hp
   .exact h1
   .exact Ch h2 p hp
theorem L9 (q:Nat) (S:List Nat) (aV:List ah):l1 (q::S) aV=(match aV[q]? with
 | some x=>(q,x)::l1 S aV
 | none=>l1 S aV):=by
 grind [l1,cj]
theorem oq {aV:List ah}:∀ {S:List Nat} {p:Nat×ah},p∈l1 S aV↔p.1∈S/\aV[p.1]?=some p.2
 | [],p=>by simp [l1]
 | q::S,p=>by
   rw [L9]
   split
   .rename_i x hx
    rw [List.mem_cons,oq,List.mem_cons]
    grind
   .rename_i hx
    rw [oq,List.mem_cons]
    grind
theorem VD (S:List Nat):∀ rs aV,Grown S rs aV->VV rs.length (l1 S aV)=true->∀ (q:Nat) (x:ah),(writes (l1 S aV) rs)[q]?=some x->aV[q]?=some x/\(rs[q]?=some x∨iE rs.length x=true):=by
 rintro rs aV ⟨ws,ex,hk,rfl⟩ hl q x hx
 have hq:q<rs.length:=by
  grind [iF]
 have IL:(writes ws rs++ex)[q]?=(writes ws rs)[q]?:=iz (by rw [iF]; exact hq)
 have eW:q<(writes ws rs).length:=by rw [iF]; exact hq
 by_cases hS:q∈S
 .have hy:=ib eW
  generalize (writes ws rs)[q]=y at hy
  have hm:(q,y)∈l1 S (writes ws rs++ex):=oq.2 ⟨hS,by rw [IL]; exact hy⟩
  have hs:=xh (ws:=l1 S (writes ws rs++ex)) (x:=y) hq (λp hp hpq=>by
   grind [oq]) (.inl ⟨_,hm,rfl⟩)
  rw [hx] at hs
  simp only [aw] at hs
  subst hs
  exact ⟨by rw [IL]; exact hy,.inr (Ch hl _ hm)⟩
 .have h1:(writes (l1 S (writes ws rs++ex)) rs)[q]?=rs[q]?:=pD λp hp e=>hS (e▸(oq.1 hp).1)
  have h2:(writes ws rs)[q]?=rs[q]?:=pD λp hp e=>hS (e▸zE hk p hp)
  grind
theorem yR {rs rT:List ah} (hle:∀ (q:Nat) (x:ah),bh rs q=some x->x.live->bh rT q=some x):∀ (r:Rd) {o:D×Nat×ah},Aa rs r=some o->Aa rT r=some o
 | .no,o,h=>by cases h
 | .ret _,_,h=>h
 | .get q k,o,h=>by
   have h:(match bh rs q with
    | some x=>match x with
      | .dead=>none
      | x=>Aa rs (k x)
    | none=>none)=some o:=h
   show (match bh rT q with
    | some x=>match x with
      | .dead=>none
      | x=>Aa rT (k x)
    | none=>none)=some o
   cases hx:bh rs q with
   | none=>rw [hx] at h; simp at h
   | some x=>
     rw [hx] at h
     cases x with
     | dead=>simp at h
     | _=>
       rw [hle _ _ hx trivial]
       exact yR hle _ h
theorem zx (T:ec) (P:Program) (X:eU):iv T P (da T P X) where
 call f ds rs d aV e:=by
  unfold da at e
  dsimp only at e
  split at e
  .rename_i hk
   simp only [aw,bN] at e
   obtain ⟨rfl,rfl⟩:=e
   exact hk.out
  .simp at e
 Wl r ds rs d aV e:=by
  unfold da at e
  dsimp only at e
  split at e
  .rename_i hk
   simp only [aw,bN] at e
   obtain ⟨rfl,rfl⟩:=e
   exact hk.out
  .simp at e
 diff rs aV ws e:=by
  grind [da,VD]
 wr f ds rs d q x e:=by
  unfold da at e
  dsimp only at e
  split at e
  case h_2=>simp at e
  rename_i y hy
  split at e
  .rename_i hk
   simp only [aw] at e
   have h:=hk.out rs rfl (λ_ _ q _=>q)
   rw [e] at h
   exact h.out
  .simp at e
 mono f ds rs rT r hlen hle e:=by
  unfold da at e ⊢
  dsimp only at e ⊢
  split at e
  case h_2=>simp at e
  rename_i y hy
  split at e
  .rename_i hk
   simp only [yR hle _ hy]
   rw [if_pos ⟨λrs3 h3 h4=>hk.out rs3 (hlen.trans h3) λk z hz hl=>h4 k z (hle k z hz hl) hl⟩]
   exact e
  .simp at e
def Goal (P:Program) (T:ec) (N:Nat) (b:Frame) (cs:List Frame) (ro:Option Nat) (n0:Nat) (eM:Option Code->VS->Prop) (todo:List Item) (s:VS):Prop:=
 ∀ (aA:Nat->Prop) (w0:Kp) (sp:List (D×Value)) (a:Act) (w:World) (E:Env),n0<=s.rs.length->(∀ x∈sp,kf n0 x.1=true)->ju (E.take n0) b ro->R T N aA w0 sp s a w E->bT s.sl->
  ∃ j s' a' w' E' dN,Kept (E.take n0) E'/\R T N aA w0 sp s' a' w' E'/\bT s'.sl/\w7 j dN/\eM j s'/\Steps P (lone (b.atR a todo) cs w) (lone (b.atR a' dN) cs w')
theorem PS {ro:Option Nat} {g:Operand} {ps:List Tmp} {as bd:Code} {s:VS} {k:Option Code->VS->Prop} (h:Gi T P X N f ro g ps as bd s k):∃ lo j s',iv T P lo/\ru lo N f ro g ps as bd s=some (j,s')/\k j s':=by
 unfold Gi at h
 split at h
 .exact h.elim
 split at h
 case h_2=>exact h.elim
 rename_i c hc
 split at h
 case h_2=>exact h.elim
 rename_i hf eO LV
 have fin:∀ (lo:Lo) (d:D) (aV:List ah),iv T P lo->lo.call hf (.c (.yl (s.rs.length+1))::eO) (s.rs++[.mi,.loop f N s.sl ps as bd .ready none])=some (d,aV)->Gh s.rs.length s aV k->∃ lo j s',iv T P lo/\ru lo N f none g ps as bd s=some (j,s')/\k j s':=by
  intro lo d aV Ll xu hk
  unfold Gh at hk
  split at hk
  .rename_i hr
   exact ⟨lo,_,_,Ll,by simp only [ru,hc,LV,xu,hr],hk⟩
  .rename_i hr
   exact ⟨lo,_,_,Ll,by simp only [ru,hc,LV,xu,hr],hk⟩
  .exact hk.elim
 unfold Sf at h
 rcases ze h with ⟨_,h1,h2⟩|⟨_,h1,h2⟩
 .exact fin (da T P { X with F:=X.R1 }) _ _ (zx _ _ _) (by simp only [da]; rw [if_pos h1]) h2
 .exact fin (da T P { X with F:=X.R2 }) _ _ (zx _ _ _) (by simp only [da]; rw [if_pos h1]) h2
theorem ju.take {E E':Env} {b:Frame} {ro:Option Nat} {n:Nat} (hk:Kept E E') (h:ju (E.take n) b ro):ju (E'.take n) b ro:=h.mono (hk.take n).le
theorem yN (bZ:dU P T) (Gs:P.follows .mixedOrders=true) {b:Frame} (KM:b.fn=f) {cs:List Frame} {ro:Option Nat} {n0:Nat} {eM:Option Code->VS->Prop} {stop:Nat->Bool} {L:List Item->VS->Prop} {Q:Option Code->VS->Prop}
  (hL:∀ todo s,L todo s->Goal P T N b cs ro n0 eM todo s) (hQ:∀ j s,Q j s->eM j s) :
  ∀ (n:Nat) {go:Bool} {todo:List Item} {s:VS},wS T P X hi N f ro stop L Q n go todo s->Goal P T N b cs ro n0 eM todo s
 | 0,go,todo,s,e=>(show False from e).elim
 | n+1,go,todo,s,e=>by
   intro aA w0 sp a w E vo eb Jv h hn
   have hl:=zx T P X
   have run:∀ {Pt:Bool} {fQ:List Item} {s1:VS} {a1:Act} {w1:World} {E1:Env},wS T P X hi N f ro stop L Q n Pt fQ s1->Kept E E1->R T N aA w0 sp s1 a1 w1 E1->bT s1.sl->Steps P (lone (b.atR a todo) cs w) (lone (b.atR a1 fQ) cs w1)->
     ∃ j s' a' w' E' dN,Kept (E.take n0) E'/\R T N aA w0 sp s' a' w' E'/\bT s'.sl/\w7 j dN/\eM j s'/\Steps P (lone (b.atR a todo) cs w) (lone (b.atR a' dN) cs w'):=by
    intro Pt fQ s1 a1 w1 E1 e1 hk h1 hn1 ny
    have hlen:n0<=s1.rs.length:=by
     have:=hk.len
     rw [h.len,h1.len] at this
     omega
    obtain ⟨j,s',a',w',E',dN,q1,q2,q3,q4,q5,q6⟩:=yN bZ Gs KM hL hQ n e1 aA w0 sp a1 w1 E1 hlen eb (Jv.take hk) h1 hn1
    exact ⟨j,s',a',w',E',dN,(hk.take n0).trans q1,q2,q3,q4,q5,ny.trans q6⟩
   have dP:∀ {c:Option Code},Q c s->w7 c todo->∃ j s' a' w' E' dN,Kept (E.take n0) E'/\R T N aA w0 sp s' a' w' E'/\bT s'.sl/\w7 j dN/\eM j s'/\Steps P (lone (b.atR a todo) cs w) (lone (b.atR a' dN) cs w'):=
    λhq he=>⟨_,s,a,w,E,todo,Kept.mv E n0,h,hn,he,hQ _ _ hq,Steps.refl _ _⟩
   have hroE:ju E b ro:=Jv.mono (Kept.mv E n0).le
   cases todo with
   | nil=>exact dP (c:=none) e rfl
   | cons x k=>
     cases x with
     | inBlock id=>exact run (fQ:=k) (s1:=s) e (Kept.refl E) h hn (.one stepR_inBlock)
     | inLoop c=>exact run (fQ:=.code c::.inLoop c::k) (s1:=s) e (Kept.refl E) h hn (.one stepR_inLoop)
     | beginRound=>
       obtain ⟨s1,hs1,e⟩:=cO (show gR (wC ro s) (λs'=>wS T P X hi N f ro stop L Q n go k s') from e)
       obtain ⟨w',h1,h2,h3⟩:=IX h hroE hs1
       exact run e (Kept.refl E) h1 (by rw [h2]; exact hn) h3
     | code c=>
       cases c with
       | skip=>exact run (fQ:=k) (s1:=s) e (Kept.refl E) h hn (.one stepR_skip)
       | label l=>exact run (fQ:=k) (s1:=s) e (Kept.refl E) h hn (.one stepR_label)
       | ret=>exact dP (c:=some .ret) e (.inl ⟨k,rfl,rfl⟩)
       | seq x y=>exact run (fQ:=.code x::.code y::k) (s1:=s) e (Kept.refl E) h hn (.one stepR_seq)
       | cond c x y=>
         have e:(match jU (cF s.sl c) with
          | some p=>MR s c p (wS T P X hi N f ro stop L Q n go (.code x::k)) (wS T P X hi N f ro stop L Q n go (.code y::k))
          | none=>False):=e
         split at e
         case h_2=>exact e.elim
         rename_i p hp
         have hv:a.eval c=.bool p:=(h.cF hn (fh hp)).1
         have ny:=Steps.one (stepR_cond (P:=P) (b:=b) (k:=k) (cs:=cs) (w:=w) (x:=x) (y:=y) hv)
         grind [V4,Kept.refl]
       | block id c=>exact run (fQ:=.code c::.inBlock id::k) (s1:=s) e (Kept.refl E) h hn (.one stepR_block)
       | loop c=>exact run (fQ:=.code c::.inLoop c::k) (s1:=s) e (Kept.refl E) h hn (.one stepR_loop)
       | exit id=>
         have e:(match exitTo id k with
          | some k'=>wS T P X hi N f ro stop L Q n go k' s
          | none=>Q (some (.exit id)) s):=e
         split at e
         .rename_i k' qD
          exact run e (Kept.refl E) h hn (.one (stepR_exit qD))
         .rename_i qD
          exact dP e (.inr ⟨id,k,rfl,rfl,qD⟩)
       | region id ops draw=>
         have e0:Bool.rec (yy T P X hi N f ro id ops.toList draw s λs'=>wS T P X hi N f ro stop L Q n false k s') (L (.code (.region id ops draw)::k) s) (!go&&stop id):=e
         clear e
         cases hgo:(!go&&stop id) with
         | true=>
           rw [hgo] at e0
           exact hL _ _ e0 aA w0 sp a w E vo eb Jv h hn
         | false=>
           rw [hgo] at e0
           obtain ⟨s1,hs1,e⟩:=Le e0
           cases draw with
           | false=>
             obtain ⟨a',w',E',q1,q2,q3,q4⟩:=zn (b:=b) (k:=k) (cs:=cs) bZ hl h hn hs1
             exact run e q1 q2 q3 q4
           | true=>
             obtain ⟨a',w',E',q1,q2,q3,q4⟩:=HO (b:=b) (k:=k) (cs:=cs) bZ hl Gs h hn hs1
             exact run e q1 q2 q3 q4
       | rangeFunc g ps as bd=>
         obtain ⟨lo,j1,s1,Ll,hs1,e⟩:=PS (show Gi T P X N f ro g ps.toList as bd s (λj s'=>wS T P X hi N f ro stop L Q n false (Dd j k) s') from e)
         obtain ⟨a',w',E',q1,q2,q3,q4⟩:=Jk (k:=k) (cs:=cs) Ll h hn KM hroE hs1
         grind
       | _=>exact (show False from e).elim
     | _=>exact (show False from e).elim
end
open Go.RowKit
section
variable {P:Program} {T:ec} {N:Nat} {aA:Nat->Prop} {w0:Kp} {sp:List (D×Value)} {s:VS} {a:Act} {w w':World} {E E':Env} {f:FuncId}
def aX (d d':D):Prop:=∀ (E:Env) (av:Nat->Prop) (w:World) (v:Value),bj E av w d v->bj E av w d' v
theorem aX.refl (d:D):aX d d:=λ_ _ _ _ h=>h
def jF (n:Nat) (x:ah):Prop:=iE n x=true∨∃ f N sl ps as bd st fP,x=.loop f N sl ps as bd st fP/\∀ t d c,look sl t=some (d,c)->kf n d=true
theorem Lq {n m:Nat} (h:n<=m) {l:List Nat} (e:zc n l=true):zc m l=true:=Bk λr hr=>Nat.lt_of_lt_of_le (sX e r hr) h
theorem v8 {n m:Nat} (h:n<=m) {x:C} (e:xH n x=true):xH m x=true:=by
 cases x with
 | im x=>rfl
 | rt r i j=>exact mg (Nat.lt_of_lt_of_le (bc e) h)
 | sa r k=>exact mg (Nat.lt_of_lt_of_le (bc e) h)
 | mp r=>exact mg (Nat.lt_of_lt_of_le (bc e) h)
 | yl r=>exact mg (Nat.lt_of_lt_of_le (bc e) h)
 | ow r j=>exact mg (Nat.lt_of_lt_of_le (bc e) h)
 | fL f l=>exact Lq h e
theorem oU {n m:Nat} (h:n<=m) {l:List C} (e:jm n l=true):jm m l=true:=uu λx hx=>v8 h (jb e x hx)
theorem CR {n m:Nat} (h:n<=m):∀ {l:List (Bool×List C)},DM n l=true->DM m l=true
 | [],_=>rfl
 | y::l,e=>by
   obtain ⟨h1,h2⟩:=Bool.gU (show (Bool.rec false (DM n l) (jm n y.2):Bool)=true from e)
   show (Bool.rec false (DM m l) (jm m y.2):Bool)=true
   rw [oU h h1]
   exact CR h h2
theorem rv {n m:Nat} (h:n<=m) {d:D} (e:kf n d=true):kf m d=true:=by
 cases d with
 | c x=>exact v8 h e
 | a l=>exact oU h e
 | t l=>exact CR h e
theorem AO {n:Nat}:∀ {l:List Fc},(∀ x∈l,Av n x=true)->w9 n l=true
 | [],_=>rfl
 | y::l,h=>by
   show (Bool.rec false (w9 n l) (Av n y):Bool)=true
   rw [h y (kz ..)]
   exact AO λx hx=>h x (gJ _ hx)
theorem PD {n m:Nat} (h:n<=m) {x:Fc} (e:Av n x=true):Av m x=true:=by
 cases x with
 | c x=>exact v8 h e
 | o x=>rfl
theorem Lt {n m:Nat} (h:n<=m) {l:List Fc} (e:w9 n l=true):w9 m l=true:=AO λx hx=>PD h (tB e x hx)
theorem OJ {n m:Nat} (h:n<=m) {x:ah} (e:iE n x=true):iE m x=true:=by
 cases x with
 | box l=>exact oU h e
 | row el sz k l=>exact oU h e
 | bo el sz k get eI=>
   cases eI with
   | none=>rfl
   | some x=>exact Lt h e
 | loop f N sl ps as bd st fP=>simp [iE] at e
 | _=>rfl
theorem jF.mono {n m:Nat} (h:n<=m) {x:ah}:jF n x->jF m x
 | .inl e=>.inl (OJ h e)
 | .inr ⟨f,N,sl,ps,as,bd,st,fP,e,k⟩=>.inr ⟨f,N,sl,ps,as,bd,st,fP,e,λt d c q=>rv h (k t d c q)⟩
theorem ba.low {av:Nat->Prop} {base:Nat} {e:fG} {x:ah} (h:ba E av base w e x):jF E.length x:=by
 cases x with
 | dead=>exact .inl rfl
 | box l=>obtain ⟨_,_,_,_,_,_,p⟩:=h; exact .inl (L.low p)
 | arr el sz n get=>exact .inl rfl
 | row el sz n l=>obtain ⟨_,_,_,_,p⟩:=h; exact .inl (L.low p)
 | bo el sz n get eI=>
   obtain ⟨_,_,xs,_,Ks,_,hf,p⟩:=h
   cases eI with
   | none=>exact .inl rfl
   | some x=>
     obtain ⟨h1,h2⟩:=hf x rfl
     refine .inl (AO λc hc=>?_)
     grind [List.getElem_of_mem,gy,Nat.beq_refl,bz,jq.low]
 | own l=>exact .inl rfl
 | set l=>exact .inl rfl
 | mi=>exact .inl rfl
 | loop f N sl ps as bd st fP=>
   obtain ⟨b,db,tm,p1,p2,p3,p4,p5⟩:=h
   refine .inr ⟨f,N,sl,ps,as,bd,st,fP,rfl,λt d c q=>?_⟩
   have hcn:c=[]:=p5 _ (jl q)
   subst hcn
   exact bj.low ((p4 t d [] q).2.1 λp hp=>by cases hp)
theorem R.cut {sl:a8} {rs:List ah} {df:List Nat} (h:R T N aA w0 sp ⟨sl,rs,df⟩ a w E) {n:Nat} (hn:n<=rs.length) (hsp:∀ x∈sp,kf n x.1=true) (Qv:∀ t d,look sl t=some (d,[])->kf n d=true) (te:∀ t d c,look sl t=some (d,c)->c=[])
  (US:∀ r∈df,r<n) (Ju:∀ (q:Nat) (x:ah),(rs.take n)[q]?=some x->jF n x):R T N aA w0 sp ⟨sl,rs.take n,df⟩ a w (E.take n):=by
 have hk:=Kept.mv E n
 have hEl:(E.take n).length=n:=by rw [List.length_take,h.len]; exact Nat.min_eq_left hn
 have jQ:∀ {r b sz:Nat},dt (E.take n) r b sz->dt E r b sz:=λ⟨hh,q,q2⟩=>⟨hh,by
  grind,q2⟩
 have hr:∀ {q:Nat} {x:ah},(rs.take n)[q]?=some x->rs[q]?=some x:=λq=>by
  grind
 have fa:∀ b,AV aA (rs.take n) (E.take n) b->AV aA rs E b:=by
  rintro b (q|⟨r,x,sz,h1,h2,h3⟩)
  .exact .inl q
  .exact .inr ⟨r,x,sz,hr h1,h2,jQ h3⟩
 have hD:∀ {d:D} {v:Value},kf n d=true->bj E (AV aA rs E) w d v->bj (E.take n) (AV aA (rs.take n) (E.take n)) w d v:=λhl q=>bj.shrink hk fa (by rw [hEl]; exact hl) q
 have hC:∀ {l:List C} {cs:List Value},jm n l=true->aF (bp E (AV aA rs E) w) l cs->aF (bp (E.take n) (AV aA (rs.take n) (E.take n)) w) l cs:=λhl q=>q.shrink λx hx y p=>bp.shrink hk fa (by rw [hEl]; exact jb hl x hx) p
 have hdef:∀ {df:List Nat} {ds:List Deferred},(∀ r∈df,r<n)->aF (λr (d:Deferred)=>∃ b sz,bB E r b sz/\d={ target:=.collected b,args := #[] }) df ds->aF (λr (d:Deferred)=>∃ b sz,bB (E.take n) r b sz/\d={ target:=.collected b,args := #[] }) df ds:=by
  intro df ds h1 h2
  refine h2.shrink λr ZR d ⟨b,sz,⟨hh,q⟩,e⟩=>⟨b,sz,⟨hh,?_⟩,e⟩
  grind
 refine ⟨h.size,hdef US h.defers,λx hx=>hD (hsp x hx) (h.spec x hx),h.below,by grind,h.outer,?_,λr x b sz h1 h2 h3=>h.dp r x b sz (hr h1) h2 (jQ h3),λr r' x x' b sz dE h1 nD h2 ig h3 lD=>h.dT r r' x x' b sz dE (hr h1) (hr nD) h2 ig (jQ h3) (jQ lD),?_,h.gP.mono (bl.refl _ w) (λb _ q=>fa b q)⟩
 .intro r x e h1 h2
  have hE:E[r]?=some e:=by
   grind
  have hrel:=h.roots r x e (hr h1) hE
  have eb:=Ju r x h1
  cases x with
  | dead=>trivial
  | box l=>
    obtain ⟨b,cs,Tc,p1,p2,p3,p4⟩:=hrel
    rcases eb with eb|⟨_,_,_,_,_,_,_,_,e,_⟩
    .exact ⟨b,cs,Tc,p1,p2,p3,hC eb p4⟩
    .cases e
  | row el sz k l=>
    obtain ⟨p1,p2,xs,p3,p4⟩:=hrel
    rcases eb with eb|⟨_,_,_,_,_,_,_,_,e,_⟩
    .exact ⟨p1,p2,xs,p3,hC eb p4⟩
    .cases e
  | arr el sz k get=>
    obtain ⟨p1,p2,xs,p3,p4⟩:=hrel
    refine ⟨p1,p2,xs,p3,λi hi j hj=>?_⟩
    obtain ⟨x,p5,p6⟩:=p4 i hi j hj
    exact ⟨x,p5,dw.mono (bl.refl _ w) (λb _ q=>fa b q) p6⟩
  | bo el sz k get eI=>
    obtain ⟨p1,p2,xs,p3,Ks,p4,pf,p5⟩:=hrel
    refine ⟨p1,p2,xs,p3,Ks,p4,pf,λi hi j hj=>?_⟩
    obtain ⟨x,c,p6,p7,p8⟩:=p5 i hi j hj
    refine ⟨x,c,p6,p7,jq.shrink hk fa ?_ p8⟩
    rw [hEl]
    rcases eb with eb|⟨_,_,_,_,_,_,_,_,e,_⟩
    .exact IV eb p7
    .cases e
  | own l=>
    obtain ⟨p1,p2,vs,p3,p4,Ks,p5,p6,p7⟩:=hrel
    refine ⟨p1,p2,vs,p3,p4,Ks,p5,p6,λi o ho=>?_⟩
    obtain ⟨v,g1,g2⟩:=p7 i o ho
    exact ⟨v,g1,fx.mono (bl.refl _ w) (λb _ q=>fa b q) (λ_ _=>rfl) g2⟩
  | set l=>exact hrel
  | mi=>exact hrel
  | loop f M gB ps as bd st fP=>
    obtain ⟨b,db,tm,p1,p2,p3,p4,p5⟩:=hrel
    rcases eb with eb|⟨_,_,_,_,_,_,_,_,e,eb⟩
    .simp [iE] at eb
    .simp only [ah.loop.injEq] at e
     obtain ⟨rfl,rfl,rfl,rfl,rfl,rfl,rfl,rfl⟩:=e
     exact ⟨b,db,tm,p1,p2,p3,λt d c hl=>by
      obtain ⟨s1,s2,s3⟩:=p4 t d c hl
      grind,p5⟩
 .intro t d c hl
  have hcn:=te t d c hl
  subst hcn
  obtain ⟨s1,s2,s3⟩:=h.slots t d [] hl
  grind
def Oh (x y:ah):Prop:=y=x∨∃ f N sl ps a b st pd st' pd',x=.loop f N sl ps a b st pd/\y=.loop f N sl ps a b st' pd'
theorem Oh.low {n:Nat} {x y:ah} (h:Oh x y) (hx:jF n x):jF n y:=by
 rcases h with rfl|⟨f,N,sl,ps,a,b,st,pd,st',pd',rfl,rfl⟩
 .exact hx
 .rcases hx with h|⟨_,_,_,_,_,_,_,_,e,k⟩
  .simp [iE] at h
  .simp only [ah.loop.injEq] at e
   obtain ⟨rfl,rfl,rfl,rfl,rfl,rfl,rfl,rfl⟩:=e
   exact .inr ⟨_,_,_,_,_,_,_,_,rfl,k⟩
def Im (n:Nat):List ah->List ah->Prop
 | _,[]=>True
 | [],y::l=>iE n y=true/\Im n [] l
 | x::k,y::l=>(Oh x y∨iE n y=true)/\Im n k l
theorem wK {n:Nat}:∀ {k l:List ah},Im n k l->∀ (q:Nat) (x:ah),l[q]?=some x->(∃ z,k[q]?=some z/\Oh z x)∨iE n x=true
 | _,[],_,q,x,e=>by simp at e
 | [],y::l,h,0,x,e=>by simp at e; subst e; exact .inr h.1
 | [],y::l,h,q+1,x,e=>by
   rcases wK h.2 q x (by simpa using e) with h1|h1
   all_goals grind
 | z::k,y::l,h,0,x,e=>by
   simp at e; subst e
   exact h.1.imp (λe=>⟨z,rfl,e⟩) id
 | z::k,y::l,h,q+1,x,e=>by simpa using wK h.2 q x (by simpa using e)
theorem bG (n:Nat):∀ l,Im n l l
 | []=>trivial
 | _::l=>⟨.inl (.inl rfl),bG n l⟩
def Ends (rs:List ah) (d:D) (aV:List ah) (d1:D) (fB:List ah):Prop:=∃ n,rs.length<=n/\n<=fB.length/\fB.take n=aV/\kf n d1=true/\aX d1 d/\Im n rs aV
theorem R.ends {sl:a8} {rs fB aV:List ah} {df:List Nat} (h:R T N aA w0 sp ⟨sl,rs,df⟩ a w E) (te:∀ t d c,look sl t=some (d,c)->c=[]) (h':R T N aA w0 sp ⟨sl,fB,df⟩ a w' E') (hk:Kept E E') {d d1:D} (he:Ends rs d aV d1 fB) {v:Value} (hv:bj E' (AV aA fB E') w' d1 v) :
  ∃ vq,Kept E vq/\R T N aA w0 sp ⟨sl,aV,df⟩ a w' vq/\bj vq (AV aA aV vq) w' d v:=by
 obtain ⟨n,h1,h2,rfl,h4,h5,h6⟩:=he
 have hlE:E.length=rs.length:=h.len
 have hlE':E'.length=fB.length:=h'.len
 have hcut:=h'.cut h2 (λx hx=>rv (by omega) (bj.low (h.spec x hx))) (λt d hl=>rv (by omega) (bj.low ((h.slots t d [] hl).2.1 λp hp=>by cases hp))) te (λr hr=>by
   obtain ⟨dd,b,sz,q,_⟩:=h.defers.left r hr
   have:=rb q
   omega) (λq x hx=>by
   rcases wK h6 q x hx with ⟨z,hq,hz⟩|hq
   .have eW:q<E.length:=by grind
    exact hz.low ((ba.low (h.roots q z _ hq (ib eW))).mono (by omega))
   .exact .inl hq)
 have hk2:Kept E (E'.take n):=by
  have hEt:E.take n=E:=List.take_of_length_le (by omega)
  have:=hk.take n
  rwa [hEt] at this
 refine ⟨E'.take n,hk2,hcut,h5 _ _ _ _ (bj.shrink (Kept.mv E' n) (λb q=>?_) (by grind) hv)⟩
 rcases q with q|⟨r,x,sz,q1,q2,⟨hh,q3⟩⟩
 .exact .inl q
 .rw [nH] at q1 q3
  split at q1
  .rename_i eW
   rw [if_pos eW] at q3
   exact .inr ⟨r,x,sz,q1,q2,hh,q3⟩
  .simp at q1
theorem Nj {fn:Func} {c:Code} (hf:P.funcs[f]?=some fn) (hc:fn.body=some c) {ds:List D} (hlen:ds.length<=fn.ntmps) {sl:a8} {rs:List ah} {df:List Nat} (h:R T N aA w0 sp ⟨sl,rs,df⟩ a w E) {vs:List Value} (hv:aF (bj E (AV aA rs E) w) ds vs) :
  ∃ (b:Frame) (tm:Array Value),b.fn=f/\b.roundOf=none/\b.kind=.normal/\Frame.enter P f vs.toArray .normal=b.atR { tmps:=tm,defers:=[] } [.code c]/\R T fn.ntmps aA w0 (pU sl a++sp) ⟨dF 0 ds,rs,[]⟩ { tmps:=tm,defers:=[] } w E:=by
 let b:Frame:={ (default:Frame) with fn:=f,kind:=.normal,roundOf:=none }
 let tm:=vs.toArray++Array.replicate (fn.ntmps-vs.toArray.size) undef
 have hvl:=hv.length
 have henter:Frame.enter P f vs.toArray .normal=b.atR { tmps:=tm,defers:=[] } [.code c]:=by
  simp [Frame.enter,Frame.atR,hf,hc,b,tm]
 have htm:tm.size=fn.ntmps:=by grind
 refine ⟨b,tm,rfl,rfl,rfl,henter,h.E4 (M:=fn.ntmps) (CE:=dF 0 ds) (tm:=tm) htm (λt d' c' hl=>?_)⟩
 obtain ⟨rfl,_,h2⟩:=nh hl
 simp only [Nat.sub_zero] at h2
 have ht:t<ds.length:=(List.getElem?_eq_some_iff.1 h2).1
 obtain ⟨v,h3,h4⟩:=hv.nth (i:=t) (x:=d') (by rw [bz]; exact h2)
 refine ⟨Nat.lt_of_lt_of_le ht hlen,λ_=>?_,λq=>(q λp hp=>by cases hp).elim⟩
 have hg:tm.getD t undef=v:=by
  have htv:t<vs.length:=by rw [<- hvl]; exact ht
  have:vs[t]?=some v:=h3
  simp only [tm]
  rw [Array.getD_eq_getD_getElem?,Array.getElem?_append_left (by simpa using htv)]
  simp [this]
 rw [hg]
 exact h4
theorem AR (bZ:dU P T) {fn:Func} (hf:P.funcs[f]?=some fn) (qc:(fn.name == "runtime.NumGoroutine")=false) {c:Code} (hc:fn.body=some c) {ds:List D} {rs:List ah} {d:D} {aV:List ah} (hlen:ds.length<=fn.ntmps) {Q:D->List ah->Prop} (hQ:∀ {aA:Nat->Prop} {w0:Kp} {sp:List (D×Value)} {a:Act} {w w':World} {E E':Env} {d1:D} {fB:List ah} {v:Value},Q d1 fB->(∀ x∈sp,kf rs.length x.1=true)->R T fn.ntmps aA w0 sp ⟨[],rs,[]⟩ a w E->R T fn.ntmps aA w0 sp ⟨[],fB,[]⟩ a w' E'->Kept E E'->bj E' (AV aA fB E') w' d1 v->∃ vq,Kept E vq/\R T fn.ntmps aA w0 sp ⟨[],aV,[]⟩ a w' vq/\bj vq (AV aA aV vq) w' d v)
  (hg:∀ (b:Frame) (cs:List Frame),b.fn=f->Goal P T fn.ntmps b cs none rs.length (uJ T fn.results.toList Q) [.code c] ⟨dF 0 ds,rs,[]⟩):bt T P f ds rs d aV:=by
 refine ⟨⟨fn,hf,qc,by simp [hc]⟩,?_⟩
 intro N aA w0 sp sl df a w E vs h0 hv cs
 obtain ⟨b,tm,KM,hbr,hbk,henter,hR⟩:=Nj (P:=P) (f:=f) hf hc hlen h0 hv
 have eb:∀ x∈pU sl a++sp,kf rs.length x.1=true:=λx hx=>by
  have:=bj.low (hR.spec x hx)
  rwa [hR.len] at this
 obtain ⟨j,s,a',w1,E',dN,hk,we,zd,hend,hpost,hsteps⟩:=hg b cs KM _ _ _ _ _ _ (bF _) eb hbr hR lk
 have hEt:E.take rs.length=E:=List.take_of_length_le (Nat.le_of_eq h0.len)
 rw [hEt] at hk
 obtain ⟨hret,hpost⟩:=cg.1 hpost
 obtain ⟨x,hres0,hpost⟩:=cO hpost
 obtain ⟨d1,fB⟩:=x
 unfold Sw at hres0
 split at hres0
 case h_2=>simp at hres0
 rename_i rT htake
 split at hres0
 case h_2=>simp at hres0
 rename_i d2 BX
 simp only [aw,bN] at hres0
 obtain ⟨rfl,rfl⟩:=hres0
 have hback:Steps P (lone (b.atR a' dN) cs w1) (lone { b.atR a' dN with mode:=.returning } cs w1):=by
  cases j with
  | none=>
    have hend:dN=[]:=hend
    subst hend
    exact .one (stepR_end hbr)
  | some c' =>
    rcases hend with ⟨k,rfl,rfl⟩|⟨id,k,rfl,_,_⟩
    .exact .one (stepR_ret hbr)
    .simp [Vh] at hret
 have hR'':R T fn.ntmps aA w0 (pU sl a++sp) ⟨s.sl,s.rs,s.df⟩ a' w1 E':=we
 obtain ⟨w2,hR2,hst2⟩:=ui (P:=P) (cs:=cs) s.df (fr:={ b.atR a' dN with mode:=.returning }) htake hR'' rfl rfl
 obtain ⟨pr,hpr1,hpr2⟩:=Lf (s:=⟨s.sl,rT,[]⟩) zd BX
 obtain ⟨v,hrv,hdv⟩:=nu bZ hR2 hpr1 hpr2
 have hR3:R T fn.ntmps aA w0 (pU sl a++sp) ⟨[],rT,[]⟩ { a' with defers:=[] } w2 E':=⟨hR2.size,hR2.defers,hR2.spec,hR2.below,hR2.len,hR2.outer,hR2.roots,hR2.dp,hR2.dT,λt d c q=>by simp [look] at q,hR2.gP⟩
 have hR0:R T fn.ntmps aA w0 (pU sl a++sp) ⟨[],rs,[]⟩ { tmps:=a'.tmps,defers:=[] } w E:=⟨hR2.size,.nil,hR.spec,hR.below,hR.len,hR.outer,hR.roots,hR.dp,hR.dT,λt d c q=>by simp [look] at q,hR.gP⟩
 obtain ⟨vq,hk2,hR4,hd4⟩:=hQ hpost eb hR0 hR3 hk hdv
 refine ⟨.returned v,w2,{ { b.atR a' dN with mode:=.returning } with defers:=[] },⟨v,vq,rfl,hk2,h0.back (s':=⟨[],aV,[]⟩) hR4 hk2.le,hd4⟩,?_,?_,?_,?_,?_,fn,?_,hrv⟩
 .rw [henter]
  exact (hsteps.trans hback).trans hst2
 all_goals first|rfl|exact KM|exact hbk|exact hbr|exact (show P.funcs[b.fn]?=some fn from KM▸hf)
theorem ab8 (bZ:dU P T) {fn:Func} (hf:P.funcs[f]?=some fn) (qc:(fn.name == "runtime.NumGoroutine")=false) {c:Code} (hc:fn.body=some c) {ds:List D} {rs:List ah} {d:D} {aV:List ah} (hlen:ds.length<=fn.ntmps)
  (hg:∀ (b:Frame) (cs:List Frame),b.fn=f->Goal P T fn.ntmps b cs none rs.length (uJ T fn.results.toList (Ends rs d aV)) [.code c] ⟨dF 0 ds,rs,[]⟩):bt T P f ds rs d aV:=
 AR bZ hf qc hc hlen (λhq _ h h' hk hv=>h.ends (λt d c q=>by simp [look] at q) h' hk hq hv) hg
theorem C9 (bZ:dU P T) {r M:Nat} {g:FuncId} {yF CE:a8} {ps:List Tmp} {as bd:Code} {ds:List D} {rs:List ah} {d:D} {aV:List ah} (hr:rs[r]?=some (.loop g M yF ps as bd .ready none)) (LX:Pp M ps ds yF=some CE)
  (hg:∀ (b:Frame) (cs:List Frame),b.fn=g->Goal P T M b cs (some r) rs.length (QO r (Ends rs d aV)) [.code as,.beginRound,.code bd] ⟨CE,rs,[]⟩):nS T P r ds rs d aV:=by
 constructor
 intro N aA w0 sp sl df a w E vs h hv
 obtain ⟨l,hd,sz,db,tm,h1,h2,h3,h4,h5⟩:=h.loop hr
 have hR:=h.E4 (M:=M) (CE:=yF) (tm:=tm) h3 h4
 obtain ⟨hlen,hR1,hn1⟩:=Lc (tms:=id) LX hR h5 hv
 have hy:=run_yield (P:=P) (args:=vs.toArray) h2 (by simp [hlen])
 refine ⟨l,sz,g,_,as,bd,⟨hd,h1⟩,hy,?_⟩
 have htm:(Array.foldl (λtmps x=>match x with
   | (t,a)=>tmps.setIfInBounds t a) tm (ps.toArray.zip vs.toArray))=(ps.zip vs).foldl (λtmps x=>tmps.setIfInBounds x.1 x.2) tm:=by
  simp
 intro c cs
 simp only at htm ⊢
 rw [htm]
 let b:Frame:={ (default:Frame) with fn:=g,kind:=.normal,roundOf:=some l }
 have hb0:∀ tm,Frame.round l g tm as bd .normal=b.atR { tmps:=tm,defers:=[] } [.code as,.beginRound,.code bd]:=λtm=>by
  rfl
 rw [hb0]
 have eb:∀ x∈pU sl a++sp,kf rs.length x.1=true:=λx hx=>by
  have:=bj.low (hR.spec x hx)
  rwa [hR.len] at this
 have hEt:E.take rs.length=E:=List.take_of_length_le (Nat.le_of_eq h.len)
 obtain ⟨j,s,a',w1,E',dN,hk,we,zd,hend,hpost,hsteps⟩:=hg b (c::cs) rfl _ _ _ _ _ _ (bF _) eb (by rw [hEt]; exact ⟨l,sz,rfl,hd,h1⟩) hR1 hn1
 rw [hEt] at hk
 obtain ⟨x,e,hpost⟩:=cO hpost
 obtain ⟨d1,fB⟩:=x
 unfold FB at e
 split at e
 case h_2=>simp at e
 rename_i US
 split at e
 case h_2=>simp at e
 rename_i g' M' gB ps' Yk Xo ZR
 rw [cj] at ZR
 obtain ⟨l',sj,dE,db',tm',q1,q2,q3,q4,q5⟩:=we.loop ZR
 obtain ⟨K,hE',_⟩:=hk.le r _ h1 (fG.M7 rfl)
 rw [hE'] at q1
 simp only [fG.wk,aw,bN] at q1
 obtain ⟨rfl,rfl,rfl⟩:=q1
 have fin:∀ (st:LoopState) (fP:Option Code) (bv:Bool),d1=bool bv->fB=setAt s.rs r (.loop g' M' gB ps' Yk Xo st fP)->
   ∃ vq,Kept E vq/\R T N aA w0 sp ⟨sl,aV,df⟩ a (w1.putObj l (.loop { state:=st,pending:=fP,fn:=g',tmps:=tm',params:=ps'.toArray,assign:=Yk,body:=Xo,defers:=db' })) vq/\bj vq (AV aA aV vq) (w1.putObj l (.loop { state:=st,pending:=fP,fn:=g',tmps:=tm',params:=ps'.toArray,assign:=Yk,body:=Xo,defers:=db' })) d (.bool bv):=by
  intro st fP bv hd1 bn0
  have hT:=we.vc ZR hE' q2 q3 q4 q5 st fP
  rw [<- bn0] at hT
  have hsd:s.df=[]:=US
  have hR3:R T M aA w0 (pU sl a++sp) ⟨[],fB,[]⟩ { a' with defers:=[] } (w1.putObj l (.loop { state:=st,pending:=fP,fn:=g',tmps:=tm',params:=ps'.toArray,assign:=Yk,body:=Xo,defers:=db' })) E':=⟨hT.size,.nil,hT.spec,hT.below,hT.len,hT.outer,hT.roots,hT.dp,hT.dT,λt d c q=>by simp [look] at q,hT.gP⟩
  have hR0:R T M aA w0 (pU sl a++sp) ⟨[],rs,[]⟩ { tmps:=a'.tmps,defers:=[] } w E:=⟨hT.size,.nil,hR1.spec,hR1.below,hR1.len,hR1.outer,hR1.roots,hR1.dp,hR1.dT,λt d c q=>by simp [look] at q,hR1.gP⟩
  obtain ⟨vq,hk2,hR4,hd4⟩:=hR0.ends (λt d c q=>by simp [look] at q) hR3 hk hpost (v:=.bool bv) (by rw [hd1]; exact ⟨rfl,rfl⟩)
  exact ⟨vq,hk2,h.back (s':=⟨[],aV,[]⟩) hR4 hk2.le,hd4⟩
 cases j with
 | none=>
   simp only [aw,bN] at e
   have hend:dN=[]:=hend
   subst hend
   exact ⟨.bool true,_,fin .ready none true e.1.symm e.2.symm,hsteps.trans (.one (stepR_round_end rfl rfl (run_endRound none q2)))⟩
 | some c' =>
   simp only [aw,bN] at e
   refine ⟨.bool false,_,fin .done (some c') false e.1.symm e.2.symm,hsteps.trans (.one ?_)⟩
   rcases hend with ⟨k,rfl,rfl⟩|⟨id,k,rfl,rfl,hx⟩
   .exact stepR_round_ret rfl rfl (run_endRound (some .ret) q2)
   .exact stepR_round_exit rfl rfl hx (run_endRound (some (.exit id)) q2)
end
end Go.V
