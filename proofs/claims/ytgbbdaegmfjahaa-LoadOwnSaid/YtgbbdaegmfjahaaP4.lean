/- What is gathered is enough: runs. -/
import Derived.Test.YtgbbdaegmfjahaaP3
set_option linter.unusedSimpArgs false
set_option linter.unusedVariables false
namespace Go.V
open Go.RowKit
noncomputable section
section
variable {P:Program} {T:dL} {X:fN} {hi:Hint} {N:Nat} {f:FuncId}
theorem uW (p:Nat×ag) (ws:List (Nat×ag)) (rs:List ag):writes (p::ws) rs=writes ws (rs.set p.1 p.2):=by
 show writes ws (setAt rs p.1 p.2)=_
 rw [aT]
theorem nr {q:Nat}:∀ {ws:List (Nat×ag)} {rs:List ag},(∀ p∈ws,p.1≠q)->(writes ws rs)[q]?=rs[q]?
 | [],rs,_=>rfl
 | p::ws,rs,h=>by
   rw [uW,nr λy hy=>h y (eV _ hy),dI,if_neg (h p (eI ..))]
theorem va {q:Nat} {x:ag}:∀ {ws:List (Nat×ag)} {rs:List ag},q<rs.length->(∀ p∈ws,p.1=q->p.2=x)->((∃ p∈ws,p.1=q)∨rs[q]?=some x)->(writes ws rs)[q]?=some x
 | [],rs,hq,h,k=>by
   rcases k with ⟨p,hp,_⟩|k
   .cases hp
   .exact k
 | p::ws,rs,hq,h,k=>by
   rw [uW]
   refine va (by simpa using hq) (λy hy=>h y (eV _ hy)) ?_
   by_cases hp:p.1=q
   .right
    rw [dI,if_pos hp,hp,if_pos hq,h p (eI ..) hp]
   .rcases k with ⟨y,hy,hyq⟩|k
    .rcases List.mem_cons.1 hy with rfl|hy
     .exact (hp hyq).elim
     .exact .inl ⟨y,hy,hyq⟩
    .right
     rw [dI,if_neg hp]; exact k
theorem xu {S:List Nat}:∀ {ws:List (Nat×ag)},FR S ws=true->∀ p∈ws,p.1∈S
 | [],_,p,hp=>by cases hp
 | y::ws,h,p,hp=>by
   obtain ⟨h1,h2⟩:=Bool.gC (show (Bool.rec false (FR S ws) (pg y.1 S):Bool)=true from h)
   rcases List.mem_cons.1 hp with rfl|hp
   .exact jw.1 h1
   .exact xu h2 p hp
theorem AK {n:Nat}:∀ {ws:List (Nat×ag)},NY n ws=true->∀ p∈ws,ib n p.2=true
 | [],_,p,hp=>by cases hp
 | y::ws,h,p,hp=>by
   obtain ⟨h1,h2⟩:=Bool.gC (show (Bool.rec false (NY n ws) (ib n y.2):Bool)=true from h)
   rcases List.mem_cons.1 hp with rfl|hp
   .exact h1
   .exact AK h2 p hp
theorem Hy (q:Nat) (S:List Nat) (aJ:List ag):ko (q::S) aJ=(match aJ[q]? with
 | some x=>(q,x)::ko S aJ
 | none=>ko S aJ):=by
 show (match aV aJ q with
  | some x=>(q,x)::ko S aJ
  | none=>ko S aJ)=_
 rw [bV]
theorem nh {aJ:List ag}:∀ {S:List Nat} {p:Nat×ag},p∈ko S aJ↔p.1∈S/\aJ[p.1]?=some p.2
 | [],p=>by simp [ko]
 | q::S,p=>by
   rw [Hy]
   split
   .rename_i x hx
    rw [List.mem_cons,nh,List.mem_cons]
    constructor
    .rintro (rfl|⟨h1,h2⟩)
     .exact ⟨.inl rfl,hx⟩
     .exact ⟨.inr h1,h2⟩
    .rintro ⟨h1|h1,h2⟩
     .left
      obtain ⟨a,b⟩:=p
      have h1:a=q:=h1
      subst h1
      rw [hx] at h2
      simp only [ak] at h2
      rw [h2]
     .exact .inr ⟨h1,h2⟩
   .rename_i hx
    rw [nh,List.mem_cons]
    constructor
    .rintro ⟨h1,h2⟩; exact ⟨.inr h1,h2⟩
    .rintro ⟨h1|h1,h2⟩
     .rw [h1,hx] at h2; simp at h2
     .exact ⟨h1,h2⟩
theorem PM (S:List Nat):∀ rs aJ,Grown S rs aJ->NY rs.length (ko S aJ)=true->∀ (q:Nat) (x:ag),(writes (ko S aJ) rs)[q]?=some x->aJ[q]?=some x/\(rs[q]?=some x∨ib rs.length x=true):=by
 rintro rs aJ ⟨ws,ex,hk,rfl⟩ hl q x hx
 have hq:q<rs.length:=by
  have:=(List.getElem?_eq_some_iff.1 hx).1
  rwa [hZ] at this
 have tQ:(writes ws rs++ex)[q]?=(writes ws rs)[q]?:=dv (by rw [hZ]; exact hq)
 have dB:q<(writes ws rs).length:=by rw [hZ]; exact hq
 by_cases hS:q∈S
 .have hy:=eK dB
  generalize (writes ws rs)[q]=y at hy
  have hm:(q,y)∈ko S (writes ws rs++ex):=nh.2 ⟨hS,by rw [tQ]; exact hy⟩
  have hs:=va (ws:=ko S (writes ws rs++ex)) (x:=y) hq (λp hp hpq=>by
   obtain ⟨_,h2⟩:=nh.1 hp
   rw [hpq,tQ,hy] at h2
   simp only [ak] at h2
   exact h2.symm) (.inl ⟨_,hm,rfl⟩)
  rw [hx] at hs
  simp only [ak] at hs
  subst hs
  exact ⟨by rw [tQ]; exact hy,.inr (AK hl _ hm)⟩
 .have h1:(writes (ko S (writes ws rs++ex)) rs)[q]?=rs[q]?:=nr λp hp e=>hS (e▸(nh.1 hp).1)
  have h2:(writes ws rs)[q]?=rs[q]?:=nr λp hp e=>hS (e▸xu hk p hp)
  rw [h1] at hx
  exact ⟨by rw [tQ,h2]; exact hx,.inl hx⟩
theorem yQ {rs pK:List ag} (hle:∀ (q:Nat) (x:ag),aV rs q=some x->x.live->aV pK q=some x):∀ (r:Rd) {o:D×Nat×ag},xP rs r=some o->xP pK r=some o
 | .no,o,h=>by cases h
 | .ret _,_,h=>h
 | .get q k,o,h=>by
   have h:(match aV rs q with
    | some x=>match x with
      | .dead=>none
      | x=>xP rs (k x)
    | none=>none)=some o:=h
   show (match aV pK q with
    | some x=>match x with
      | .dead=>none
      | x=>xP pK (k x)
    | none=>none)=some o
   cases hx:aV rs q with
   | none=>rw [hx] at h; simp at h
   | some x=>
     rw [hx] at h
     cases x with
     | dead=>simp at h
     | _=>
       rw [hle _ _ hx trivial]
       exact yQ hle _ h
theorem xe (T:dL) (P:Program) (X:fN):gP T P (ct T P X) where
 call f ds rs d aJ e:=by
  unfold ct at e
  dsimp only at e
  split at e
  .rename_i hk
   simp only [ak,bw] at e
   obtain ⟨rfl,rfl⟩:=e
   exact hk.out
  .simp at e
 NW r ds rs d aJ e:=by
  unfold ct at e
  dsimp only at e
  split at e
  .rename_i hk
   simp only [ak,bw] at e
   obtain ⟨rfl,rfl⟩:=e
   exact hk.out
  .simp at e
 diff rs aJ ws e:=by
  unfold ct at e
  dsimp only at e
  split at e
  .rename_i hk
   simp only [ak] at e
   subst e
   exact PM _ _ _ hk.1 hk.2
  .simp at e
 wr f ds rs d q x e:=by
  unfold ct at e
  dsimp only at e
  split at e
  case h_2=>simp at e
  rename_i y hy
  split at e
  .rename_i hk
   simp only [ak] at e
   have h:=hk.out rs rfl (λ_ _ q _=>q)
   rw [e] at h
   exact h.out
  .simp at e
 mono f ds rs pK r hlen hle e:=by
  unfold ct at e ⊢
  dsimp only at e ⊢
  split at e
  case h_2=>simp at e
  rename_i y hy
  split at e
  .rename_i hk
   simp only [yQ hle _ hy]
   rw [if_pos ⟨λWH h3 h4=>hk.out WH (hlen.trans h3) λk z hz hl=>h4 k z (hle k z hz hl) hl⟩]
   exact e
  .simp at e
def Goal (P:Program) (T:dL) (N:Nat) (b:Frame) (cs:List Frame) (ro:Option Nat) (n0:Nat) (eF:Option Code->VS->Prop) (todo:List Item) (s:VS):Prop:=
 ∀ (ay:Nat->Prop) (w0:Kp) (sp:List (D×Value)) (a:Act) (w:World) (E:Env),n0<=s.rs.length->(∀ x∈sp,jz n0 x.1=true)->iZ (E.take n0) b ro->R T N ay w0 sp s a w E->bM s.sl->
  ∃ j s' a' w' E' dt,Kept (E.take n0) E'/\R T N ay w0 sp s' a' w' E'/\bM s'.sl/\uS j dt/\eF j s'/\Steps P (lone (b.atR a todo) cs w) (lone (b.atR a' dt) cs w')
theorem LG {ro:Option Nat} {g:Operand} {ps:List Tmp} {as bd:Code} {s:VS} {k:Option Code->VS->Prop} (h:Br T P X N f ro g ps as bd s k):∃ lo j s',gP T P lo/\pA lo N f ro g ps as bd s=some (j,s')/\k j s':=by
 unfold Br at h
 split at h
 .exact h.elim
 split at h
 case h_2=>exact h.elim
 rename_i c hc
 split at h
 case h_2=>exact h.elim
 rename_i hf eA yL
 have fin:∀ (lo:Lo) (d:D) (aJ:List ag),gP T P lo->lo.call hf (.c (.yl (s.rs.length+1))::eA) (s.rs++[.kA,.loop f N s.sl ps as bd .ready none])=some (d,aJ)->Bw s.rs.length s aJ k->∃ lo j s',gP T P lo/\pA lo N f none g ps as bd s=some (j,s')/\k j s':=by
  intro lo d aJ Je vu hk
  unfold Bw at hk
  split at hk
  .rename_i hr
   exact ⟨lo,_,_,Je,by simp only [pA,hc,yL,vu,hr],hk⟩
  .rename_i hr
   exact ⟨lo,_,_,Je,by simp only [pA,hc,yL,vu,hr],hk⟩
  .exact hk.elim
 unfold OH at h
 rcases zd h with ⟨_,h1,h2⟩|⟨_,h1,h2⟩
 .exact fin (ct T P { X with F:=X.R1 }) _ _ (xe _ _ _) (by simp only [ct]; rw [if_pos h1]) h2
 .exact fin (ct T P { X with F:=X.R2 }) _ _ (xe _ _ _) (by simp only [ct]; rw [if_pos h1]) h2
theorem iZ.take {E E':Env} {b:Frame} {ro:Option Nat} {n:Nat} (hk:Kept E E') (h:iZ (E.take n) b ro):iZ (E'.take n) b ro:=h.mono (hk.take n).le
theorem wH (bQ:dH P T) (Ea:P.follows .mixedOrders=true) {b:Frame} (GZ:b.fn=f) {cs:List Frame} {ro:Option Nat} {n0:Nat} {eF:Option Code->VS->Prop} {stop:Nat->Bool} {L:List Item->VS->Prop} {Q:Option Code->VS->Prop}
  (hL:∀ todo s,L todo s->Goal P T N b cs ro n0 eF todo s) (hQ:∀ j s,Q j s->eF j s) :
  ∀ (n:Nat) {go:Bool} {todo:List Item} {s:VS},uP T P X hi N f ro stop L Q n go todo s->Goal P T N b cs ro n0 eF todo s
 | 0,go,todo,s,e=>(show False from e).elim
 | n+1,go,todo,s,e=>by
   intro ay w0 sp a w E tr dy GS h hn
   have hl:=xe T P X
   have run:∀ {go1:Bool} {fK:List Item} {s1:VS} {a1:Act} {w1:World} {E1:Env},uP T P X hi N f ro stop L Q n go1 fK s1->Kept E E1->R T N ay w0 sp s1 a1 w1 E1->bM s1.sl->Steps P (lone (b.atR a todo) cs w) (lone (b.atR a1 fK) cs w1)->
     ∃ j s' a' w' E' dt,Kept (E.take n0) E'/\R T N ay w0 sp s' a' w' E'/\bM s'.sl/\uS j dt/\eF j s'/\Steps P (lone (b.atR a todo) cs w) (lone (b.atR a' dt) cs w'):=by
    intro go1 fK s1 a1 w1 E1 e1 hk h1 Zk l8
    have hlen:n0<=s1.rs.length:=by
     have:=hk.len
     rw [h.len,h1.len] at this
     omega
    obtain ⟨j,s',a',w',E',dt,q1,q2,q3,q4,q5,q6⟩:=wH bQ Ea GZ hL hQ n e1 ay w0 sp a1 w1 E1 hlen dy (GS.take hk) h1 Zk
    exact ⟨j,s',a',w',E',dt,(hk.take n0).trans q1,q2,q3,q4,q5,l8.trans q6⟩
   have dC:∀ {c:Option Code},Q c s->uS c todo->∃ j s' a' w' E' dt,Kept (E.take n0) E'/\R T N ay w0 sp s' a' w' E'/\bM s'.sl/\uS j dt/\eF j s'/\Steps P (lone (b.atR a todo) cs w) (lone (b.atR a' dt) cs w'):=
    λhq he=>⟨_,s,a,w,E,todo,Kept.lU E n0,h,hn,he,hQ _ _ hq,Steps.refl _ _⟩
   have hroE:iZ E b ro:=GS.mono (Kept.lU E n0).le
   cases todo with
   | nil=>exact dC (c:=none) e rfl
   | cons x k=>
     cases x with
     | inBlock id=>exact run (fK:=k) (s1:=s) e (Kept.refl E) h hn (.one stepR_inBlock)
     | inLoop c=>exact run (fK:=.code c::.inLoop c::k) (s1:=s) e (Kept.refl E) h hn (.one stepR_inLoop)
     | beginRound=>
       obtain ⟨s1,hs1,e⟩:=cx (show gB (uh ro s) (λs'=>uP T P X hi N f ro stop L Q n go k s') from e)
       obtain ⟨w',h1,h2,h3⟩:=FX h hroE hs1
       exact run e (Kept.refl E) h1 (by rw [h2]; exact hn) h3
     | code c=>
       cases c with
       | skip=>exact run (fK:=k) (s1:=s) e (Kept.refl E) h hn (.one stepR_skip)
       | label l=>exact run (fK:=k) (s1:=s) e (Kept.refl E) h hn (.one stepR_label)
       | ret=>exact dC (c:=some .ret) e (.inl ⟨k,rfl,rfl⟩)
       | seq x y=>exact run (fK:=.code x::.code y::k) (s1:=s) e (Kept.refl E) h hn (.one stepR_seq)
       | cond c x y=>
         have e:(match jn (cl s.sl c) with
          | some p=>JN s c p (uP T P X hi N f ro stop L Q n go (.code x::k)) (uP T P X hi N f ro stop L Q n go (.code y::k))
          | none=>False):=e
         split at e
         case h_2=>exact e.elim
         rename_i p hp
         have hv:a.eval c=.bool p:=(h.cl hn (eW hp)).1
         have l8:=Steps.one (stepR_cond (P:=P) (b:=b) (k:=k) (cs:=cs) (w:=w) (x:=x) (y:=y) hv)
         rcases Qx hp e with ⟨rfl,e'⟩|⟨rfl,e'⟩
         .exact run e' (Kept.refl E) h hn l8
         .exact run e' (Kept.refl E) h hn l8
       | block id c=>exact run (fK:=.code c::.inBlock id::k) (s1:=s) e (Kept.refl E) h hn (.one stepR_block)
       | loop c=>exact run (fK:=.code c::.inLoop c::k) (s1:=s) e (Kept.refl E) h hn (.one stepR_loop)
       | exit id=>
         have e:(match exitTo id k with
          | some k'=>uP T P X hi N f ro stop L Q n go k' s
          | none=>Q (some (.exit id)) s):=e
         split at e
         .rename_i k' kT
          exact run e (Kept.refl E) h hn (.one (stepR_exit kT))
         .rename_i kT
          exact dC e (.inr ⟨id,k,rfl,rfl,kT⟩)
       | region id ops draw=>
         have e0:Bool.rec (wa T P X hi N f ro id ops.toList draw s λs'=>uP T P X hi N f ro stop L Q n false k s') (L (.code (.region id ops draw)::k) s) (!go&&stop id):=e
         clear e
         cases hgo:(!go&&stop id) with
         | true=>
           rw [hgo] at e0
           exact hL _ _ e0 ay w0 sp a w E tr dy GS h hn
         | false=>
           rw [hgo] at e0
           obtain ⟨s1,hs1,e⟩:=HQ e0
           cases draw with
           | false=>
             obtain ⟨a',w',E',q1,q2,q3,q4⟩:=yG (b:=b) (k:=k) (cs:=cs) bQ hl h hn hs1
             exact run e q1 q2 q3 q4
           | true=>
             obtain ⟨a',w',E',q1,q2,q3,q4⟩:=El (b:=b) (k:=k) (cs:=cs) bQ hl Ea h hn hs1
             exact run e q1 q2 q3 q4
       | rangeFunc g ps as bd=>
         obtain ⟨lo,j1,s1,Je,hs1,e⟩:=LG (show Br T P X N f ro g ps.toList as bd s (λj s'=>uP T P X hi N f ro stop L Q n false (Aw j k) s') from e)
         obtain ⟨a',w',E',q1,q2,q3,q4⟩:=F0 (k:=k) (cs:=cs) Je h hn GZ hroE hs1
         exact run e q1 q2 (by rw [q3]; exact hn) q4
       | _=>exact (show False from e).elim
     | _=>exact (show False from e).elim
end
open Go.RowKit
section
variable {P:Program} {T:dL} {N:Nat} {ay:Nat->Prop} {w0:Kp} {sp:List (D×Value)} {s:VS} {a:Act} {w w':World} {E E':Env} {f:FuncId}
def bh (d d':D):Prop:=∀ (E:Env) (av:Nat->Prop) (w:World) (v:Value),aZ E av w d v->aZ E av w d' v
theorem bh.refl (d:D):bh d d:=λ_ _ _ _ h=>h
def jd (n:Nat) (x:ag):Prop:=ib n x=true∨∃ f N sl ps as bd st fF,x=.loop f N sl ps as bd st fF/\∀ t d c,look sl t=some (d,c)->jz n d=true
theorem Iq {n m:Nat} (h:n<=m) {l:List Nat} (e:xF n l=true):xF m l=true:=yy λr hr=>Nat.lt_of_lt_of_le (ru e r hr) h
theorem tY {n m:Nat} (h:n<=m) {x:C} (e:vK n x=true):vK m x=true:=by
 cases x with
 | im x=>rfl
 | rt r i j=>exact kY (Nat.lt_of_lt_of_le (aM e) h)
 | sa r k=>exact kY (Nat.lt_of_lt_of_le (aM e) h)
 | mp r=>exact kY (Nat.lt_of_lt_of_le (aM e) h)
 | yl r=>exact kY (Nat.lt_of_lt_of_le (aM e) h)
 | ow r j=>exact kY (Nat.lt_of_lt_of_le (aM e) h)
 | dM f l=>exact Iq h e
theorem nU {n m:Nat} (h:n<=m) {l:List C} (e:iH n l=true):iH m l=true:=tp λx hx=>tY h (ik e x hx)
theorem AQ {n m:Nat} (h:n<=m):∀ {l:List (Bool×List C)},Bx n l=true->Bx m l=true
 | [],_=>rfl
 | y::l,e=>by
   obtain ⟨h1,h2⟩:=Bool.gC (show (Bool.rec false (Bx n l) (iH n y.2):Bool)=true from e)
   show (Bool.rec false (Bx m l) (iH m y.2):Bool)=true
   rw [nU h h1]
   exact AQ h h2
theorem pT {n m:Nat} (h:n<=m) {d:D} (e:jz n d=true):jz m d=true:=by
 cases d with
 | c x=>exact tY h e
 | a l=>exact nU h e
 | t l=>exact AQ h e
theorem zw {n:Nat}:∀ {l:List Fc},(∀ x∈l,yH n x=true)->vv n l=true
 | [],_=>rfl
 | y::l,h=>by
   show (Bool.rec false (vv n l) (yH n y):Bool)=true
   rw [h y (eI ..)]
   exact zw λx hx=>h x (eV _ hx)
theorem L9 {n m:Nat} (h:n<=m) {x:Fc} (e:yH n x=true):yH m x=true:=by
 cases x with
 | c x=>exact tY h e
 | o x=>rfl
theorem Ht {n m:Nat} (h:n<=m) {l:List Fc} (e:vv n l=true):vv m l=true:=zw λx hx=>L9 h (rn e x hx)
theorem Ln {n m:Nat} (h:n<=m) {x:ag} (e:ib n x=true):ib m x=true:=by
 cases x with
 | box l=>exact nU h e
 | row el sz k l=>exact nU h e
 | bt el sz k get et=>
   cases et with
   | none=>rfl
   | some x=>exact Ht h e
 | loop f N sl ps as bd st fF=>simp [ib] at e
 | _=>rfl
theorem jd.mono {n m:Nat} (h:n<=m) {x:ag}:jd n x->jd m x
 | .inl e=>.inl (Ln h e)
 | .inr ⟨f,N,sl,ps,as,bd,st,fF,e,k⟩=>.inr ⟨f,N,sl,ps,as,bd,st,fF,e,λt d c q=>pT h (k t d c q)⟩
theorem aP.low {av:Nat->Prop} {base:Nat} {e:fA} {x:ag} (h:aP E av base w e x):jd E.length x:=by
 cases x with
 | dead=>exact .inl rfl
 | box l=>obtain ⟨_,_,_,_,_,_,p⟩:=h; exact .inl (L.low p)
 | arr el sz n get=>exact .inl rfl
 | row el sz n l=>obtain ⟨_,_,_,_,p⟩:=h; exact .inl (L.low p)
 | bt el sz n get et=>
   obtain ⟨_,_,xs,_,Ks,_,hf,p⟩:=h
   cases et with
   | none=>exact .inl rfl
   | some x=>
     obtain ⟨h1,h2⟩:=hf x rfl
     refine .inl (zw λc hc=>?_)
     obtain ⟨j,hj,hjc⟩:=List.getElem_of_mem hc
     obtain ⟨v,c',_,q2,q3⟩:=p x.1 h1 j (by rw [<- h2]; exact hj)
     have e:c'=c:=by
      unfold fS at q2
      simp only [dq,bp,eK hj,ak] at q2
      rw [<- q2,hjc]
     subst e
     exact iK.low q3
 | own l=>exact .inl rfl
 | set l=>exact .inl rfl
 | kA=>exact .inl rfl
 | loop f N sl ps as bd st fF=>
   obtain ⟨b,db,tm,p1,p2,p3,p4,p5⟩:=h
   refine .inr ⟨f,N,sl,ps,as,bd,st,fF,rfl,λt d c q=>?_⟩
   have hcn:c=[]:=p5 _ (iE q)
   subst hcn
   exact aZ.low ((p4 t d [] q).2.1 λp hp=>by cases hp)
theorem R.cut {sl:aK} {rs:List ag} {df:List Nat} (h:R T N ay w0 sp ⟨sl,rs,df⟩ a w E) {n:Nat} (hn:n<=rs.length) (hsp:∀ x∈sp,jz n x.1=true) (KR:∀ t d,look sl t=some (d,[])->jz n d=true) (qN:∀ t d c,look sl t=some (d,c)->c=[])
  (MM:∀ r∈df,r<n) (Et:∀ (q:Nat) (x:ag),(rs.take n)[q]?=some x->jd n x):R T N ay w0 sp ⟨sl,rs.take n,df⟩ a w (E.take n):=by
 have hk:=Kept.lU E n
 have hEl:(E.take n).length=n:=by rw [List.length_take,h.len]; exact Nat.min_eq_left hn
 have ji:∀ {r b sz:Nat},cU (E.take n) r b sz->cU E r b sz:=λ⟨hh,q,q2⟩=>⟨hh,by
  rw [dx] at q
  split at q
  .exact q
  .simp at q,q2⟩
 have hr:∀ {q:Nat} {x:ag},(rs.take n)[q]?=some x->rs[q]?=some x:=λq=>by
  rw [dx] at q
  split at q
  .exact q
  .simp at q
 have eG:∀ b,AV ay (rs.take n) (E.take n) b->AV ay rs E b:=by
  rintro b (q|⟨r,x,sz,h1,h2,h3⟩)
  .exact .inl q
  .exact .inr ⟨r,x,sz,hr h1,h2,ji h3⟩
 have hD:∀ {d:D} {v:Value},jz n d=true->aZ E (AV ay rs E) w d v->aZ (E.take n) (AV ay (rs.take n) (E.take n)) w d v:=λhl q=>aZ.shrink hk eG (by rw [hEl]; exact hl) q
 have hC:∀ {l:List C} {cs:List Value},iH n l=true->aB (bg E (AV ay rs E) w) l cs->aB (bg (E.take n) (AV ay (rs.take n) (E.take n)) w) l cs:=λhl q=>q.shrink λx hx y p=>bg.shrink hk eG (by rw [hEl]; exact ik hl x hx) p
 have hdef:∀ {df:List Nat} {ds:List Deferred},(∀ r∈df,r<n)->aB (λr (d:Deferred)=>∃ b sz,bq E r b sz/\d={ target:=.collected b,args := #[] }) df ds->aB (λr (d:Deferred)=>∃ b sz,bq (E.take n) r b sz/\d={ target:=.collected b,args := #[] }) df ds:=by
  intro df ds h1 h2
  refine h2.shrink λr Sy d ⟨b,sz,⟨hh,q⟩,e⟩=>⟨b,sz,⟨hh,?_⟩,e⟩
  rw [dx,if_pos (h1 r Sy)]; exact q
 refine ⟨h.size,hdef MM h.defers,λx hx=>hD (hsp x hx) (h.spec x hx),h.below,by rw [hEl]; simp [Nat.min_eq_left hn],h.outer,?_,λr x b sz h1 h2 h3=>h.cS r x b sz (hr h1) h2 (ji h3),λr r' x x' b sz cF h1 ku h2 gk h3 kL=>h.dD r r' x x' b sz cF (hr h1) (hr ku) h2 gk (ji h3) (ji kL),?_,h.gn.mono (ba.refl _ w) (λb _ q=>eG b q)⟩
 .intro r x e h1 h2
  have hE:E[r]?=some e:=by
   rw [dx] at h2
   split at h2
   .exact h2
   .simp at h2
  have hrel:=h.roots r x e (hr h1) hE
  have dy:=Et r x h1
  cases x with
  | dead=>trivial
  | box l=>
    obtain ⟨b,cs,Tc,p1,p2,p3,p4⟩:=hrel
    rcases dy with dy|⟨_,_,_,_,_,_,_,_,e,_⟩
    .exact ⟨b,cs,Tc,p1,p2,p3,hC dy p4⟩
    .cases e
  | row el sz k l=>
    obtain ⟨p1,p2,xs,p3,p4⟩:=hrel
    rcases dy with dy|⟨_,_,_,_,_,_,_,_,e,_⟩
    .exact ⟨p1,p2,xs,p3,hC dy p4⟩
    .cases e
  | arr el sz k get=>
    obtain ⟨p1,p2,xs,p3,p4⟩:=hrel
    refine ⟨p1,p2,xs,p3,λi hi j hj=>?_⟩
    obtain ⟨x,p5,p6⟩:=p4 i hi j hj
    exact ⟨x,p5,cX.mono (ba.refl _ w) (λb _ q=>eG b q) p6⟩
  | bt el sz k get et=>
    obtain ⟨p1,p2,xs,p3,Ks,p4,pf,p5⟩:=hrel
    refine ⟨p1,p2,xs,p3,Ks,p4,pf,λi hi j hj=>?_⟩
    obtain ⟨x,c,p6,p7,p8⟩:=p5 i hi j hj
    refine ⟨x,c,p6,p7,iK.shrink hk eG ?_ p8⟩
    rw [hEl]
    rcases dy with dy|⟨_,_,_,_,_,_,_,_,e,_⟩
    .exact Fh dy p7
    .cases e
  | own l=>
    obtain ⟨p1,p2,vs,p3,p4,Ks,p5,p6,p7⟩:=hrel
    refine ⟨p1,p2,vs,p3,p4,Ks,p5,p6,λi o ho=>?_⟩
    obtain ⟨v,g1,g2⟩:=p7 i o ho
    exact ⟨v,g1,fb.mono (ba.refl _ w) (λb _ q=>eG b q) (λ_ _=>rfl) g2⟩
  | set l=>exact hrel
  | kA=>exact hrel
  | loop f M gb ps as bd st fF=>
    obtain ⟨b,db,tm,p1,p2,p3,p4,p5⟩:=hrel
    rcases dy with dy|⟨_,_,_,_,_,_,_,_,e,dy⟩
    .simp [ib] at dy
    .simp only [ag.loop.injEq] at e
     obtain ⟨rfl,rfl,rfl,rfl,rfl,rfl,rfl,rfl⟩:=e
     exact ⟨b,db,tm,p1,p2,p3,λt d c hl=>by
      obtain ⟨s1,s2,s3⟩:=p4 t d c hl
      exact ⟨s1,λq=>hD (dy t d c hl) (s2 q),s3⟩,p5⟩
 .intro t d c hl
  have hcn:=qN t d c hl
  subst hcn
  obtain ⟨s1,s2,s3⟩:=h.slots t d [] hl
  exact ⟨s1,λq=>hD (KR t d hl) (s2 q),s3⟩
def Ju (x y:ag):Prop:=y=x∨∃ f N sl ps a b st pd st' pd',x=.loop f N sl ps a b st pd/\y=.loop f N sl ps a b st' pd'
theorem Ju.low {n:Nat} {x y:ag} (h:Ju x y) (hx:jd n x):jd n y:=by
 rcases h with rfl|⟨f,N,sl,ps,a,b,st,pd,st',pd',rfl,rfl⟩
 .exact hx
 .rcases hx with h|⟨_,_,_,_,_,_,_,_,e,k⟩
  .simp [ib] at h
  .simp only [ag.loop.injEq] at e
   obtain ⟨rfl,rfl,rfl,rfl,rfl,rfl,rfl,rfl⟩:=e
   exact .inr ⟨_,_,_,_,_,_,_,_,rfl,k⟩
def EL (n:Nat):List ag->List ag->Prop
 | _,[]=>True
 | [],y::l=>ib n y=true/\EL n [] l
 | x::k,y::l=>(Ju x y∨ib n y=true)/\EL n k l
theorem um {n:Nat}:∀ {k l:List ag},EL n k l->∀ (q:Nat) (x:ag),l[q]?=some x->(∃ z,k[q]?=some z/\Ju z x)∨ib n x=true
 | _,[],_,q,x,e=>by simp at e
 | [],y::l,h,0,x,e=>by simp at e; subst e; exact .inr h.1
 | [],y::l,h,q+1,x,e=>by
   rcases um h.2 q x (by simpa using e) with h1|h1
   .simp at h1
   .exact .inr h1
 | z::k,y::l,h,0,x,e=>by
   simp at e; subst e
   exact h.1.imp (λe=>⟨z,rfl,e⟩) id
 | z::k,y::l,h,q+1,x,e=>by simpa using um h.2 q x (by simpa using e)
theorem bC (n:Nat):∀ l,EL n l l
 | []=>trivial
 | _::l=>⟨.inl (.inl rfl),bC n l⟩
def Ends (rs:List ag) (d:D) (aJ:List ag) (d1:D) (fa:List ag):Prop:=∃ n,rs.length<=n/\n<=fa.length/\fa.take n=aJ/\jz n d1=true/\bh d1 d/\EL n rs aJ
theorem R.ends {sl:aK} {rs fa aJ:List ag} {df:List Nat} (h:R T N ay w0 sp ⟨sl,rs,df⟩ a w E) (qN:∀ t d c,look sl t=some (d,c)->c=[]) (h':R T N ay w0 sp ⟨sl,fa,df⟩ a w' E') (hk:Kept E E') {d d1:D} (he:Ends rs d aJ d1 fa) {v:Value} (hv:aZ E' (AV ay fa E') w' d1 v) :
  ∃ tv,Kept E tv/\R T N ay w0 sp ⟨sl,aJ,df⟩ a w' tv/\aZ tv (AV ay aJ tv) w' d v:=by
 obtain ⟨n,h1,h2,rfl,h4,h5,h6⟩:=he
 have hlE:E.length=rs.length:=h.len
 have hlE':E'.length=fa.length:=h'.len
 have hcut:=h'.cut h2 (λx hx=>pT (by omega) (aZ.low (h.spec x hx))) (λt d hl=>pT (by omega) (aZ.low ((h.slots t d [] hl).2.1 λp hp=>by cases hp))) qN (λr hr=>by
   obtain ⟨dd,b,sz,q,_⟩:=h.defers.left r hr
   have:=oX q
   omega) (λq x hx=>by
   rcases um h6 q x hx with ⟨z,hq,hz⟩|hq
   .have dB:q<E.length:=by rw [hlE]; exact (List.getElem?_eq_some_iff.1 hq).1
    exact hz.low ((aP.low (h.roots q z _ hq (eK dB))).mono (by omega))
   .exact .inl hq)
 have hk2:Kept E (E'.take n):=by
  have hEt:E.take n=E:=List.take_of_length_le (by omega)
  have:=hk.take n
  rwa [hEt] at this
 refine ⟨E'.take n,hk2,hcut,h5 _ _ _ _ (aZ.shrink (Kept.lU E' n) (λb q=>?_) (by rw [List.length_take,hlE',Nat.min_eq_left h2]; exact h4) hv)⟩
 rcases q with q|⟨r,x,sz,q1,q2,⟨hh,q3⟩⟩
 .exact .inl q
 .rw [dx] at q1 q3
  split at q1
  .rename_i dB
   rw [if_pos dB] at q3
   exact .inr ⟨r,x,sz,q1,q2,hh,q3⟩
  .simp at q1
theorem Kb {fn:Func} {c:Code} (hf:P.funcs[f]?=some fn) (hc:fn.body=some c) {ds:List D} (hlen:ds.length<=fn.ntmps) {sl:aK} {rs:List ag} {df:List Nat} (h:R T N ay w0 sp ⟨sl,rs,df⟩ a w E) {vs:List Value} (hv:aB (aZ E (AV ay rs E) w) ds vs) :
  ∃ (b:Frame) (tm:Array Value),b.fn=f/\b.roundOf=none/\b.kind=.normal/\Frame.enter P f vs.toArray .normal=b.atR { tmps:=tm,defers:=[] } [.code c]/\R T fn.ntmps ay w0 (oE sl a++sp) ⟨dk 0 ds,rs,[]⟩ { tmps:=tm,defers:=[] } w E:=by
 let b:Frame:={ (default:Frame) with fn:=f,kind:=.normal,roundOf:=none }
 let tm:=vs.toArray++Array.replicate (fn.ntmps-vs.toArray.size) undef
 have hvl:=hv.length
 have henter:Frame.enter P f vs.toArray .normal=b.atR { tmps:=tm,defers:=[] } [.code c]:=by
  simp [Frame.enter,Frame.atR,hf,hc,b,tm]
 have htm:tm.size=fn.ntmps:=by simp only [tm,Array.size_append,Array.size_replicate,List.size_toArray]; omega
 refine ⟨b,tm,rfl,rfl,rfl,henter,h.Bj (M:=fn.ntmps) (A5:=dk 0 ds) (tm:=tm) htm (λt d' c' hl=>?_)⟩
 obtain ⟨rfl,_,h2⟩:=me hl
 simp only [Nat.sub_zero] at h2
 have ht:t<ds.length:=(List.getElem?_eq_some_iff.1 h2).1
 obtain ⟨v,h3,h4⟩:=hv.nth (i:=t) (x:=d') (by rw [bp]; exact h2)
 refine ⟨Nat.lt_of_lt_of_le ht hlen,λ_=>?_,λq=>(q λp hp=>by cases hp).elim⟩
 have hg:tm.getD t undef=v:=by
  have htv:t<vs.length:=by rw [<- hvl]; exact ht
  have:vs[t]?=some v:=h3
  simp only [tm]
  rw [Array.getD_eq_getD_getElem?,Array.getElem?_append_left (by simpa using htv)]
  simp [this]
 rw [hg]
 exact h4
theorem yn (bQ:dH P T) {fn:Func} (hf:P.funcs[f]?=some fn) (oO:(fn.name == "runtime.NumGoroutine")=false) {c:Code} (hc:fn.body=some c) {ds:List D} {rs:List ag} {d:D} {aJ:List ag} (hlen:ds.length<=fn.ntmps) {Q:D->List ag->Prop} (hQ:∀ {ay:Nat->Prop} {w0:Kp} {sp:List (D×Value)} {a:Act} {w w':World} {E E':Env} {d1:D} {fa:List ag} {v:Value},Q d1 fa->(∀ x∈sp,jz rs.length x.1=true)->R T fn.ntmps ay w0 sp ⟨[],rs,[]⟩ a w E->R T fn.ntmps ay w0 sp ⟨[],fa,[]⟩ a w' E'->Kept E E'->aZ E' (AV ay fa E') w' d1 v->∃ tv,Kept E tv/\R T fn.ntmps ay w0 sp ⟨[],aJ,[]⟩ a w' tv/\aZ tv (AV ay aJ tv) w' d v)
  (hg:∀ (b:Frame) (cs:List Frame),b.fn=f->Goal P T fn.ntmps b cs none rs.length (sS T fn.results.toList Q) [.code c] ⟨dk 0 ds,rs,[]⟩):bP T P f ds rs d aJ:=by
 refine ⟨⟨fn,hf,oO,by simp [hc]⟩,?_⟩
 intro N ay w0 sp sl df a w E vs h0 hv cs
 obtain ⟨b,tm,GZ,hbr,hbk,henter,hR⟩:=Kb (P:=P) (f:=f) hf hc hlen h0 hv
 have dy:∀ x∈oE sl a++sp,jz rs.length x.1=true:=λx hx=>by
  have:=aZ.low (hR.spec x hx)
  rwa [hR.len] at this
 obtain ⟨j,s,a',w1,E',dt,hk,uq,za,hend,hpost,hsteps⟩:=hg b cs GZ _ _ _ _ _ _ (bG _) dy hbr hR kx
 have hEt:E.take rs.length=E:=List.take_of_length_le (Nat.le_of_eq h0.len)
 rw [hEt] at hk
 obtain ⟨hret,hpost⟩:=bX.1 hpost
 obtain ⟨x,hres0,hpost⟩:=cx hpost
 obtain ⟨d1,fa⟩:=x
 unfold RN at hres0
 split at hres0
 case h_2=>simp at hres0
 rename_i pK htake
 split at hres0
 case h_2=>simp at hres0
 rename_i d2 zM
 simp only [ak,bw] at hres0
 obtain ⟨rfl,rfl⟩:=hres0
 have hback:Steps P (lone (b.atR a' dt) cs w1) (lone { b.atR a' dt with mode:=.returning } cs w1):=by
  cases j with
  | none=>
    have hend:dt=[]:=hend
    subst hend
    exact .one (stepR_end hbr)
  | some c' =>
    rcases hend with ⟨k,rfl,rfl⟩|⟨id,k,rfl,_,_⟩
    .exact .one (stepR_ret hbr)
    .simp [Se] at hret
 have hR'':R T fn.ntmps ay w0 (oE sl a++sp) ⟨s.sl,s.rs,s.df⟩ a' w1 E':=uq
 obtain ⟨w2,hR2,hst2⟩:=tg (P:=P) (cs:=cs) s.df (fr:={ b.atR a' dt with mode:=.returning }) htake hR'' rfl rfl
 obtain ⟨pr,hpr1,hpr2⟩:=HY (s:=⟨s.sl,pK,[]⟩) za zM
 obtain ⟨v,hrv,hdv⟩:=mq bQ hR2 hpr1 hpr2
 have hR3:R T fn.ntmps ay w0 (oE sl a++sp) ⟨[],pK,[]⟩ { a' with defers:=[] } w2 E':=⟨hR2.size,hR2.defers,hR2.spec,hR2.below,hR2.len,hR2.outer,hR2.roots,hR2.cS,hR2.dD,λt d c q=>by simp [look] at q,hR2.gn⟩
 have hR0:R T fn.ntmps ay w0 (oE sl a++sp) ⟨[],rs,[]⟩ { tmps:=a'.tmps,defers:=[] } w E:=⟨hR2.size,.nil,hR.spec,hR.below,hR.len,hR.outer,hR.roots,hR.cS,hR.dD,λt d c q=>by simp [look] at q,hR.gn⟩
 obtain ⟨tv,hk2,hR4,hd4⟩:=hQ hpost dy hR0 hR3 hk hdv
 refine ⟨.returned v,w2,{ { b.atR a' dt with mode:=.returning } with defers:=[] },⟨v,tv,rfl,hk2,h0.back (s':=⟨[],aJ,[]⟩) hR4 hk2.le,hd4⟩,?_,?_,?_,?_,?_,fn,?_,hrv⟩
 .rw [henter]
  exact (hsteps.trans hback).trans hst2
 all_goals first|rfl|exact GZ|exact hbk|exact hbr|exact (show P.funcs[b.fn]?=some fn from GZ▸hf)
theorem SV (bQ:dH P T) {fn:Func} (hf:P.funcs[f]?=some fn) (oO:(fn.name == "runtime.NumGoroutine")=false) {c:Code} (hc:fn.body=some c) {ds:List D} {rs:List ag} {d:D} {aJ:List ag} (hlen:ds.length<=fn.ntmps)
  (hg:∀ (b:Frame) (cs:List Frame),b.fn=f->Goal P T fn.ntmps b cs none rs.length (sS T fn.results.toList (Ends rs d aJ)) [.code c] ⟨dk 0 ds,rs,[]⟩):bP T P f ds rs d aJ:=
 yn bQ hf oO hc hlen (λhq _ h h' hk hv=>h.ends (λt d c q=>by simp [look] at q) h' hk hq hv) hg
theorem Aa (bQ:dH P T) {r M:Nat} {g:FuncId} {wJ A5:aK} {ps:List Tmp} {as bd:Code} {ds:List D} {rs:List ag} {d:D} {aJ:List ag} (hr:rs[r]?=some (.loop g M wJ ps as bd .ready none)) (HK:Lg M ps ds wJ=some A5)
  (hg:∀ (b:Frame) (cs:List Frame),b.fn=g->Goal P T M b cs (some r) rs.length (Nl r (Ends rs d aJ)) [.code as,.beginRound,.code bd] ⟨A5,rs,[]⟩):mO T P r ds rs d aJ:=by
 constructor
 intro N ay w0 sp sl df a w E vs h hv
 obtain ⟨l,hd,sz,db,tm,h1,h2,h3,h4,h5⟩:=h.loop hr
 have hR:=h.Bj (M:=M) (A5:=wJ) (tm:=tm) h3 h4
 obtain ⟨hlen,hR1,Zk⟩:=IY (tms:=id) HK hR h5 hv
 have hy:=run_yield (P:=P) (args:=vs.toArray) h2 (by simp [hlen])
 refine ⟨l,sz,g,_,as,bd,⟨hd,h1⟩,hy,?_⟩
 have htm:(Array.foldl (λtmps x=>match x with
   | (t,a)=>tmps.setIfInBounds t a) tm (ps.toArray.zip vs.toArray))=(ps.zip vs).foldl (λtmps x=>tmps.setIfInBounds x.1 x.2) tm:=by
  simp
 intro c cs
 simp only at htm ⊢
 rw [htm]
 let b:Frame:={ (default:Frame) with fn:=g,kind:=.normal,roundOf:=some l }
 have hb0:∀ tm,Frame.round l g tm as bd .normal=b.atR { tmps:=tm,defers:=[] } [.code as,.beginRound,.code bd]:=λtm=>by
  simp [Frame.round,Frame.atR,b]
 rw [hb0]
 have dy:∀ x∈oE sl a++sp,jz rs.length x.1=true:=λx hx=>by
  have:=aZ.low (hR.spec x hx)
  rwa [hR.len] at this
 have hEt:E.take rs.length=E:=List.take_of_length_le (Nat.le_of_eq h.len)
 obtain ⟨j,s,a',w1,E',dt,hk,uq,za,hend,hpost,hsteps⟩:=hg b (c::cs) rfl _ _ _ _ _ _ (bG _) dy (by rw [hEt]; exact ⟨l,sz,rfl,hd,h1⟩) hR1 Zk
 rw [hEt] at hk
 obtain ⟨x,e,hpost⟩:=cx hpost
 obtain ⟨d1,fa⟩:=x
 unfold DP at e
 split at e
 case h_2=>simp at e
 rename_i MM
 split at e
 case h_2=>simp at e
 rename_i g' M' gb UH Vf Uw Sy
 rw [bV] at Sy
 obtain ⟨l',qk,cF,db',tm',q1,q2,q3,q4,q5⟩:=uq.loop Sy
 obtain ⟨K,hE',_⟩:=hk.le r _ h1 (fA.J7 rfl)
 rw [hE'] at q1
 simp only [fA.wk,ak,bw] at q1
 obtain ⟨rfl,rfl,rfl⟩:=q1
 have fin:∀ (st:LoopState) (fF:Option Code) (bv:Bool),d1=bool bv->fa=setAt s.rs r (.loop g' M' gb UH Vf Uw st fF)->
   ∃ tv,Kept E tv/\R T N ay w0 sp ⟨sl,aJ,df⟩ a (w1.putObj l (.loop { state:=st,pending:=fF,fn:=g',tmps:=tm',params:=UH.toArray,assign:=Vf,body:=Uw,defers:=db' })) tv/\aZ tv (AV ay aJ tv) (w1.putObj l (.loop { state:=st,pending:=fF,fn:=g',tmps:=tm',params:=UH.toArray,assign:=Vf,body:=Uw,defers:=db' })) d (.bool bv):=by
  intro st fF bv hd1 aD5
  have hT:=uq.td Sy hE' q2 q3 q4 q5 st fF
  rw [<- aD5] at hT
  have hsd:s.df=[]:=MM
  have hR3:R T M ay w0 (oE sl a++sp) ⟨[],fa,[]⟩ { a' with defers:=[] } (w1.putObj l (.loop { state:=st,pending:=fF,fn:=g',tmps:=tm',params:=UH.toArray,assign:=Vf,body:=Uw,defers:=db' })) E':=⟨hT.size,.nil,hT.spec,hT.below,hT.len,hT.outer,hT.roots,hT.cS,hT.dD,λt d c q=>by simp [look] at q,hT.gn⟩
  have hR0:R T M ay w0 (oE sl a++sp) ⟨[],rs,[]⟩ { tmps:=a'.tmps,defers:=[] } w E:=⟨hT.size,.nil,hR1.spec,hR1.below,hR1.len,hR1.outer,hR1.roots,hR1.cS,hR1.dD,λt d c q=>by simp [look] at q,hR1.gn⟩
  obtain ⟨tv,hk2,hR4,hd4⟩:=hR0.ends (λt d c q=>by simp [look] at q) hR3 hk hpost (v:=.bool bv) (by rw [hd1]; exact ⟨rfl,rfl⟩)
  exact ⟨tv,hk2,h.back (s':=⟨[],aJ,[]⟩) hR4 hk2.le,hd4⟩
 cases j with
 | none=>
   simp only [ak,bw] at e
   have hend:dt=[]:=hend
   subst hend
   exact ⟨.bool true,_,fin .ready none true e.1.symm e.2.symm,hsteps.trans (.one (stepR_round_end rfl rfl (run_endRound none q2)))⟩
 | some c' =>
   simp only [ak,bw] at e
   refine ⟨.bool false,_,fin .done (some c') false e.1.symm e.2.symm,hsteps.trans (.one ?_)⟩
   rcases hend with ⟨k,rfl,rfl⟩|⟨id,k,rfl,rfl,hx⟩
   .exact stepR_round_ret rfl rfl (run_endRound (some .ret) q2)
   .exact stepR_round_exit rfl rfl hx (run_endRound (some (.exit id)) q2)
end
open Go.RowKit
section
variable {P:Program} {T:dL} {N:Nat} {ay:Nat->Prop} {w0:Kp} {sp:List (D×Value)} {s s':VS} {a:Act} {w w':World} {E E':Env} {f:FuncId} {b:Frame} {cs:List Frame} {ro:Option Nat} {n0:Nat} {eF:Option Code->VS->Prop} {todo:List Item}
def bF (d:D) (d1:D) (fa:List ag):Prop:=gB (dF fa d1) λd2=>bh d2 d
theorem OV (bQ:dH P T) {fn:Func} (hf:P.funcs[f]?=some fn) (oO:(fn.name == "runtime.NumGoroutine")=false) {c:Code} (hc:fn.body=some c) {ds:List D} {d:D} (hlen:ds.length<=fn.ntmps)
  (hg:∀ (b:Frame) (cs:List Frame),b.fn=f->Goal P T fn.ntmps b cs none 0 (sS T fn.results.toList (bF d)) [.code c] ⟨dk 0 ds,[],[]⟩):bP T P f ds [] d []:=by
 refine ⟨⟨fn,hf,oO,by simp [hc]⟩,?_⟩
 intro N ay w0 sp sl df a w E vs h0 hv cs
 obtain ⟨b,tm,GZ,hbr,hbk,henter,hR⟩:=Kb (P:=P) (f:=f) hf hc hlen h0 hv
 have hE0:E=[]:=List.eq_nil_of_length_eq_zero h0.len
 subst hE0
 have dy:∀ x∈oE sl a++sp,jz 0 x.1=true:=λx hx=>aZ.low (hR.spec x hx)
 obtain ⟨j,s,a',w1,E',dt,hk,uq,za,hend,hpost,hsteps⟩:=hg b cs GZ _ _ _ _ _ _ (bG _) dy hbr hR kx
 obtain ⟨hret,hpost⟩:=bX.1 hpost
 obtain ⟨x,hres0,hpost⟩:=cx hpost
 obtain ⟨d2,hreify,hle⟩:=cx hpost
 obtain ⟨d1,fa⟩:=x
 unfold RN at hres0
 split at hres0
 case h_2=>simp at hres0
 rename_i pK htake
 split at hres0
 case h_2=>simp at hres0
 rename_i d3 zM
 simp only [ak,bw] at hres0
 obtain ⟨rfl,rfl⟩:=hres0
 have hback:Steps P (lone (b.atR a' dt) cs w1) (lone { b.atR a' dt with mode:=.returning } cs w1):=by
  cases j with
  | none=>
    have hend:dt=[]:=hend
    subst hend
    exact .one (stepR_end hbr)
  | some c' =>
    rcases hend with ⟨k,rfl,rfl⟩|⟨id,k,rfl,_,_⟩
    .exact .one (stepR_ret hbr)
    .simp [Se] at hret
 have hR'':R T fn.ntmps ay w0 (oE sl a++sp) ⟨s.sl,s.rs,s.df⟩ a' w1 E':=uq
 obtain ⟨w2,hR2,hst2⟩:=tg (P:=P) (cs:=cs) s.df (fr:={ b.atR a' dt with mode:=.returning }) htake hR'' rfl rfl
 obtain ⟨pr,hpr1,hpr2⟩:=HY (s:=⟨s.sl,pK,[]⟩) za zM
 obtain ⟨v,hrv,hdv⟩:=mq bQ hR2 hpr1 hpr2
 have hR3:R T fn.ntmps ay w0 (oE sl a++sp) ⟨[],pK,[]⟩ { a' with defers:=[] } w2 E':=⟨hR2.size,hR2.defers,hR2.spec,hR2.below,hR2.len,hR2.outer,hR2.roots,hR2.cS,hR2.dD,λt d c q=>by simp [look] at q,hR2.gn⟩
 have hcut:=hR3.cut (n:=0) (bu _) dy (λt d q=>by simp [look] at q) (λt d c q=>by simp [look] at q) (λr hr=>by cases hr) (λq x hx=>by simp at hx)
 have hd2:aZ [] ay w2 d2 v:=qW hR2 (kl.outer hR2) hreify hdv
 refine ⟨.returned v,w2,{ { b.atR a' dt with mode:=.returning } with defers:=[] },⟨v,[],rfl,Kept.refl _,h0.back (s':=⟨[],[],[]⟩) hcut (Env.le_refl _),?_⟩,?_,?_,?_,?_,?_,fn,?_,hrv⟩
 .refine hle _ _ _ _ (aZ.mono (Env.le_refl _) (ba.refl _ w2) (λb _ q=>(ur b).1 q) hd2)
 .rw [henter]
  exact (hsteps.trans hback).trans hst2
 all_goals first|rfl|exact GZ|exact hbk|exact hbr|exact (show P.funcs[b.fn]?=some fn from GZ▸hf)
theorem Goal.ghost (g:Goal P T N b cs ro n0 eF todo s') (h:∀ ay w0 sp a w E,(∀ x∈sp,jz n0 x.1=true)->n0<=s.rs.length->R T N ay w0 sp s a w E->bM s.sl->∃ E',E'.take n0=E.take n0/\R T N ay w0 sp s' a w E'/\bM s'.sl):Goal P T N b cs ro n0 eF todo s:=by
 intro ay w0 sp a w E tr dy GS hR hn
 obtain ⟨E',h1,h2,h3⟩:=h ay w0 sp a w E dy tr hR hn
 have hl:n0<=s'.rs.length:=by
  have e:=congrArg List.length h1
  rw [List.length_take,List.length_take,hR.len,h2.len] at e
  omega
 have:=g ay w0 sp a w E' hl dy (by rw [h1]; exact GS) h2 h3
 rw [h1] at this
 exact this
theorem Goal.swap {r:Nat} {x y:ag} (hr:aV s.rs r=some x) (hl:y.live->x.live) (hx:∀ (base:Nat) (E:Env) (w:World) e av,aP E av base w e x->aP E av base w e y)
  (g:Goal P T N b cs ro n0 eF todo { s with rs:=setAt s.rs r y }):Goal P T N b cs ro n0 eF todo s:=
 g.ghost λay w0 sp a w E dy tr hR hn=>⟨E,rfl,by
  rw [bV] at hr
  rw [aT]
  exact hR.swap hr hl λe av q _=>hx _ _ _ _ _ q,hn⟩
def cH (x y:I):Prop:=∀ av w v,cX av w x v->cX av w y v
theorem cH.refl (x:I):cH x x:=λ_ _ _ h=>h
theorem cH.nil (sz:Nat) (get:Nat->Nat->I):cH (.v (.slice none 0 0)) (.sl sz 0 get):=by
 rintro av w v ⟨rfl,_⟩
 exact ⟨none,0,rfl,bG _,bu _,λh=>by omega⟩
theorem Goal.arr {r el sz n:Nat} {get get':Nat->Nat->I} (hr:aV s.rs r=some (.arr el sz n get)) (h:∀ i,i<n->∀ j,j<sz->cH (get i j) (get' i j))
  (g:Goal P T N b cs ro n0 eF todo { s with rs:=setAt s.rs r (.arr el sz n get') }):Goal P T N b cs ro n0 eF todo s:=
 Goal.swap (x:=.arr el sz n get) hr (λ_=>trivial) (λbase E w e av q=>by
  obtain ⟨p1,p2,xs,p3,p4⟩:=q
  exact ⟨p1,p2,xs,p3,λi hi j hj=>by
   obtain ⟨x,p5,p6⟩:=p4 i hi j hj
   exact ⟨x,p5,h i hi j hj _ _ _ p6⟩⟩) g
theorem Goal.freeze {r:Nat} (h:Go.V.freeze r s=some s') (g:Goal P T N b cs ro n0 eF todo s'):Goal P T N b cs ro n0 eF todo s:=
 g.ghost λay w0 sp a w E dy tr hR hn=>⟨E,rfl,(hR.freeze h).1,(hR.freeze h).2 hn⟩
def Sm (sl:aK):aK->Prop
 | []=>True
 | x::l=>(x.2.2=[]/\∃ d0,eJ sl x.1=some d0/\bh d0 x.2.1)/\Sm sl l
theorem rR {sl:aK}:∀ {l:aK},Sm sl l->∀ x∈l,x.2.2=[]/\∃ d0,eJ sl x.1=some d0/\bh d0 x.2.1
 | [],_,x,hx=>by cases hx
 | y::l,h,x,hx=>by
   rcases List.mem_cons.1 hx with rfl|hx
   .exact h.1
   .exact rR h.2 x hx
theorem Goal.slots {gb:aK} (h:Sm s.sl gb) (g:Goal P T N b cs ro n0 eF todo { s with sl:=gb }):Goal P T N b cs ro n0 eF todo s:=
 g.ghost λay w0 sp a w E dy tr hR hn=>⟨E,rfl,⟨hR.size,hR.defers,hR.spec,hR.below,hR.len,hR.outer,hR.roots,hR.cS,hR.dD,λt d c hl=>by
  obtain ⟨h1,d0,h2,h3⟩:=rR h _ (iE hl)
  have h1:c=[]:=h1
  subst h1
  have h4:=fM hn h2
  obtain ⟨q1,q2,q3⟩:=hR.slots t d0 [] h4
  exact ⟨q1,λq=>h3 _ _ _ _ (q2 q),q3⟩,hR.gn⟩,λx hx=>(rR h x hx).1⟩
theorem R.Ix (h:R T N ay w0 sp s a w E) (el sz:Nat) (get:Nat->Nat->I):R T N ay w0 sp { s with rs:=s.rs++[.arr el sz 0 get] } a w (E++[(Option.none,nI (.slice Option.none 0 0),sz)]):=by
 have hE:=Env.eb E [(Option.none,nI (.slice Option.none 0 0),sz)]
 have ji:∀ {r b z:Nat},cU (E++[(Option.none,nI (.slice Option.none 0 0),sz)]) r b z->cU E r b z:=by
  rintro r b z ⟨hh,q,q2⟩
  rcases Nat.lt_or_ge r E.length with hr|hr
  .rw [dv hr] at q; exact ⟨hh,q,q2⟩
  .rw [gm hr] at q
   rcases Nat.eq_zero_or_pos (r-E.length) with e|e
   .rw [e] at q; simp at q; subst q; rcases q2 with ⟨_,q2|q2⟩<;>simp at q2
   .rw [List.getElem?_eq_none (by simp; omega)] at q; simp at q
 have key:∀ (r:Nat) (y:ag) (b z:Nat),(s.rs++[ag.arr el sz 0 get])[r]?=some y->y.live->cU (E++[(Option.none,nI (.slice Option.none 0 0),sz)]) r b z->s.rs[r]?=some y:=by
  intro r y b z h1 h2 h3
  have dB:r<E.length:=by obtain ⟨_,q,_⟩:=ji h3; exact (List.getElem?_eq_some_iff.1 q).1
  rw [h.len] at dB
  rwa [dv dB] at h1
 have eG:∀ b,AV ay (s.rs++[.arr el sz 0 get]) (E++[(Option.none,nI (.slice Option.none 0 0),sz)]) b->AV ay s.rs E b:=by
  rintro b (q|⟨r,x,z,h1,h2,h3⟩)
  .exact .inl q
  .exact .inr ⟨r,x,z,key r x b z h1 h2 h3,h2,ji h3⟩
 refine h.zi (aJ:=s.rs++[.arr el sz 0 get]) hE (ba.refl _ w) h.below (λb _ q=>eG b q) (by simp [h.len]) ?_ ?_ ?_
 .intro r x e h1 h2
  rcases Nat.lt_or_ge r s.rs.length with hr|hr
  .rw [dv hr] at h1
   rw [dv (by rw [h.len]; exact hr)] at h2
   exact aP.mono hE (ba.refl _ w) (λb _ q=>eG b q) (λ_ _ _=>rfl) (h.roots r x e h1 h2)
  .have hr2:r<s.rs.length+1:=by simpa using (List.getElem?_eq_some_iff.1 h1).1
   have e0:r=s.rs.length:=by omega
   subst e0
   rw [gm (bG _)] at h1
   rw [gm (by rw [h.len]; exact bG _)] at h2
   simp at h1
   rw [h.len] at h2
   simp at h2
   subst h1 h2
   exact ⟨rfl,rfl,[],w.ownsRow_nil _ _ _,λi hi=>by omega⟩
 .intro r x b z h1 h2 h3
  exact h.cS r x b z (key r x b z h1 h2 h3) h2 (ji h3)
 .intro r r' x x' b z z' h1 ku h2 gk h3 kL
  exact h.dD r r' x x' b z z' (key r x b z h1 h2 h3) (key r' x' b z' ku gk kL) h2 gk (ji h3) (ji kL)
def ZC:Nat->Nat->I:=λ_ _=>.v (.bool false)
def Ig (t:Tmp) (el sz:Nat) (s:VS):VS:={ s with sl:=(t,.c (.sa s.rs.length 0),[])::s.sl,rs:=s.rs++[.arr el sz 0 ZC] }
theorem Goal.KB {t:Tmp} {el sz:Nat} (ht:eJ s.sl t=some (.c (.im (.v (.slice none 0 0))))) (g:Goal P T N b cs ro n0 eF todo (Ig t el sz s)):Goal P T N b cs ro n0 eF todo s:=
 g.ghost λay w0 sp a w E dy tr hR hn=>by
  have h1:=hR.Ix el sz ZC
  refine ⟨_,?_,⟨h1.size,h1.defers,h1.spec,h1.below,h1.len,h1.outer,h1.roots,h1.cS,h1.dD,λu d c hl=>?_,h1.gn⟩,hn.cons t _⟩
  .rw [List.take_append_of_le_length (by rw [hR.len]; exact tr)]
  .simp only [Ig,look] at hl
   split at hl
   .rename_i he
    have he:=bK he
    subst he
    simp only [ak,bw] at hl
    obtain ⟨rfl,rfl⟩:=hl
    obtain ⟨q1,q2,q3⟩:=hR.slots t _ _ (fM hn ht)
    refine ⟨q1,λq=>?_,q3⟩
    obtain ⟨hv,_⟩:=q2 q
    rw [hv]
    exact ⟨(none,nI (.slice none 0 0),sz),none,0,0,by rw [<- hR.len]; simp,rfl,bG _,rfl⟩
   .exact h1.slots u d c hl
def Nh (r j el sz:Nat) (l:List C) (s:VS):VS:={ s with rs:=setAt s.rs r (.box (setAt l j (.sa s.rs.length 0)))++[.arr el sz 0 ZC] }
theorem Goal.hX {r j el sz:Nat} {l:List C} (hr:aV s.rs r=some (.box l)) (hj:aV l j=some (.im (.v (.slice none 0 0)))) (g:Goal P T N b cs ro n0 eF todo (Nh r j el sz l s)):Goal P T N b cs ro n0 eF todo s:=
 g.ghost λay w0 sp a w E dy tr hR hn=>by
  rw [bV] at hr hj
  have h1:=hR.Ix el sz ZC
  have hrl:r<s.rs.length:=(List.getElem?_eq_some_iff.1 hr).1
  have h2:=h1.swap (r:=r) (x:=.box l) (y:=.box (setAt l j (.sa s.rs.length 0))) (by
   show (s.rs++[_])[r]?=_
   rw [dv hrl]; exact hr) (λ_=>trivial) (λe av ⟨bb,vs,Tc,p1,p2,p3,p4⟩ _=>⟨bb,vs,Tc,p1,by rw [aT]; simpa using p2,p3,by
    rw [aT]
    refine aB.tS (by simpa using p4.length) λi x v hx hv=>?_
    rw [dI] at hx
    split at hx
    .rename_i hji
     subst hji
     split at hx
     .simp only [ak] at hx
      subst hx
      obtain ⟨hv2,_⟩:=p4.get hj hv
      rw [hv2]
      exact ⟨(none,nI (.slice none 0 0),sz),none,0,0,by rw [<- hR.len]; simp,rfl,bG _,rfl⟩
     .simp at hx
    .exact p4.get hx hv⟩)
  refine ⟨E++[(none,nI (.slice none 0 0),sz)],?_,?_,hn⟩
  rotate_left
  .have e:(s.rs++[ag.arr el sz 0 ZC]).set r (.box (setAt l j (.sa s.rs.length 0)))=setAt s.rs r (.box (setAt l j (.sa s.rs.length 0)))++[.arr el sz 0 ZC]:=by
    rw [aT,aT,List.set_append,if_pos hrl]
   have h2:R T N ay w0 sp { s with rs:=(s.rs++[ag.arr el sz 0 ZC]).set r (.box (setAt l j (.sa s.rs.length 0))) } a w (E++[(none,nI (.slice none 0 0),sz)]):=h2
   rw [e] at h2
   exact h2
  .rw [List.take_append_of_le_length (by rw [hR.len]; exact tr)]
def vM (q:Nat) (l:List Nat):Option Nat:=List.rec none (λx _ ih=>Bool.rec (match ih with
 | some k=>some (k+1)
 | none=>none) (some 0) (Nat.beq x q)) l
def Lh (π:List Nat) (l:List Nat):Option (List Nat):=List.rec (some []) (λx _ ih=>match vM x π,ih with
 | some y,some r=>some (y::r)
 | _,_=>none) l
def Mi (π:List Nat) (c:C):Option C:=match c with
 | .im x=>some (.im x)
 | .rt r i j=>match vM r π with
   | some k=>some (.rt k i j)
   | none=>none
 | .sa r m=>match vM r π with
   | some k=>some (.sa k m)
   | none=>none
 | .mp r=>match vM r π with
   | some k=>some (.mp k)
   | none=>none
 | .yl r=>match vM r π with
   | some k=>some (.yl k)
   | none=>none
 | .ow r j=>match vM r π with
   | some k=>some (.ow k j)
   | none=>none
 | .dM f l=>match Lh π l with
   | some l'=>some (.dM f l')
   | none=>none
def Fu (π:List Nat) (l:List C):Option (List C):=List.rec (some []) (λx _ ih=>match Mi π x,ih with
 | some y,some r=>some (y::r)
 | _,_=>none) l
def K4 (π:List Nat) (d:D):Option D:=match d with
 | .c x=>match Mi π x with
   | some y=>some (.c y)
   | none=>none
 | .a l=>match Fu π l with
   | some m=>some (.a m)
   | none=>none
 | .t []=>some (.t [])
 | .t _=>none
def AP (π:List Nat) (l:aK):Option aK:=List.rec (some []) (λx _ ih=>match K4 π x.2.1,ih with
 | some y,some r=>some ((x.1,y,x.2.2)::r)
 | _,_=>none) l
def Qu (π:List Nat) (x:Fc):Option Fc:=match x with
 | .c c=>match Mi π c with
   | some d=>some (.c d)
   | none=>none
 | .o x=>some (.o x)
def N8 (π:List Nat) (l:List Fc):Option (List Fc):=List.rec (some []) (λx _ ih=>match Qu π x,ih with
 | some y,some r=>some (y::r)
 | _,_=>none) l
def Hc (π:List Nat) (x:ag):Option ag:=match x with
 | .bt el sz n get (some x)=>match N8 π x.2 with
   | some m=>some (.bt el sz n get (some (x.1,m)))
   | none=>none
 | .box l=>match Fu π l with
   | some m=>some (.box m)
   | none=>none
 | .row el sz n l=>match Fu π l with
   | some m=>some (.row el sz n m)
   | none=>none
 | .loop f N sl ps as bd st fF=>match AP π sl with
   | some gb=>some (.loop f N gb ps as bd st fF)
   | none=>none
 | x=>some x
def MY (π:List Nat) (rs:List ag) (l:List Nat):Option (List ag):=List.rec (some []) (λq _ ih=>match aV rs q with
 | some x=>match Hc π x,ih with
   | some y,some r=>some (y::r)
   | _,_=>none
 | none=>none) l
def ij (l:List Nat):Bool:=List.rec true (λx l ih=>Bool.rec ih false (pg x l)) l
def Qt (n:Nat) (k:Nat):List Nat->Bool:=Nat.rec (λ_ _=>true) (λ_ ih k l=>match l with
 | x::l=>Bool.rec false (ih (k+1) l) (Nat.beq x k)
 | []=>false) n k
def Rs (n0:Nat) (π:List Nat) (s:VS):Option VS:=match AP π s.sl,MY π s.rs π,Lh π s.df with
 | some sl,some rs,some df=>Bool.rec none (some ⟨sl,rs,df⟩) (ij π&&Qt n0 0 π)
 | _,_,_=>none
theorem pD:∀ {l:List Nat} {q k:Nat},vM q l=some k->l[k]?=some q
 | [],q,k,h=>by simp [vM] at h
 | x::l,q,k,h=>by
   have h:(Bool.rec (match vM q l with
    | some k=>some (k+1)
    | none=>none) (some 0) (Nat.beq x q):Option Nat)=some k:=h
   cases hb:Nat.beq x q with
   | true=>
     rw [hb] at h
     simp only [ak] at h
     subst h
     rw [bK hb]; rfl
   | false=>
     rw [hb] at h
     simp only at h
     split at h
     .rename_i k' hk
      simp only [ak] at h
      subst h
      simpa using pD hk
     .simp at h
def lI (π:List Nat) (E:Env):Env:=π.map λq=>E.getD q hole
theorem mM {π:List Nat} {k q:Nat} (h:π[k]?=some q) {e:fA} (he:E[q]?=some e):(lI π E)[k]?=some e:=by
 unfold lI
 rw [List.getElem?_map,h]
 simp [List.getD,he]
theorem P2 {π:List Nat} {k:Nat} {e:fA} (he:(lI π E)[k]?=some e) (oZ:e≠hole):∃ q,π[k]?=some q/\E[q]?=some e:=by
 unfold lI at he
 rw [List.getElem?_map] at he
 cases hq:π[k]? with
 | none=>rw [hq] at he; simp at he
 | some q=>
   rw [hq] at he
   simp only [Option.map_some,ak] at he
   refine ⟨q,rfl,?_⟩
   cases hE:E[q]? with
   | none=>rw [List.getD,hE] at he; simp at he; exact (oZ he.symm).elim
   | some e'=>rw [List.getD,hE] at he; simp at he; rw [he]
theorem s9 {π:List Nat} {k q b sz:Nat} (h:vM q π=some k):bq E q b sz->bq (lI π E) k b sz:=λ⟨hh,q1⟩=>⟨hh,mM (pD h) q1⟩
section
variable {π:List Nat} {av cY:Nat->Prop}
theorem Ef {E:Env}:∀ {l l':List Nat} {vs:List Value},Lh π l=some l'->aB (λr x=>∃ b sz,bq E r b sz/\x=.pointer (some ⟨b,0,none⟩)) l vs->aB (λr x=>∃ b sz,bq (lI π E) r b sz/\x=.pointer (some ⟨b,0,none⟩)) l' vs
 | [],l',_,h,.nil=>by
   have h:some []=some l':=h
   simp only [ak] at h
   subst h; exact .nil
 | x::l,l',_,h,.cons q k=>by
   have h:(match vM x π,Lh π l with
    | some y,some r=>some (y::r)
    | _,_=>none)=some l':=h
   split at h
   case h_2=>simp at h
   rename_i h1 h2
   simp only [ak] at h
   subst h
   obtain ⟨b,sz,q1,q2⟩:=q
   exact .cons ⟨b,sz,s9 h1 q1,q2⟩ (Ef h2 k)
theorem JM {E:Env}:∀ {l l':List Nat} {ds:List Deferred},Lh π l=some l'->aB (λr (d:Deferred)=>∃ b sz,bq E r b sz/\d={ target:=.collected b,args := #[] }) l ds->aB (λr (d:Deferred)=>∃ b sz,bq (lI π E) r b sz/\d={ target:=.collected b,args := #[] }) l' ds
 | [],l',_,h,.nil=>by
   have h:some []=some l':=h
   simp only [ak] at h
   subst h; exact .nil
 | x::l,l',_,h,.cons q k=>by
   have h:(match vM x π,Lh π l with
    | some y,some r=>some (y::r)
    | _,_=>none)=some l':=h
   split at h
   case h_2=>simp at h
   rename_i h1 h2
   simp only [ak] at h
   subst h
   obtain ⟨b,sz,q1,q2⟩:=q
   exact .cons ⟨b,sz,s9 h1 q1,q2⟩ (JM h2 k)
theorem yS (ha:∀ b,cY b->av b) {c c':C} {v:Value} (h:Mi π c=some c') (hv:bg E av w c v):bg (lI π E) cY w c' v:=by
 unfold Mi at h
 split at h
 .simp only [ak] at h; subst h; exact cX.mono (ba.refl _ w) (λb _ q=>ha b q) hv
 .split at h
  case h_2=>simp at h
  rename_i hk
  simp only [ak] at h; subst h
  obtain ⟨b,sz,h1,h2⟩:=hv
  exact ⟨b,sz,s9 hk h1,h2⟩
 .split at h
  case h_2=>simp at h
  rename_i hk
  simp only [ak] at h; subst h
  obtain ⟨e,ao,n,cap,h1,h2⟩:=hv
  exact ⟨e,ao,n,cap,mM (pD hk) h1,h2⟩
 .split at h
  case h_2=>simp at h
  rename_i hk
  simp only [ak] at h; subst h
  obtain ⟨b,sz,h1,h2⟩:=hv
  exact ⟨b,sz,s9 hk h1,h2⟩
 .split at h
  case h_2=>simp at h
  rename_i hk
  simp only [ak] at h; subst h
  obtain ⟨b,sz,h1,h2⟩:=hv
  exact ⟨b,sz,s9 hk h1,h2⟩
 .split at h
  case h_2=>simp at h
  rename_i hk
  simp only [ak] at h; subst h
  obtain ⟨e,vs,h1,h2⟩:=hv
  exact ⟨e,vs,mM (pD hk) h1,h2⟩
 .split at h
  case h_2=>simp at h
  rename_i hk
  simp only [ak] at h; subst h
  obtain ⟨vs,h1,h2⟩:=hv
  exact ⟨vs,h1,Ef hk h2⟩
theorem pG (ha:∀ b,cY b->av b):∀ {l l':List C} {vs:List Value},Fu π l=some l'->aB (bg E av w) l vs->aB (bg (lI π E) cY w) l' vs
 | [],l',_,h,.nil=>by
   have h:some []=some l':=h
   simp only [ak] at h
   subst h; exact .nil
 | x::l,l',_,h,.cons q k=>by
   have h:(match Mi π x,Fu π l with
    | some y,some r=>some (y::r)
    | _,_=>none)=some l':=h
   split at h
   case h_2=>simp at h
   rename_i h1 h2
   simp only [ak] at h
   subst h
   exact .cons (yS ha h1 q) (pG ha h2 k)
theorem Gj (ha:∀ b,cY b->av b) {d d':D} {v:Value} (h:K4 π d=some d') (hv:aZ E av w d v):aZ (lI π E) cY w d' v:=by
 unfold K4 at h
 split at h
 .split at h
  case h_2=>simp at h
  rename_i hk
  simp only [ak] at h; subst h
  exact yS ha hk hv
 .split at h
  case h_2=>simp at h
  rename_i hk
  simp only [ak] at h; subst h
  obtain ⟨vs,h1,h2⟩:=hv
  exact ⟨vs,h1,pG ha hk h2⟩
 .simp only [ak] at h; subst h
  obtain ⟨vs,h1,h2⟩:=hv
  cases h3:vs.toList with
  | nil=>exact ⟨vs,h1,by rw [h3]; exact .nil⟩
  | cons y l=>rw [h3] at h2; cases h2
 .simp at h
theorem rb:∀ {sl gb:aK},AP π sl=some gb->∀ t d c,look gb t=some (d,c)->∃ d0,K4 π d0=some d/\look sl t=some (d0,c)
 | [],gb,h,t,d,c,hl=>by
   have h:some []=some gb:=h
   simp only [ak] at h
   subst h; simp [look] at hl
 | x::sl,gb,h,t,d,c,hl=>by
   have h:(match K4 π x.2.1,AP π sl with
    | some y,some r=>some ((x.1,y,x.2.2)::r)
    | _,_=>none)=some gb:=h
   split at h
   case h_2=>simp at h
   rename_i h1 h2
   simp only [ak] at h
   subst h
   obtain ⟨k,d1,c1⟩:=x
   simp only [look] at hl ⊢
   split at hl
   .rename_i hb
    simp only [ak,bw] at hl
    obtain ⟨rfl,rfl⟩:=hl
    exact ⟨d1,h1,rfl⟩
   .rename_i hb
    exact rb h2 t d c hl
theorem uO:∀ {sl gb:aK},AP π sl=some gb->bM sl->bM gb
 | [],gb,h,_=>by
   have h:some []=some gb:=h
   simp only [ak] at h
   subst h; exact λx hx=>by cases hx
 | x::sl,gb,h,hn=>by
   have h:(match K4 π x.2.1,AP π sl with
    | some y,some r=>some ((x.1,y,x.2.2)::r)
    | _,_=>none)=some gb:=h
   split at h
   case h_2=>simp at h
   rename_i h1 h2
   simp only [ak] at h
   subst h
   intro z hz
   rcases List.mem_cons.1 hz with rfl|hz
   .exact hn x (eI ..)
   .exact uO h2 (λy hy=>hn y (eV _ hy)) z hz
theorem aP.aj5 {E E':Env} {av cY:Nat->Prop} {base:Nat} {w:World} {e:fA} {x:ag} (ha:∀ b,cY b->av b) (hx:match x with
  | .bt _ _ _ _ none=>True
  | _=>False) (h:aP E av base w e x):aP E' cY base w e x:=by
 cases x with
 | bt el sz n get et=>
   cases et with
   | some y=>exact hx.elim
   | none=>
     obtain ⟨p1,p2,xs,p3,Ks,p4,pf,p5⟩:=h
     refine ⟨p1,p2,xs,p3,Ks,p4,pf,λi hi j hj=>?_⟩
     obtain ⟨v,c,g1,g2,g3⟩:=p5 i hi j hj
     simp only [fS,ak] at g2
     subst g2
     exact ⟨v,_,g1,rfl,fb.mono (ba.refl _ w) (λb _ q=>ha b q) (λ_ _=>rfl) g3⟩
 | _=>exact hx.elim
theorem AU:∀ {l m:List Fc},N8 π l=some m->m.length=l.length/\∀ (j:Nat) (c:Fc),l[j]?=some c->∃ c',m[j]?=some c'/\Qu π c=some c'
 | [],m,h=>by
   have h:some []=some m:=h
   simp only [ak] at h
   subst h
   exact ⟨rfl,λj c hc=>by simp at hc⟩
 | x::l,m,h=>by
   have h:(match Qu π x,N8 π l with
    | some y,some r=>some (y::r)
    | _,_=>none)=some m:=h
   split at h
   case h_2=>simp at h
   rename_i y r h1 h2
   simp only [ak] at h
   subst h
   obtain ⟨h3,h4⟩:=AU h2
   refine ⟨by simp [h3],λj c hc=>?_⟩
   cases j with
   | zero=>simp at hc; subst hc; exact ⟨y,by simp,h1⟩
   | succ j=>simpa using h4 j c (by simpa using hc)
theorem Q0 (ha:∀ b,cY b->av b) {base:Nat} {c c':Fc} {K:Nat->Prop} {v:Value} (h:Qu π c=some c') (hv:iK E av base w c K v):iK (lI π E) cY base w c' K v:=by
 unfold Qu at h
 split at h
 .split at h
  case h_2=>simp at h
  rename_i h1
  simp only [ak] at h; subst h
  exact yS ha h1 hv
 .simp only [ak] at h; subst h
  exact fb.mono (ba.refl _ w) (λb _ q=>ha b q) (λ_ _=>rfl) hv
theorem Qk (ha:∀ b,cY b->av b) {x y:ag} {base:Nat} {e:fA} (h:Hc π x=some y) (hx:aP E av base w e x):aP (lI π E) cY base w e y:=by
 unfold Hc at h
 split at h
 .split at h
  case h_2=>simp at h
  rename_i x0 _ m hk
  simp only [ak] at h; subst h
  obtain ⟨h1,h2⟩:=AU hk
  obtain ⟨p1,p2,xs,p3,Ks,p4,pf,p5⟩:=hx
  obtain ⟨f1,f2⟩:=pf _ rfl
  refine ⟨p1,p2,xs,p3,Ks,p4,λx hx=>?_,λi hi j hj=>?_⟩
  .simp only [ak] at hx; subst hx; exact ⟨f1,h1.trans f2⟩
  .obtain ⟨v,c,g1,g2,g3⟩:=p5 i hi j hj
   unfold fS at g2 ⊢
   cases hb:Nat.beq i x0.1 with
   | true=>
     simp only [hb,bp] at g2 ⊢
     obtain ⟨c',g4,g5⟩:=h2 j c g2
     exact ⟨v,c',g1,g4,Q0 ha g5 g3⟩
   | false=>
     simp only [hb,ak] at g2 ⊢
     subst g2
     exact ⟨v,_,g1,rfl,fb.mono (ba.refl _ w) (λb _ q=>ha b q) (λ_ _=>rfl) g3⟩
 .split at h
  case h_2=>simp at h
  rename_i hk
  simp only [ak] at h; subst h
  obtain ⟨b,cs,Tc,p1,p2,p3,p4⟩:=hx
  have h4:=pG ha hk p4
  exact ⟨b,cs,Tc,p1,by rw [p2,p4.length,h4.length],p3,h4⟩
 .split at h
  case h_2=>simp at h
  rename_i hk
  simp only [ak] at h; subst h
  obtain ⟨p1,p2,xs,p3,p4⟩:=hx
  exact ⟨p1,p2,xs,p3,pG ha hk p4⟩
 .split at h
  case h_2=>simp at h
  rename_i hk
  simp only [ak] at h; subst h
  obtain ⟨b,db,tm,p1,p2,p3,p4,p5⟩:=hx
  refine ⟨b,db,tm,p1,p2,p3,λt d c hl=>?_,uO hk p5⟩
  obtain ⟨d0,q1,q2⟩:=rb hk t d c hl
  obtain ⟨s1,s2,s3⟩:=p4 t d0 c q2
  exact ⟨s1,λq=>Gj ha q1 (s2 q),s3⟩
 .rename_i n0 n1 n2 n3
  simp only [ak] at h; subst h
  cases x with
  | dead=>trivial
  | box l=>exact (n1 _ rfl).elim
  | row el sz n l=>exact (n2 _ _ _ _ rfl).elim
  | loop f N sl ps as bd st fF=>exact (n3 _ _ _ _ _ _ _ _ rfl).elim
  | bt el sz n get et=>
    cases et with
    | some x=>exact (n0 _ _ _ _ _ rfl).elim
    | none=>exact aP.aj5 (x:=.bt el sz n get none) ha trivial hx
  | arr el sz n get=>
    obtain ⟨p1,p2,xs,p3,p4⟩:=hx
    refine ⟨p1,p2,xs,p3,λi hi j hj=>?_⟩
    obtain ⟨x,p5,p6⟩:=p4 i hi j hj
    exact ⟨x,p5,cX.mono (ba.refl _ w) (λb _ q=>ha b q) p6⟩
  | own l=>
    obtain ⟨p1,p2,vs,p3,p4,Ks,p5,p6,p7⟩:=hx
    refine ⟨p1,p2,vs,p3,p4,Ks,p5,p6,λi o ho=>?_⟩
    obtain ⟨v,g1,g2⟩:=p7 i o ho
    exact ⟨v,g1,fb.mono (ba.refl _ w) (λb _ q=>ha b q) (λ_ _=>rfl) g2⟩
  | set l=>exact hx
  | kA=>exact hx
theorem AB {rs:List ag}:∀ {l:List Nat} {aJ:List ag},MY π rs l=some aJ->aJ.length=l.length/\∀ (k:Nat) (y:ag),aJ[k]?=some y->∃ q x,l[k]?=some q/\rs[q]?=some x/\Hc π x=some y
 | [],aJ,h=>by
   have h:some []=some aJ:=h
   simp only [ak] at h
   subst h
   exact ⟨rfl,λk y hy=>by simp at hy⟩
 | q::l,aJ,h=>by
   have h:(match aV rs q with
    | some x=>match Hc π x,MY π rs l with
      | some y,some r=>some (y::r)
      | _,_=>none
    | none=>none)=some aJ:=h
   split at h
   case h_2=>simp at h
   rename_i x hx
   split at h
   case h_2=>simp at h
   rename_i y r h1 h2
   simp only [ak] at h
   subst h
   obtain ⟨h3,h4⟩:=AB h2
   refine ⟨by simp [h3],λk z hz=>?_⟩
   cases k with
   | zero=>
     simp at hz
     subst hz
     rw [bV] at hx
     exact ⟨q,x,rfl,hx,h1⟩
   | succ k=>simpa using h4 k z (by simpa using hz)
theorem Lp {x y:ag} (h:Hc π x=some y):y.live->x.live:=by
 unfold Hc at h
 split at h
 .exact λ_=>trivial
 .exact λ_=>trivial
 .exact λ_=>trivial
 .exact λ_=>trivial
 .simp only [ak] at h; subst h; exact id
theorem mb:∀ {l:List Nat},ij l=true->∀ (i j:Nat) (q:Nat),l[i]?=some q->l[j]?=some q->i=j
 | [],_,i,j,q,h,_=>by simp at h
 | x::l,h,i,j,q,h1,h2=>by
   have h:(Bool.rec (ij l) false (pg x l):Bool)=true:=h
   cases hb:pg x l with
   | true=>rw [hb] at h; simp at h
   | false=>
     rw [hb] at h
     have hx:x ∉ l:=λq=>by rw [jw.2 q] at hb; simp at hb
     cases i with
     | zero=>
       cases j with
       | zero=>rfl
       | succ j=>
         simp at h1 h2
         subst h1
         exact (hx (List.mem_of_getElem? h2)).elim
     | succ i=>
       cases j with
       | zero=>
         simp at h1 h2
         subst h2
         exact (hx (List.mem_of_getElem? h1)).elim
       | succ j=>rw [mb h i j q (by simpa using h1) (by simpa using h2)]
theorem zv:∀ {n k:Nat} {l:List Nat},Qt n k l=true->∀ i,i<n->l[i]?=some (k+i)
 | 0,k,l,_,i,hi=>by omega
 | n+1,k,[],h,i,hi=>by
   have h:(false:Bool)=true:=h
   simp at h
 | n+1,k,x::l,h,i,hi=>by
   obtain ⟨h1,h2⟩:=Bool.gC (show (Bool.rec false (Qt n (k+1) l) (Nat.beq x k):Bool)=true from h)
   cases i with
   | zero=>simp [bK h1]
   | succ i=>
     have:=zv h2 i (by omega)
     rw [show k+(i+1)=k+1+i by omega]
     simpa using this
end
theorem R.renamed {π:List Nat} (h:Rs n0 π s=some s') (dy:∀ x∈sp,jz n0 x.1=true) (tr:n0<=s.rs.length) (hR:R T N ay w0 sp s a w E) (hn:bM s.sl):∃ E',E'.take n0=E.take n0/\R T N ay w0 sp s' a w E'/\bM s'.sl:=by
  unfold Rs at h
  split at h
  case h_2=>simp at h
  rename_i sl rs df KR Et MM
  obtain ⟨hb,h⟩:=Bool.au h
  simp only [dJ] at hb
  simp only [ak] at h
  subst h
  obtain ⟨hlen,hget⟩:=AB Et
  have rO:=mb hb.1
  have hhead:=zv hb.2
  simp only [Nat.zero_add] at hhead
  have htake:(lI π E).take n0=E.take n0:=by
   apply List.ext_getElem?
   intro i
   rw [dx,dx]
   split
   .rename_i hi
    have dB:i<E.length:=by rw [hR.len]; omega
    rw [mM (hhead i hi) (eK dB),eK dB]
   .rfl
  have hinv:∀ {k b sz:Nat},cU (lI π E) k b sz->∃ q,π[k]?=some q/\cU E q b sz:=λ⟨hh,q,g2,g3⟩=>by
   obtain ⟨q,h1,h2⟩:=P2 q (by rintro rfl; exact Ke g3)
   exact ⟨q,h1,hh,h2,g2,g3⟩
  have key:∀ (k:Nat) (y:ag) (b sz:Nat),rs[k]?=some y->y.live->cU (lI π E) k b sz->∃ q x,π[k]?=some q/\s.rs[q]?=some x/\x.live/\cU E q b sz:=by
   intro k y b sz h1 h2 h3
   obtain ⟨q,x,h4,h5,h6⟩:=hget k y h1
   obtain ⟨q',h7,h8⟩:=hinv h3
   rw [h4] at h7
   simp only [ak] at h7
   subst h7
   exact ⟨q,x,h4,h5,Lp h6 h2,h8⟩
  have eG:∀ b,AV ay rs (lI π E) b->AV ay s.rs E b:=by
   rintro b (q|⟨k,y,sz,h1,h2,h3⟩)
   .exact .inl q
   .obtain ⟨q,x,_,h5,h6,h7⟩:=key k y b sz h1 h2 h3
    exact .inr ⟨q,x,sz,h5,h6,h7⟩
  refine ⟨lI π E,htake,⟨hR.size,?_,λx hx=>?_,hR.below,by simp [lI,hlen],hR.outer,?_,?_,?_,?_,hR.gn.mono (ba.refl _ w) (λb _ q=>eG b q)⟩,uO KR hn⟩
  .exact JM MM hR.defers
  .have h1:=aZ.shrink (Kept.lU E n0) (Hl:=AV ay rs (lI π E)) (λb q=>eG b q) (by rw [List.length_take,hR.len,Nat.min_eq_left tr]; exact dy x hx) (hR.spec x hx)
   rw [<- htake] at h1
   exact aZ.mono (Kept.lU (lI π E) n0).le (ba.refl _ w) (λb _ q=>q) h1
  .intro k y e h1 h2
   obtain ⟨q,x,h4,h5,h6⟩:=hget k y h1
   have dB:q<E.length:=by rw [hR.len]; exact (List.getElem?_eq_some_iff.1 h5).1
   have hE:=eK dB
   rw [mM h4 hE] at h2
   simp only [ak] at h2
   subst h2
   exact Qk eG h6 (hR.roots q x _ h5 hE)
  .intro k y b sz h1 h2 h3
   obtain ⟨q,x,_,h5,h6,h7⟩:=key k y b sz h1 h2 h3
   exact hR.cS q x b sz h5 h6 h7
  .intro k k' y y' b sz cF h1 ku h2 gk h3 kL
   obtain ⟨q,x,h4,h5,h6,h7⟩:=key k y b sz h1 h2 h3
   obtain ⟨q',x',h4',h5',h6',h7'⟩:=key k' y' b cF ku gk kL
   have:=hR.dD q q' x x' b sz cF h5 h5' h6 h6' h7 h7'
   subst this
   exact rO k k' q h4 h4'
  .intro t d c hl
   obtain ⟨d0,q1,q2⟩:=rb KR t d c hl
   obtain ⟨s1,s2,s3⟩:=hR.slots t d0 c q2
   exact ⟨s1,λq=>Gj eG q1 (s2 q),s3⟩
theorem Goal.rename (π:List Nat) (h:Rs n0 π s=some s') (g:Goal P T N b cs ro n0 eF todo s'):Goal P T N b cs ro n0 eF todo s:=
 g.ghost λay w0 sp a w E dy tr hR hn=>R.renamed h dy tr hR hn
end
section
variable {P:Program} {T:dL} {N:Nat} {ay:Nat->Prop} {w0:Kp} {sp:List (D×Value)} {s s':VS} {a:Act} {w w':World} {E E':Env} {f:FuncId} {b:Frame} {cs:List Frame} {ro:Option Nat} {n0:Nat} {eF:Option Code->VS->Prop} {todo:List Item}
def aO (x y:ag):Prop:=(y.live->x.live)/\∀ (base:Nat) (E:Env) (w:World) e av,aP E av base w e x->aP E av base w e y
theorem aO.refl (x:ag):aO x x:=⟨id,λ_ _ _ _ _ h=>h⟩
def jg (c c':C):Prop:=∀ (E:Env) (av:Nat->Prop) (w:World) (v:Value),bg E av w c v->bg E av w c' v
theorem jg.refl (c:C):jg c c:=λ_ _ _ _ h=>h
theorem jg.im {x y:I} (h:cH x y):jg (.im x) (.im y):=λ_ av w v q=>h av w v q
theorem jg.nil (sz:Nat) (get:Nat->Nat->I):jg (.im (.v (.slice none 0 0))) (.im (.sl sz 0 get)):=jg.im (cH.nil sz get)
theorem aB.cle {E:Env} {av:Nat->Prop} {w:World}:∀ {l l':List C} {vs:List Value},aB jg l l'->aB (bg E av w) l vs->aB (bg E av w) l' vs
 | _,_,_,.nil,.nil=>.nil
 | _,_,_,.cons q k,.cons q' k'=>.cons (q _ _ _ _ q') (aB.cle k k')
theorem aO.box {l l':List C} (h:aB jg l l'):aO (.box l) (.box l'):=⟨λ_=>trivial,λbase E w e av q=>by
 obtain ⟨b,vs,Tc,p1,p2,p3,p4⟩:=q
 have h4:=aB.cle h p4
 exact ⟨b,vs,Tc,p1,by rw [p2,p4.length,h4.length],p3,h4⟩⟩
theorem aO.arr {el sz n:Nat} {get get':Nat->Nat->I} (h:∀ i,i<n->∀ j,j<sz->cH (get i j) (get' i j)):aO (.arr el sz n get) (.arr el sz n get'):=⟨λ_=>trivial,λbase E w e av q=>by
 obtain ⟨p1,p2,xs,p3,p4⟩:=q
 exact ⟨p1,p2,xs,p3,λi hi j hj=>by
  obtain ⟨x,p5,p6⟩:=p4 i hi j hj
  exact ⟨x,p5,h i hi j hj _ _ _ p6⟩⟩⟩
theorem aO.dead (x:ag):aO x .dead:=⟨λh=>h.elim,λ_ _ _ _ _ _=>trivial⟩
theorem aO.row {el sz n:Nat} {l:List C} {get:Nat->Nat->I} (h:∀ i,i<n->∀ j,j<sz->l[i*sz+j]?=some (.im (get i j))):aO (.row el sz n l) (.arr el sz n get):=⟨λ_=>trivial,λbase E w e av q=>Tf q h⟩
theorem aB.at_ {α β:Type} {Ra:α->β->Prop} {l:List α} {m:List β} (h:aB Ra l m) {i:Nat} {y:β} (e:m[i]?=some y):∃ x,l[i]?=some x/\Ra x y:=by
 induction h generalizing i with
 | nil=>simp at e
 | cons q _ ih=>
   cases i with
   | zero=>simp at e; subst e; exact ⟨_,rfl,q⟩
   | succ i=>exact ih (by simpa using e)
theorem R.le (h:R T N ay w0 sp s a w E) (hn:bM s.sl) (h1:Sm s.sl s'.sl) (h2:aB aO s.rs s'.rs) (h3:s'.df=s.df):R T N ay w0 sp s' a w E:=by
 have key:∀ (q:Nat) (y:ag),s'.rs[q]?=some y->∃ x,s.rs[q]?=some x/\aO x y:=λq y e=>h2.at_ e
 have eG:∀ b,AV ay s'.rs E b->AV ay s.rs E b:=by
  rintro b (q|⟨q,y,sz,g1,g2,g3⟩)
  .exact .inl q
  .obtain ⟨x,g4,g5⟩:=key q y g1
   exact .inr ⟨q,x,sz,g4,g5.1 g2,g3⟩
 have h':=h.zi (aJ:=s'.rs) (Env.le_refl E) (ba.refl _ w) h.below (λb _ q=>eG b q) (by rw [h.len,h2.length]) (λq y e g1 g2=>by
   obtain ⟨x,g4,g5⟩:=key q y g1
   exact g5.2 _ _ _ _ _ (aP.mono (Env.le_refl E) (ba.refl _ w) (λb _ q=>eG b q) (λ_ _ _=>rfl) (h.roots q x e g4 g2))) (λq y b sz g1 g2 g3=>by
   obtain ⟨x,g4,g5⟩:=key q y g1
   exact h.cS q x b sz g4 (g5.1 g2) g3) (λq q' y y' b sz cF g1 St g2 Ma g3 Yf=>by
   obtain ⟨x,g4,g5⟩:=key q y g1
   obtain ⟨x',g4',g5'⟩:=key q' y' St
   exact h.dD q q' x x' b sz cF g4 g4' (g5.1 g2) (g5'.1 Ma) g3 Yf)
 exact ⟨h'.size,by rw [h3]; exact h'.defers,h'.spec,h'.below,h'.len,h'.outer,h'.roots,h'.cS,h'.dD,λt d c hl=>by
  obtain ⟨g1,d0,g2,g3⟩:=rR h1 _ (iE hl)
  have g1:c=[]:=g1
  subst g1
  obtain ⟨q1,q2,q3⟩:=h'.slots t d0 [] (fM hn g2)
  exact ⟨q1,λq=>g3 _ _ _ _ (q2 q),q3⟩,h'.gn⟩
theorem Goal.le (h1:Sm s.sl s'.sl) (h2:aB aO s.rs s'.rs) (h3:s'.df=s.df) (g:Goal P T N b cs ro n0 eF todo s'):Goal P T N b cs ro n0 eF todo s:=
 Goal.ghost g λay w0 sp a w E dy tr hR hn=>⟨E,rfl,hR.le hn h1 h2 h3,λx hx=>(rR h1 x hx).1⟩
end
open Go.RowKit
section
def oJ {α β:Type} (f:α->β) (l:List α):List β:=List.rec [] (λx _ ih=>f x::ih) l
theorem hU {α β:Type} (f:α->β) (l:List α):oJ f l=l.map f:=by
 induction l with
 | nil=>rfl
 | cons x l ih=>exact congrArg (f x::·) ih
def oC (π:List Nat) (n i:Nat):Nat:=match aV π i with
 | some q=>q
 | none=>n+(i-π.length)
def GP (ρ:Nat->Nat) (c:C):C:=match c with
 | .im x=>.im x
 | .rt r i j=>.rt (ρ r) i j
 | .sa r m=>.sa (ρ r) m
 | .mp r=>.mp (ρ r)
 | .dM f l=>.dM f (oJ ρ l)
 | .yl r=>.yl (ρ r)
 | .ow r j=>.ow (ρ r) j
def Ky (ρ:Nat->Nat) (d:D):D:=match d with
 | .c x=>.c (GP ρ x)
 | .a l=>.a (oJ (GP ρ) l)
 | .t l=>.t (oJ (λx=>(x.1,oJ (GP ρ) x.2)) l)
def L0 (ρ:Nat->Nat) (l:aK):aK:=oJ (λx=>(x.1,Ky ρ x.2.1,x.2.2)) l
def mvF (ρ:Nat->Nat) (x:Fc):Fc:=match x with
 | .c x=>.c (GP ρ x)
 | .o x=>.o x
def zY (ρ:Nat->Nat) (x:ag):ag:=match x with
 | .box l=>.box (oJ (GP ρ) l)
 | .row el sz n l=>.row el sz n (oJ (GP ρ) l)
 | .loop f N sl ps as bd st fF=>.loop f N (L0 ρ sl) ps as bd st fF
 | .dead=>.dead
 | .arr el sz n get=>.arr el sz n get
 | .bt el sz n get none=>.bt el sz n get none
 | .bt el sz n get (some x)=>.bt el sz n get (some (x.1,oJ (mvF ρ) x.2))
 | .own l=>.own l
 | .set l=>.set l
 | .kA=>.kA
def tW (ρ:Nat->Nat) (π:List Nat):List ag->List ag->List ag->List ag:=List.rec (λ_ aJ RS=>RS++oJ (zY ρ) aJ) (λq _ ih rs aJ RS=>match rs,aJ with
 | x::rs,y::aJ=>match x with
   | .dead=>ih rs aJ RS
   | _=>ih rs aJ (setAt RS q (zY ρ y))
 | _,_=>[]) π
def ah2 (ρ:Nat->Nat) (RS:List ag) (q:Nat) (x y:ag):Prop:=match x with
 | .dead=>y=.dead
 | x=>aV RS q=some (zY ρ x)
def J4 (ρ:Nat->Nat) (RS:List ag) (π:List Nat):List ag->List ag->Prop:=List.rec (λrs _=>rs=[]) (λq _ ih rs aJ=>match rs,aJ with
 | x::rs,y::aJ=>ah2 ρ RS q x y/\q<RS.length/\ih rs aJ
 | _,_=>False) π
end
section
variable {e E:Env} {av:Nat->Prop} {w:World} {ρ:Nat->Nat}
theorem aB.mR {α β γ:Type} {S:β->γ->Prop} {f:α->β}:∀ {l:List α} {m:List γ},aB S (l.map f) m↔aB (λx y=>S (f x) y) l m
 | [],m=>⟨λh=>by cases h; exact .nil,λh=>by cases h; exact .nil⟩
 | x::l,m=>⟨λh=>by cases h with|cons a b=>exact .cons a (aB.mR.1 b),λh=>by cases h with|cons a b=>exact .cons a (aB.mR.2 b)⟩
theorem aB.iff {α β:Type} {R S:α->β->Prop} (h:∀ x y,R x y↔S x y) {l:List α} {m:List β}:aB R l m↔aB S l m:=⟨λk=>k.mono λx y=>(h x y).1,λk=>k.mono λx y=>(h x y).2⟩
def kv (e E:Env) (ρ:Nat->Nat):Prop:=∀ i,(e[i]?).map (λx:fA=>x.wk λ_=>False)=(E[ρ i]?).map λx:fA=>x.wk λ_=>False
theorem kv.of {e E:Env} {ρ:Nat->Nat} (h:∀ i,e[i]?=E[ρ i]?):kv e E ρ:=λi=>by rw [h i]
theorem Jq {x y:fA} {o:Option fA} (h:o=some x) {p:Option fA} (hp:o.map (λx:fA=>x.wk λ_=>False)=p.map λx:fA=>x.wk λ_=>False):∃ K,p=some (x.wk K):=by
 subst h
 cases p with
 | none=>simp at hp
 | some y=>
   simp only [Option.map_some,ak] at hp
   obtain ⟨y1,⟨y2,y3⟩,y4⟩:=y
   simp only [fA.wk,bw] at hp
   obtain ⟨h1,⟨h2,_⟩,h3⟩:=hp
   exact ⟨y3,by simp only [fA.wk,h1,h2,h3]⟩
theorem kv.to {e E:Env} {ρ:Nat->Nat} (he:kv e E ρ) {r:Nat} {x:fA} (h:e[r]?=some x):∃ K,E[ρ r]?=some (x.wk K):=Jq (y:=x) h (he r)
theorem kv.back {e E:Env} {ρ:Nat->Nat} (he:kv e E ρ) {r:Nat} {x:fA} (h:E[ρ r]?=some x):∃ K,e[r]?=some (x.wk K):=Jq (y:=x) h (he r).symm
theorem Kg (he:kv e E ρ) {r b sz:Nat}:bq e r b sz↔bq E (ρ r) b sz:=by
 constructor
 .rintro ⟨h,q⟩
  obtain ⟨K,q⟩:=he.to q
  exact ⟨(h.1,K),q⟩
 .rintro ⟨h,q⟩
  obtain ⟨K,q⟩:=he.back q
  exact ⟨(h.1,K),q⟩
theorem Zz (he:∀ i,e[i]?=E[ρ i]?) {r b sz:Nat}:cU e r b sz↔cU E (ρ r) b sz:=by
 unfold cU; rw [he]
theorem sG (he:kv e E ρ) {c:C} {v:Value}:bg e av w c v↔bg E av w (GP ρ c) v:=by
 cases c with
 | im x=>exact Iff.rfl
 | rt r i j=>simp only [bg,GP,Kg he]
 | sa r m=>
   simp only [bg,GP]
   constructor
   .rintro ⟨x,a,n,cap,h1,h2,h3⟩
    obtain ⟨K,h1⟩:=he.to h1
    exact ⟨_,a,n,cap,h1,h2,h3⟩
   .rintro ⟨x,a,n,cap,h1,h2,h3⟩
    obtain ⟨K,h1⟩:=he.back h1
    exact ⟨_,a,n,cap,h1,h2,h3⟩
 | mp r=>simp only [bg,GP,Kg he]
 | yl r=>simp only [bg,GP,Kg he]
 | ow r j=>
   simp only [bg,GP]
   constructor
   .rintro ⟨x,vs,h1,h2,h3⟩
    obtain ⟨K,h1⟩:=he.to h1
    exact ⟨_,vs,h1,h2,h3⟩
   .rintro ⟨x,vs,h1,h2,h3⟩
    obtain ⟨K,h1⟩:=he.back h1
    exact ⟨_,vs,h1,h2,h3⟩
 | dM f l=>simp only [bg,GP,hU,aB.mR,Kg he]
theorem sP (he:kv e E ρ) {l:List C} {m:List Value}:aB (bg e av w) l m↔aB (bg E av w) (oJ (GP ρ) l) m:=by
 rw [hU,aB.mR]
 exact aB.iff λx y=>sG he
theorem wm (he:kv e E ρ) {d:D} {v:Value}:aZ e av w d v↔aZ E av w (Ky ρ d) v:=by
 cases d with
 | c x=>exact sG he
 | a l=>simp only [aZ,Ky,sP he]
 | t l=>
   simp only [aZ,Ky,hU (λx:Bool×List C=>(x.1,oJ (GP ρ) x.2)),aB.mR]
   refine exists_congr λvs=>and_congr Iff.rfl (aB.iff λx y=>?_)
   obtain ⟨b,l⟩:=x
   cases b with
   | true=>simp only [sP he]
   | false=>
     simp only
     constructor
     .rintro ⟨c,rfl,h⟩
      exact ⟨GP ρ c,rfl,(sG he).1 h⟩
     .rintro ⟨c,h1,h⟩
      rw [hU] at h1
      match l,h1 with
      | [c0],h1=>
        simp only [List.map_cons,List.map_nil,List.cons.injEq,and_true] at h1
        subst h1
        exact ⟨c0,rfl,(sG he).2 h⟩
      | [],h1=>simp at h1
      | _::_::_,h1=>simp at h1
theorem Ok (he:kv e E ρ) {l:List D} {m:List Value}:aB (aZ e av w) l m↔aB (aZ E av w) (oJ (Ky ρ) l) m:=by
 rw [hU,aB.mR]
 exact aB.iff λx y=>wm he
theorem Dl:∀ {sl:aK} {t:Tmp},look (L0 ρ sl) t=(look sl t).map λx=>(Ky ρ x.1,x.2)
 | [],t=>rfl
 | (k,d,c)::sl,t=>by
   show look ((k,Ky ρ d,c)::L0 ρ sl) t=_
   simp only [look]
   split
   .rfl
   .exact Dl
theorem QZ {sl:aK}:(∀ x∈L0 ρ sl,x.2.2=[])↔∀ x∈sl,x.2.2=[]:=by
 unfold L0
 rw [hU]
 refine ⟨λh x hx=>?_,λh y hy=>?_⟩
 .have:=h _ (List.mem_map.2 ⟨x,hx,rfl⟩)
  exact this
 .obtain ⟨x,hx,rfl⟩:=List.mem_map.1 hy
  exact h x hx
theorem Fm (he:kv e E ρ) {N:Nat} {sl:aK} {tm:Array Value}:gW e av w N sl tm↔gW E av w N (L0 ρ sl) tm:=by
 constructor
 .intro h t d c hl
  rw [Dl] at hl
  cases hx:look sl t with
  | none=>rw [hx] at hl; simp at hl
  | some x=>
    rw [hx] at hl
    simp only [Option.map_some,ak,bw] at hl
    obtain ⟨rfl,rfl⟩:=hl
    obtain ⟨q1,q2,q3⟩:=h t x.1 x.2 hx
    exact ⟨q1,λq=>(wm he).1 (q2 q),q3⟩
 .intro h t d c hl
  obtain ⟨q1,q2,q3⟩:=h t (Ky ρ d) c (by rw [Dl,hl]; rfl)
  exact ⟨q1,λq=>(wm he).2 (q2 q),q3⟩
theorem xg {α β:Type} (f:α->β) (l:List α):(oJ f l).length=l.length:=by rw [hU]; simp
theorem yg (he:kv e E ρ) {base:Nat} {ou:fA} {x:ag}:aP e av base w ou x↔aP E av base w ou (zY ρ x):=by
 cases x with
 | dead=>exact Iff.rfl
 | box l=>simp only [aP,zY,xg,sP he]
 | arr el sz n get=>exact Iff.rfl
 | row el sz n l=>simp only [aP,zY,sP he]
 | bt el sz n get et=>
   have hF:∀ {c:Fc} {K:Nat->Prop} {v:Value},iK e av base w c K v↔iK E av base w (mvF ρ c) K v:=λ{c K v}=>by
    cases c with
    | c x=>exact sG he
    | o x=>exact Iff.rfl
   cases et with
   | none=>
     constructor<;>rintro ⟨p1,p2,xs,p3,Ks,p4,pf,p5⟩<;>refine ⟨p1,p2,xs,p3,Ks,p4,pf,λi hi j hj=>?_⟩<;>obtain ⟨v,c,g1,g2,g3⟩:=p5 i hi j hj<;>(simp only [fS,ak] at g2; subst g2; exact ⟨v,_,g1,rfl,g3⟩)
   | some x=>
     constructor
     .rintro ⟨p1,p2,xs,p3,Ks,p4,pf,p5⟩
      obtain ⟨f1,f2⟩:=pf _ rfl
      refine ⟨p1,p2,xs,p3,Ks,p4,λy hy=>?_,λi hi j hj=>?_⟩
      .simp only [ak] at hy; subst hy; exact ⟨f1,by rw [xg]; exact f2⟩
      .obtain ⟨v,c,g1,g2,g3⟩:=p5 i hi j hj
       unfold fS at g2 ⊢
       cases hb:Nat.beq i x.1 with
       | true=>
         simp only [hb,bp] at g2 ⊢
         exact ⟨v,mvF ρ c,g1,by rw [hU,List.getElem?_map,g2]; rfl,hF.1 g3⟩
       | false=>
         simp only [hb,ak] at g2 ⊢
         subst g2
         exact ⟨v,_,g1,rfl,g3⟩
     .rintro ⟨p1,p2,xs,p3,Ks,p4,pf,p5⟩
      obtain ⟨f1,f2⟩:=pf _ rfl
      refine ⟨p1,p2,xs,p3,Ks,p4,λy hy=>?_,λi hi j hj=>?_⟩
      .simp only [ak] at hy; subst hy; exact ⟨f1,by rw [xg] at f2; exact f2⟩
      .obtain ⟨v,c,g1,g2,g3⟩:=p5 i hi j hj
       unfold fS at g2 ⊢
       cases hb:Nat.beq i x.1 with
       | true=>
         simp only [hb,bp,hU,List.getElem?_map] at g2 ⊢
         cases hc:x.2[j]? with
         | none=>rw [hc] at g2; simp at g2
         | some c0=>
           rw [hc] at g2
           simp only [Option.map_some,ak] at g2
           subst g2
           exact ⟨v,c0,g1,rfl,hF.2 g3⟩
       | false=>
         simp only [hb,ak] at g2 ⊢
         subst g2
         exact ⟨v,_,g1,rfl,g3⟩
 | own l=>exact Iff.rfl
 | set l=>exact Iff.rfl
 | kA=>exact Iff.rfl
 | loop f N sl ps as bd st fF=>
   simp only [aP,zY,Fm he,QZ]
theorem jL {x:ag}:(zY ρ x).live↔x.live:=by
 cases x with
 | bt el sz n get et=>cases et<;>exact Iff.rfl
 | _=>exact Iff.rfl
end
structure Frm (ρ:Nat->Nat) (π:List Nat) (rs aJ RS RU:List ag):Prop where
 zF:π.length=rs.length
 lt:∀ q∈π,q<RS.length
 len:rs.length<=aJ.length
 len':RU.length=RS.length+(aJ.length-rs.length)
 img:∀ (i:Nat) (x:ag),rs[i]?=some x->x.live->∃ q y,π[i]?=some q/\RS[q]?=some (zY ρ x)/\aJ[i]?=some y/\RU[q]?=some (zY ρ y)
 out:∀ q:Nat,q<RS.length->(∀ (i:Nat) (x:ag),rs[i]?=some x->x.live->π[i]?≠some q)->RU[q]?=RS[q]?
 new:∀ j:Nat,RU[RS.length+j]?=(aJ[rs.length+j]?).map (zY ρ)
 dead:∀ i:Nat,rs[i]?=some .dead->aJ[i]?=some .dead
theorem pC {ρ:Nat->Nat}:∀ {π:List Nat} {rs aJ RS Ls:List ag},ij π=true->RS.length=Ls.length->(∀ q∈π,RS[q]?=Ls[q]?)->J4 ρ Ls π rs aJ->
  Frm ρ π rs aJ RS (tW ρ π rs aJ RS)
 | [],rs,aJ,RS,Ls,_,_,_,h=>by
   have h:rs=[]:=h
   subst h
   have e:tW ρ [] [] aJ RS=RS++aJ.map (zY ρ):=by rw [<- hU]; rfl
   rw [e]
   refine ⟨rfl,λq hq=>(by cases hq),bu _,(by simp),λi x hx=>(by simp at hx),λq hq _=>dv hq,λj=>?_,λi hi=>(by simp at hi)⟩
   rw [gm (Nat.le_add_right _ _)]
   simp
 | q::π,rs,aJ,RS,Ls,rO,hl,yB,h=>by
   have hnd0:ij (q::π)=true:=rO
   have hnd1:(Bool.rec (ij π) false (pg q π):Bool)=true:=rO
   have hq:q ∉ π:=λhm=>by rw [jw.2 hm] at hnd1; simp at hnd1
   have hnd2:ij π=true:=by
    cases hb:pg q π with
    | true=>exact (hq (jw.1 hb)).elim
    | false=>rw [hb] at hnd1; exact hnd1
   match rs,aJ,h with
   | x::rs,y::aJ,h=>
     obtain ⟨h1,h2,h3⟩:ah2 ρ Ls q x y/\q<Ls.length/\J4 ρ Ls π rs aJ:=h
     by_cases hx:x.live
     .have e:tW ρ (q::π) (x::rs) (y::aJ) RS=tW ρ π rs aJ (RS.set q (zY ρ y)):=by
       rw [<- aT]
       cases x<;>first|exact hx.elim|rfl
      have h1:Ls[q]?=some (zY ρ x):=by
       rw [<- bV]
       cases x<;>first|exact hx.elim|exact h1
      have ih:=pC (RS:=RS.set q (zY ρ y)) (Ls:=Ls) hnd2 (by simpa using hl) (λk hk=>by
       have:k≠q:=λe=>hq (e▸hk)
       rw [dI,if_neg (λe=>this e.symm)]
       exact yB k (eV _ hk)) h3
      rw [e]
      have hqout:∀ (i:Nat) (z:ag),rs[i]?=some z->z.live->π[i]?≠some q:=λi z _ _ hp=>hq (List.mem_of_getElem? hp)
      have hql:q<RS.length:=by rw [hl]; exact h2
      refine ⟨by simp [ih.zF],λk hk=>?_,by simpa using ih.len,?_,λi z hz vZ=>?_,λk hk hout=>?_,λj=>?_,λi hi=>?_⟩
      .rcases List.mem_cons.1 hk with rfl|hk
       .exact hql
       .simpa using ih.lt k hk
      .rw [ih.len']; simp
      .cases i with
       | zero=>
         simp at hz
         subst hz
         refine ⟨q,y,rfl,by rw [yB q (eI ..)]; exact h1,rfl,?_⟩
         rw [ih.out q (by simpa using hql) hqout,dI,if_pos rfl,if_pos hql]
       | succ i=>
         obtain ⟨k,z',p1,p2,p3,p4⟩:=ih.img i z (by simpa using hz) vZ
         refine ⟨k,z',by simpa using p1,?_,by simpa using p3,p4⟩
         have:q≠k:=λe=>hq (e▸List.mem_of_getElem? p1)
         rwa [dI,if_neg this] at p2
      .have oZ:q≠k:=λe=>hout 0 x rfl hx (by simp [e])
       rw [ih.out k (by simpa using hk) (λi z hz vZ hp=>hout (i+1) z (by simpa using hz) vZ (by simpa using hp)),dI,if_neg oZ]
      .have:=ih.new j
       simp only [List.length_set] at this
       rw [this,show (x::rs).length+j=(rs.length+j)+1 by simp; omega]
       simp
      .cases i with
       | zero=>simp at hi; subst hi; exact hx.elim
       | succ i=>simpa using ih.dead i (by simpa using hi)
     .have hx:x=.dead:=by cases x<;>first|rfl|exact (hx trivial).elim
      subst hx
      have h1:y=.dead:=h1
      subst h1
      have ih:=pC (RS:=RS) (Ls:=Ls) hnd2 hl (λk hk=>yB k (eV _ hk)) h3
      show Frm ρ (q::π) (.dead::rs) (.dead::aJ) RS (tW ρ π rs aJ RS)
      refine ⟨by simp [ih.zF],λk hk=>?_,by simpa using ih.len,?_,λi z hz vZ=>?_,λk hk hout=>?_,λj=>?_,λi hi=>?_⟩
      .rcases List.mem_cons.1 hk with rfl|hk
       .rw [hl]; exact h2
       .exact ih.lt k hk
      .rw [ih.len']; simp
      .cases i with
       | zero=>simp at hz; subst hz; exact vZ.elim
       | succ i=>
         obtain ⟨k,z',p1,p2,p3,p4⟩:=ih.img i z (by simpa using hz) vZ
         exact ⟨k,z',by simpa using p1,p2,by simpa using p3,p4⟩
      .exact ih.out k hk λi z hz vZ hp=>hout (i+1) z (by simpa using hz) vZ (by simpa using hp)
      .rw [ih.new j,show (ag.dead::rs).length+j=(rs.length+j)+1 by simp; omega]
       simp
      .cases i with
       | zero=>rfl
       | succ i=>simpa using ih.dead i (by simpa using hi)
   | [],_,h=>exact h.elim
   | _::_,[],h=>exact h.elim
section
variable {P:Program} {T:dL} {f:FuncId} {ds:List D} {rs aJ RS RU:List ag} {d:D}
theorem bP.frm {π:List Nat} (h:bP T P f ds rs d aJ) (rO:ij π=true) (hF:Frm (oC π RS.length) π rs aJ RS RU):bP T P f (oJ (Ky (oC π RS.length)) ds) RS (Ky (oC π RS.length) d) RU:=by
 refine ⟨h.out.1,?_⟩
 intro N ay w0 sp sl df a w E VS hR hv
 have hndp:=mb rO
 let ρ:=oC π RS.length
 have hEl:E.length=RS.length:=hR.len
 have rho_in:∀ {i q:Nat},π[i]?=some q->ρ i=q:=λ{i q} hi=>by
  show oC π RS.length i=q
  unfold oC; rw [bV,hi]
 have rho_out:∀ {i:Nat},π.length<=i->ρ i=RS.length+(i-π.length):=λ{i} hi=>by
  show oC π RS.length i=_
  unfold oC; rw [bV,List.getElem?_eq_none hi]
 let e:=lI π E
 have hel:e.length=rs.length:=by show (lI π E).length=_; unfold lI; simp [hF.zF]
 have he:∀ i,e[i]?=E[ρ i]?:=by
  intro i
  rcases Nat.lt_or_ge i π.length with hi|hi
  .have hq:=eK hi
   have dB:π[i]<E.length:=by rw [hEl]; exact hF.lt _ (List.getElem_mem hi)
   rw [rho_in hq,eK dB]
   exact mM hq (eK dB)
  .rw [rho_out hi,List.getElem?_eq_none (by rw [hel,<- hF.zF]; exact hi),List.getElem?_eq_none (by omega)]
 let own:Nat->Prop:=λb=>∃ i x sz,rs[i]?=some x/\x.live/\cU e i b sz
 let k0:Kp:=⟨w,w0.base,own⟩
 let av1:Nat->Prop:=λb=>AV ay RS E b/\¬ own b
 have Hn:∀ {i:Nat} {x:ag} {b sz:Nat},rs[i]?=some x->x.live->cU e i b sz->∃ q,π[i]?=some q/\RS[q]?=some (zY ρ x)/\(zY ρ x).live/\cU E q b sz:=by
  intro i x b sz h1 h2 h3
  obtain ⟨q,y,p1,p2,_⟩:=hF.img i x h1 h2
  refine ⟨q,p1,p2,jL.2 h2,?_⟩
  have:=(Zz he).1 h3
  rwa [rho_in p1] at this
 have hownAV:∀ {b:Nat},own b->AV ay RS E b/\w0.In b/\b<w.heap.size:=by
  rintro b ⟨i,x,sz,h1,h2,h3⟩
  obtain ⟨q,_,p2,p3,p4⟩:=Hn h1 h2 h3
  exact ⟨.inr ⟨q,_,sz,p2,p3,p4⟩,hR.cS q _ b sz p2 p3 p4⟩
 have hAVlt:∀ {b:Nat},AV ay RS E b->b<w.heap.size:=by
  rintro b (q|⟨q,x,sz,h1,h2,h3⟩)
  .exact hR.jU q
  .exact (hR.cS q x b sz h1 h2 h3).2
 have hav0:∀ {b:Nat},ay b->¬ own b:=λ{b} q ho=>(hR.outer b q).2 ((hownAV ho).2.1.own (hR.outer b q).1)
 have avEq:AV av1 rs e=AV ay RS E:=by
  funext b
  refine propext ⟨?_,λq=>?_⟩
  .rintro (q|⟨i,x,sz,h1,h2,h3⟩)
   .exact q.1
   .exact (hownAV ⟨i,x,sz,h1,h2,h3⟩).1
  .by_cases ho:own b
   .obtain ⟨i,x,sz,h1,h2,h3⟩:=ho
    exact .inr ⟨i,x,sz,h1,h2,h3⟩
   .exact .inl ⟨q,ho⟩
 have hsmall:R T 0 av1 k0 [] ⟨[],rs,[]⟩ { tmps := #[],defers:=[] } w e:=by
  refine ⟨rfl,.nil,λ_ hx=>(by cases hx),⟨rfl,rfl,rfl,bG _,hR.below.base,λ_ _ _=>rfl⟩,hel,λb q=>⟨hAVlt q.1,q.2⟩,?_,?_,?_,λt d c h1=>(by simp [look] at h1),?_⟩
  .intro i x ou h1 h2
   by_cases hx:x.live
   .obtain ⟨q,y,p1,p2,_⟩:=hF.img i x h1 hx
    have h2:e[i]?=some ou:=h2
    rw [he,rho_in p1] at h2
    show aP e (AV av1 rs e) w0.base w ou x
    rw [avEq]
    exact (yg (kv.of he)).2 (hR.roots q _ ou p2 h2)
   .have hx:x=.dead:=by cases x<;>first|rfl|exact (hx trivial).elim
    subst hx; trivial
  .intro i x b sz h1 h2 h3
   obtain ⟨_,q1,q2⟩:=hownAV ⟨i,x,sz,h1,h2,h3⟩
   exact ⟨⟨q1.base,λ_=>⟨i,x,sz,h1,h2,h3⟩⟩,q2⟩
  .intro i j x y b sz cF h1 ku h2 gk h3 kL
   obtain ⟨q,p1,p2,p3,p4⟩:=Hn h1 h2 h3
   obtain ⟨q',p1',p2',p3',p4'⟩:=Hn ku gk kL
   have:=hR.dD q q' _ _ b sz cF p2 p2' p3 p3' p4 p4'
   subst this
   exact hndp i j q p1 p1'
  .show qx T (AV av1 rs e) w
   rw [avEq]; exact hR.gn
 have qa:aB (aZ e (AV av1 rs e) w) ds VS:=by
  rw [avEq]
  exact (Ok (kv.of he)).2 hv
 refine (h.out.2 0 av1 k0 [] [] [] _ w e VS hsmall qa).mono ?_
 rintro en w' ⟨v,e',rfl,hk,uq,hd⟩
 have hel':e'.length=aJ.length:=uq.len
 have hge:rs.length<=e'.length:=by rw [<- hel]; exact hk.len
 let live:Nat->Nat->Prop:=λi q=>(∃ x:ag,rs[i]?=some x/\x.live)/\π[i]?=some q
 have hlive:∀ {i j q:Nat},live i q->live j q->i=j:=λ{i j q} h1 h2=>hndp i j q h1.2 h2.2
 open Classical in
 let val:Nat->fA->fA:=λq x=>if h:∃ i,live i q then e'.getD (Classical.choose h) x else x
 let E':Env:=E.mapIdx val++e'.drop rs.length
 have hE'q:∀ {q:Nat},q<RS.length->E'[q]?=(E[q]?).map (val q):=λ{q} hq=>by
  show (E.mapIdx val++e'.drop rs.length)[q]?=_
  rw [dv (by rw [List.length_mapIdx,hEl]; exact hq),List.getElem?_mapIdx]
 have hE'live:∀ {i q:Nat},live i q->E'[q]?=e'[i]?:=λ{i q} hq=>by
  obtain ⟨⟨x,h1,h2⟩,h3⟩:=hq
  have dB:q<RS.length:=hF.lt _ (List.mem_of_getElem? h3)
  have hex:∃ i,live i q:=⟨i,⟨x,h1,h2⟩,h3⟩
  have hi:i<e'.length:=Nat.lt_of_lt_of_le (List.getElem?_eq_some_iff.1 h1).1 hge
  rw [hE'q dB,eK (by rw [hEl]; exact dB)]
  simp only [Option.map_some,val]
  rw [dif_pos hex,hlive (Classical.choose_spec hex) ⟨⟨x,h1,h2⟩,h3⟩,List.getD_eq_getElem?_getD,eK hi]
  rfl
 have hE'in:∀ {q:Nat},q<RS.length->(¬ ∃ i,live i q)->E'[q]?=E[q]?:=λ{q} hq hn=>by
  rw [hE'q hq,eK (by rw [hEl]; exact hq)]
  simp only [Option.map_some,val]
  rw [dif_neg hn]
 have hE'new:∀ j:Nat,E'[RS.length+j]?=e'[rs.length+j]?:=λj=>by
  show (E.mapIdx val++e'.drop rs.length)[RS.length+j]?=_
  rw [gm (by rw [List.length_mapIdx]; omega),List.getElem?_drop,List.length_mapIdx]
  congr 1; omega
 have heq:∀ {i q:Nat},live i q->e[i]?=E[q]?:=λ{i q} hq=>by rw [he,rho_in hq.2]
 have hEle:Env.le E E':=λq x h1 h2=>by
  have dB:q<RS.length:=by rw [<- hEl]; exact (List.getElem?_eq_some_iff.1 h1).1
  by_cases hex:∃ i,live i q
  .obtain ⟨i,hi⟩:=hex
   rw [hE'live hi]
   exact hk.le i x (by rw [heq hi]; exact h1) h2
  .rw [hE'in dB hex]; exact ⟨x.2.1.2,h1,h2⟩
 have hkept:Kept E E':=⟨hEle,λq h1=>by
  have dB:q<RS.length:=by rw [<- hEl]; exact (List.getElem?_eq_some_iff.1 h1).1
  by_cases hex:∃ i,live i q
  .obtain ⟨i,hi⟩:=hex
   rw [hE'live hi]
   exact hk.free i (by rw [heq hi]; exact h1)
  .rw [hE'in dB hex]; exact h1⟩
 have hnk:∀ {F G:Env} {i:Nat},Kept F G->i<F.length->(G[i]?).map (λx:fA=>x.wk λ_=>False)=(F[i]?).map λx:fA=>x.wk λ_=>False:=λ{F G i} hFG hi=>by
  have h1:=eK hi
  by_cases h2:F[i]=hole
  .rw [h2] at h1; rw [h1,hFG.free i h1]
  .obtain ⟨K,h3,_⟩:=hFG.le i _ h1 h2
   rw [h3,h1]; rfl
 have he':kv e' E' ρ:=by
  intro i
  rcases Nat.lt_or_ge i π.length with hi|hi
  .have hq:=eK hi
   have dB:π[i]<RS.length:=hF.lt _ (List.getElem_mem hi)
   rw [rho_in hq,hnk hk (by rw [hel,<- hF.zF]; exact hi),hnk hkept (by rw [hEl]; exact dB),he,rho_in hq]
  .rw [rho_out hi,hE'new,hF.zF]
   have e1:rs.length+(i-rs.length)=i:=by rw [hF.zF] at hi; omega
   rw [e1]
 have whr:∀ (q:Nat) (z:ag),RU[q]?=some z->(∃ i y,ρ i=q/\aJ[i]?=some y/\z=zY ρ y/\(∀ ou,E'[q]?=some ou->e'[i]?=some ou))∨(q<RS.length/\RS[q]?=some z/\∀ (i:Nat) (x:ag),rs[i]?=some x->x.live->π[i]?≠some q):=by
  intro q z hz
  rcases Nat.lt_or_ge q RS.length with hq|hq
  .by_cases hex:∃ (i:Nat) (x:ag),rs[i]?=some x/\x.live/\π[i]?=some q
   .obtain ⟨i,x,h1,h2,h3⟩:=hex
    obtain ⟨q',y,p1,p2,p3,p4⟩:=hF.img i x h1 h2
    rw [h3] at p1
    simp only [ak] at p1
    subst p1
    rw [hz] at p4
    simp only [ak] at p4
    exact .inl ⟨i,y,rho_in h3,p3,p4,λou SZ=>by rw [<- hE'live ⟨⟨x,h1,h2⟩,h3⟩]; exact SZ⟩
   .refine .inr ⟨hq,?_,λi x h1 h2 h3=>hex ⟨i,x,h1,h2,h3⟩⟩
    rw [<- hF.out q hq λi x h1 h2 h3=>hex ⟨i,x,h1,h2,h3⟩]; exact hz
  .have e1:q=RS.length+(q-RS.length):=by omega
   rw [e1,hF.new] at hz
   cases hy:aJ[rs.length+(q-RS.length)]? with
   | none=>rw [hy] at hz; simp at hz
   | some y=>
     rw [hy] at hz
     simp only [Option.map_some,ak] at hz
     have hρ:ρ (rs.length+(q-RS.length))=q:=by
      rw [rho_out (by rw [hF.zF]; omega),hF.zF]; omega
     exact .inl ⟨_,y,hρ,hy,hz.symm,λou SZ=>by rw [<- hE'new,<- e1]; exact SZ⟩
 have nolive:∀ {q:Nat},(∀ (i:Nat) (x:ag),rs[i]?=some x->x.live->π[i]?≠some q)->¬ ∃ i,live i q:=λhn ⟨i,⟨x,h1,h2⟩,h3⟩=>hn i x h1 h2 h3
 have hatE:∀ {q b sz:Nat},q<RS.length->(∀ (i:Nat) (x:ag),rs[i]?=some x->x.live->π[i]?≠some q)->cU E' q b sz->cU E q b sz:=λhq hn ⟨hh,h1,h2⟩=>⟨hh,by rw [<- hE'in hq (nolive hn)]; exact h1,h2⟩
 have notown:∀ {q b sz:Nat} {z:ag},RS[q]?=some z->z.live->(∀ (i:Nat) (x:ag),rs[i]?=some x->x.live->π[i]?≠some q)->cU E q b sz->¬ own b:=by
  rintro q b sz z h1 h2 h3 h4 ⟨i,x,cF,g1,g2,g3⟩
  obtain ⟨q',p1,p2,p3,p4⟩:=Hn g1 g2 g3
  have:=hR.dD q q' _ _ b sz cF h1 p2 h2 p3 h4 p4
  subst this
  exact h3 i x g1 g2 p1
 have hsub:∀ b,AV ay RU E' b->AV av1 aJ e' b:=by
  rintro b (q|⟨q,z,sz,h1,h2,h3⟩)
  .exact .inl ⟨.inl q,hav0 q⟩
  .rcases whr q z h1 with ⟨i,y,_,g2,rfl,g4⟩|⟨g1,g2,g3⟩
   .obtain ⟨hh,h3⟩:=h3
    exact .inr ⟨i,y,sz,g2,jL.1 h2,hh,g4 _ h3.1,h3.2⟩
   .have h4:=hatE g1 g3 h3
    exact .inl ⟨.inr ⟨q,z,sz,g2,h2,h4⟩,notown g2 h2 g3 h4⟩
 have hold:∀ b,b<w.heap.size->¬ own b->w'.heap[b]?=w.heap[b]?:=uq.below.block
 have fo:w.heap.size<=w'.heap.size:=uq.below.size
 have hkeeps:ba (AV ay RS E) w w':=⟨fo,λb hb hn=>hold b hb λho=>hn (hownAV ho).1⟩
 have eG:∀ b,b<w.heap.size->AV ay RU E' b->AV ay RS E b:=by
  intro b hb q
  rcases hsub b q with q|⟨i,y,sz,h1,h2,h3⟩
  .exact q.1
  .exact (hownAV ((uq.cS i y b sz h1 h2 h3).1.own hb)).1
 have hbig2:=hR.zi (aJ:=RU) (E':=E') (w':=w') hEle hkeeps (hR.below.grown uq.below.os uq.below.tape uq.below.output fo λk hk hn=>hold k hk λho=>hn (hownAV ho).2.1) eG
  (by show (E.mapIdx val++e'.drop rs.length).length=_; rw [List.length_append,List.length_mapIdx,List.length_drop,hel',hF.len',hEl])
  (by
   intro q z ou h1 h2
   rcases whr q z h1 with ⟨i,y,_,g2,rfl,g4⟩|⟨g1,g2,g3⟩
   .have:=(yg he').1 (uq.roots i y ou g2 (g4 ou h2))
    exact aP.mono (Env.le_refl E') (ba.refl _ w') (λb _ q=>hsub b q) (λ_ _ _=>rfl) this
   .rw [hE'in g1 (nolive g3)] at h2
    refine aP.mono hEle hkeeps eG (λhl b hb=>?_) (hR.roots q z ou g2 h2)
    have ho:cU E q b ou.2.2:=⟨ou,h2,rfl,hb⟩
    exact hold b (hR.cS q z b _ g2 hl ho).2 (notown g2 hl g3 ho))
  (by
   intro q z b sz h1 h2 h3
   rcases whr q z h1 with ⟨i,y,_,g2,rfl,g4⟩|⟨g1,g2,g3⟩
   .obtain ⟨hh,h3⟩:=h3
    have hb:=uq.cS i y b sz g2 (jL.1 h2) ⟨hh,g4 _ h3.1,h3.2⟩
    exact ⟨⟨hb.1.base,λdB=>(hownAV (hb.1.own (Nat.lt_of_lt_of_le dB hR.below.size))).2.1.own dB⟩,hb.2⟩
   .have hb:=hR.cS q z b sz g2 h2 (hatE g1 g3 h3)
    exact ⟨hb.1,Nat.lt_of_lt_of_le hb.2 fo⟩)
  (by
   intro q q' z z' b sz cF h1 ku h2 gk h3 kL
   rcases whr q z h1 with ⟨i,y,p,g2,rfl,g4⟩|⟨g1,g2,g3⟩<;>rcases whr q' z' ku with ⟨i',y',p',Ma,rfl,g4'⟩|⟨St,Ma,Yf⟩
   .obtain ⟨hh,h3⟩:=h3
    obtain ⟨hh',kL⟩:=kL
    have:=uq.dD i i' y y' b sz cF g2 Ma (jL.1 h2) (jL.1 gk) ⟨hh,g4 _ h3.1,h3.2⟩ ⟨hh',g4' _ kL.1,kL.2⟩
    rw [<- p,<- p',this]
   .obtain ⟨hh,h3⟩:=h3
    have h4:=hatE St Yf kL
    have hb:=hR.cS q' z' b cF Ma gk h4
    exact ((notown Ma gk Yf h4) ((uq.cS i y b sz g2 (jL.1 h2) ⟨hh,g4 _ h3.1,h3.2⟩).1.own hb.2)).elim
   .obtain ⟨hh',kL⟩:=kL
    have h4:=hatE g1 g3 h3
    have hb:=hR.cS q z b sz g2 h2 h4
    exact ((notown g2 h2 g3 h4) ((uq.cS i' y' b cF Ma (jL.1 gk) ⟨hh',g4' _ kL.1,kL.2⟩).1.own hb.2)).elim
   .exact hR.dD q q' z z' b sz cF g2 Ma h2 gk (hatE g1 g3 h3) (hatE St Yf kL))
 exact ⟨v,E',rfl,hkept,hbig2,aZ.mono (Env.le_refl E') (ba.refl _ w') (λb _ q=>hsub b q) ((wm he').1 hd)⟩
theorem bP.jS (h:bP T P f ds rs d aJ) (π:List Nat) (RS:List ag) (rO:ij π=true) (ok:J4 (oC π RS.length) RS π rs aJ) :
  bP T P f (oJ (Ky (oC π RS.length)) ds) RS (Ky (oC π RS.length) d) (tW (oC π RS.length) π rs aJ RS):=
 h.frm rO (pC rO rfl (λ_ _=>rfl) ok)
end
section
variable {P:Program} {T:dL} {f:FuncId} {ds:List D} {rs:List ag} {d:D}
theorem Lt {q:Nat} {x:ag} {rs:List ag} (h:q<rs.length):place q x rs=rs.set q x:=by
 have e:Nat.beq q rs.length=false:=by
  cases hb:Nat.beq q rs.length with
  | true=>have:=bK hb; omega
  | false=>rfl
 unfold place
 rw [e]
 exact aT _ _ _
theorem xc.jS {i:Nat} {y:ag} (h:bP T P f ds rs d (rs.set i y)) (π:List Nat) (RS:List ag) (rO:ij π=true) (ok:J4 (oC π RS.length) RS π rs (rs.set i y)) {q:Nat} (hi:π[i]?=some q) (hl:∃ x,rs[i]?=some x/\x.live) :
  xc T P f (oJ (Ky (oC π RS.length)) ds) RS (Ky (oC π RS.length) d) q (zY (oC π RS.length) y):=by
 refine ⟨λRS2 hlen hle=>?_⟩
 have F:=pC (RS:=RS) rO rfl (λ_ _=>rfl) ok
 have hndp:=mb rO
 have hq:q<RS2.length:=by rw [<- hlen]; exact F.lt q (List.mem_of_getElem? hi)
 have hil:i<rs.length:=by obtain ⟨x,h1,_⟩:=hl; exact (List.getElem?_eq_some_iff.1 h1).1
 rw [Lt hq]
 rw [hlen]
 rw [hlen] at F
 refine h.frm rO ⟨F.zF,λk hk=>by rw [<- hlen]; exact F.lt k hk,by simp,by simp,λj x h1 h2=>?_,λk hk hout=>?_,λj=>?_,λj hj=>F.dead j hj⟩
 .obtain ⟨k,z,p1,p2,p3,_⟩:=F.img j x h1 h2
  have p2':RS2[k]?=some (zY (oC π RS2.length) x):=by
   have:=hle k (zY (oC π RS2.length) x) (by rw [bV]; exact p2) (jL.2 h2)
   rwa [bV] at this
  by_cases hji:j=i
  .subst hji
   rw [hi] at p1
   simp only [ak] at p1
   subst p1
   exact ⟨q,y,hi,p2',by rw [dI,if_pos rfl,if_pos hil],by rw [dI,if_pos rfl,if_pos hq]⟩
  .refine ⟨k,x,p1,p2',by rw [dI,if_neg (λe=>hji e.symm)]; exact h1,?_⟩
   rw [dI,if_neg (λe:q=k=>hji (hndp j i k p1 (e▸hi)))]
   exact p2'
 .obtain ⟨x,h1,h2⟩:=hl
  have:q≠k:=λe=>hout i x h1 h2 (e▸hi)
  rw [dI,if_neg this]
 .rw [List.getElem?_eq_none (by simp),List.getElem?_eq_none (by simp)]; rfl
end
open Go.RowKit
section
variable {P:Program} {T:dL} {N:Nat} {ay:Nat->Prop} {w0:Kp} {sp:List (D×Value)} {s s':VS} {a:Act} {w w':World} {E E':Env} {f:FuncId} {b:Frame} {cs:List Frame} {ro:Option Nat} {n0:Nat} {eF:Option Code->VS->Prop} {todo:List Item}
def b8 (rs:List ag) (d:D) (aJ:List ag) (d1:D) (fa:List ag):Prop:=
 ∃ (π:List Nat) (d2:D) (pK WH:List ag),Rs rs.length π ⟨[(0,d1,[])],fa,[]⟩=some ⟨[(0,d2,[])],pK,[]⟩/\aB aO pK WH/\Ends rs d aJ d2 WH
theorem R.WU {rs aJ fa:List ag} {d d1:D} {v:Value} (he:b8 rs d aJ d1 fa) (dy:∀ x∈sp,jz rs.length x.1=true) (h:R T N ay w0 sp ⟨[],rs,[]⟩ a w E) (h':R T N ay w0 sp ⟨[],fa,[]⟩ a w' E') (hk:Kept E E') (hv:aZ E' (AV ay fa E') w' d1 v) :
  ∃ tv,Kept E tv/\R T N ay w0 sp ⟨[],aJ,[]⟩ a w' tv/\aZ tv (AV ay aJ tv) w' d v:=by
 obtain ⟨π,d2,pK,WH,h1,h2,h3⟩:=he
 have hlE:E.length=rs.length:=h.len
 have hlE':E'.length=fa.length:=h'.len
 have hle:rs.length<=fa.length:=by have:=hk.len; omega
 have hR1:R T 1 ay w0 sp ⟨[(0,d1,[])],fa,[]⟩ { tmps := #[v],defers:=[] } w' E':=⟨rfl,.nil,h'.spec,h'.below,h'.len,h'.outer,h'.roots,h'.cS,h'.dD,λt d c hl=>by
  simp only [look] at hl
  split at hl
  .rename_i hb
   have hb:=bK hb
   subst hb
   simp only [ak,bw] at hl
   obtain ⟨rfl,rfl⟩:=hl
   exact ⟨Nat.lt_succ_self 0,λ_=>hv,λq=>(q λp hp=>by cases hp).elim⟩
  .simp at hl,h'.gn⟩
 obtain ⟨E2,g1,g2,g3⟩:=R.renamed h1 dy hle hR1 (λx hx=>by simp at hx; rw [hx])
 have hk2:Kept E E2:=by
  have q1:Kept E (E'.take rs.length):=by
   have:=hk.take rs.length
   rwa [List.take_of_length_le (Nat.le_of_eq hlE)] at this
  rw [<- g1] at q1
  exact q1.trans (Kept.lU E2 _)
 have hR3:=g2.le (s':=⟨[(0,d2,[])],WH,[]⟩) g3 ⟨⟨rfl,d2,rfl,bh.refl _⟩,trivial⟩ h2 rfl
 have hv3:aZ E2 (AV ay WH E2) w' d2 v:=(hR3.slots 0 d2 [] rfl).2.1 λp hp=>by cases hp
 have hR4:R T 1 ay w0 sp ⟨[],WH,[]⟩ { tmps := #[v],defers:=[] } w' E2:=⟨rfl,.nil,hR3.spec,hR3.below,hR3.len,hR3.outer,hR3.roots,hR3.cS,hR3.dD,λt d c q=>by simp [look] at q,hR3.gn⟩
 have hR0:R T 1 ay w0 sp ⟨[],rs,[]⟩ { tmps := #[v],defers:=[] } w E:=⟨rfl,.nil,h.spec,h.below,h.len,h.outer,h.roots,h.cS,h.dD,λt d c q=>by simp [look] at q,h.gn⟩
 obtain ⟨E3,p1,p2,p3⟩:=hR0.ends (λt d c q=>by simp [look] at q) hR4 hk2 h3 hv3
 have MM:aB (λr (d:Deferred)=>∃ b sz,bq E3 r b sz/\d={ target:=.collected b,args := #[] }) [] a.defers:=by
  have:=h'.defers
  revert this
  cases a.defers with
  | nil=>exact λ_=>.nil
  | cons x l=>exact λq=>by cases q
 exact ⟨E3,p1,⟨h'.size,MM,p2.spec,p2.below,p2.len,p2.outer,p2.roots,p2.cS,p2.dD,λt d c q=>by simp [look] at q,p2.gn⟩,p3⟩
theorem OS (bQ:dH P T) {fn:Func} (hf:P.funcs[f]?=some fn) (oO:(fn.name == "runtime.NumGoroutine")=false) {c:Code} (hc:fn.body=some c) {ds:List D} {rs:List ag} {d:D} {aJ:List ag} (hlen:ds.length<=fn.ntmps)
  (hg:∀ (b:Frame) (cs:List Frame),b.fn=f->Goal P T fn.ntmps b cs none rs.length (sS T fn.results.toList (b8 rs d aJ)) [.code c] ⟨dk 0 ds,rs,[]⟩):bP T P f ds rs d aJ:=
 yn bQ hf oO hc hlen (λhq dy h h' hk hv=>R.WU hq dy h h' hk hv) hg
def Kr (r j q m el sz n:Nat) (get:Nat->Nat->I) (l:List C) (s:VS):VS:={ s with rs:=setAt (setAt s.rs q .dead) r (.box (setAt l j (.sa s.rs.length m)))++[.arr el sz n get] }
theorem Goal.BR {r j q m el sz n:Nat} {get:Nat->Nat->I} {l:List C} (hr:aV s.rs r=some (.box l)) (hj:aV l j=some (.sa q m)) (hq:aV s.rs q=some (.arr el sz n get)) (g:Goal P T N b cs ro n0 eF todo (Kr r j q m el sz n get l s)):Goal P T N b cs ro n0 eF todo s:=
 g.ghost λay w0 sp a w E dy tr hR hn=>by
  rw [bV] at hr hj hq
  have hrl:r<s.rs.length:=(List.getElem?_eq_some_iff.1 hr).1
  have hql:q<s.rs.length:=(List.getElem?_eq_some_iff.1 hq).1
  have LY:r≠q:=by intro e; subst e; rw [hr] at hq; cases hq
  have hqE:q<E.length:=by rw [hR.len]; exact hql
  let e:=E[q]
  have he:E[q]?=some e:=eK hqE
  let E':Env:=E++[e]
  have hEle:=Env.eb E [e]
  let fa:=(s.rs.set q .dead).set r (.box (setAt l j (.sa s.rs.length m)))
  have hl1:fa.length=s.rs.length:=by simp [fa]
  have ji:∀ {k bb z:Nat},cU E' k bb z->(k<s.rs.length/\cU E k bb z)∨(k=s.rs.length/\cU E q bb z):=by
   rintro k bb z ⟨hh,h1,h9⟩
   rcases Nat.lt_or_ge k E.length with hk|hk
   .rw [dv hk] at h1
    exact .inl ⟨by rw [<- hR.len]; exact hk,hh,h1,h9⟩
   .rw [gm hk] at h1
    rcases Nat.eq_zero_or_pos (k-E.length) with e0|e0
    .rw [e0] at h1
     simp at h1
     refine .inr ⟨by rw [<- hR.len]; omega,hh,?_,h9⟩
     rw [he,h1]
    .rw [List.getElem?_eq_none (by simp; omega)] at h1; simp at h1
  have key:∀ (k:Nat) (y:ag) (bb z:Nat),(fa++[ag.arr el sz n get])[k]?=some y->y.live->cU E' k bb z->∃ k0 x,s.rs[k0]?=some x/\x.live/\cU E k0 bb z/\k0=(if k=s.rs.length then q else k)/\(k≠s.rs.length->k≠q):=by
   intro k y bb z h1 h2 h3
   rcases ji h3 with ⟨hk,h4⟩|⟨hk,h4⟩
   .rw [dv (by rw [hl1]; exact hk)] at h1
    have oZ:k≠s.rs.length:=by omega
    have pe:k≠q:=by
     intro e0
     subst e0
     simp only [fa] at h1
     rw [dI,if_neg LY,dI,if_pos rfl,if_pos hql] at h1
     simp only [ak] at h1
     subst h1; exact h2
    refine ⟨k,?_⟩
    rw [if_neg oZ]
    by_cases hkr:r=k
    .subst hkr
     exact ⟨_,hr,trivial,h4,rfl,λ_=>pe⟩
    .simp only [fa] at h1
     rw [dI,if_neg hkr,dI,if_neg (λe0=>pe e0.symm)] at h1
     exact ⟨y,h1,h2,h4,rfl,λ_=>pe⟩
   .subst hk
    exact ⟨q,_,hq,trivial,h4,by simp,λhn=>(hn rfl).elim⟩
  have eG:∀ bb,AV ay (fa++[ag.arr el sz n get]) E' bb->AV ay s.rs E bb:=by
   rintro bb (h1|⟨k,y,z,h1,h2,h3⟩)
   .exact .inl h1
   .obtain ⟨k0,x,g1,g2,g3,_⟩:=key k y bb z h1 h2 h3
    exact .inr ⟨k0,x,z,g1,g2,g3⟩
  have hR2:=hR.zi (aJ:=fa++[ag.arr el sz n get]) (E':=E') (w':=w) hEle (ba.refl _ w) hR.below (λbb _ h1=>eG bb h1) (by simp [E',hl1,hR.len])
   (by
    intro k y ou h1 h2
    rcases Nat.lt_or_ge k s.rs.length with hk|hk
    .rw [dv (by rw [hl1]; exact hk)] at h1
     have h2:(E++[e])[k]?=some ou:=h2
     rw [dv (by rw [hR.len]; exact hk)] at h2
     simp only [fa] at h1
     by_cases hkr:r=k
     .subst hkr
      rw [dI,if_pos rfl,if_pos (by simpa using hrl)] at h1
      simp only [ak] at h1
      subst h1
      obtain ⟨bb,vs,Tc,p1,p2,p3,p4⟩:=aP.mono (cY:=AV ay (fa++[ag.arr el sz n get]) E') hEle (ba.refl _ w) (λb _ h=>eG b h) (λ_ _ _=>rfl) (hR.roots r _ ou hr h2)
      refine ⟨bb,vs,Tc,p1,by rw [aT]; simpa using p2,p3,?_⟩
      rw [aT]
      refine aB.tS (by simpa using p4.length) λi x v hx hv=>?_
      rw [dI] at hx
      split at hx
      .rename_i hji
       subst hji
       split at hx
       .simp only [ak] at hx
        subst hx
        obtain ⟨e',a',n',cap,q1,q2,q3,q4⟩:=p4.get hj hv
        have q1:(E++[e])[q]?=some e':=q1
        rw [dv hqE,he] at q1
        refine ⟨e,a',n',cap,?_,?_,q3,q4⟩
        .show (E++[e])[s.rs.length]?=some e
         rw [<- hR.len]; simp
        .simp only [ak] at q1; rw [q1]; exact q2
       .simp at hx
      .exact p4.get hx hv
     .rw [dI,if_neg hkr,dI] at h1
      split at h1
      .first
       | (simp only [ak] at h1; subst h1; trivial)
       | (split at h1
          .simp only [ak] at h1; subst h1; trivial
          .simp at h1)
      .exact aP.mono hEle (ba.refl _ w) (λb _ h=>eG b h) (λ_ _ _=>rfl) (hR.roots k y ou h1 h2)
    .rw [gm (by rw [hl1]; exact hk),hl1] at h1
     rcases Nat.eq_zero_or_pos (k-s.rs.length) with e0|e0
     .rw [e0] at h1
      simp at h1
      have hk0:k=s.rs.length:=by omega
      subst hk0
      have h2:(E++[e])[s.rs.length]?=some ou:=h2
      rw [<- hR.len] at h2
      simp at h2
      subst h1 h2
      exact aP.mono hEle (ba.refl _ w) (λb _ h=>eG b h) (λ_ _ _=>rfl) (hR.roots q _ e hq he)
     .rw [List.getElem?_eq_none (by simp; omega)] at h1; simp at h1)
   (by
    intro k y bb z h1 h2 h3
    obtain ⟨k0,x,g1,g2,g3,_⟩:=key k y bb z h1 h2 h3
    exact hR.cS k0 x bb z g1 g2 g3)
   (by
    intro k k' y y' bb z z' h1 ku h2 gk h3 kL
    obtain ⟨k0,x,g1,g2,g3,g4,g5⟩:=key k y bb z h1 h2 h3
    obtain ⟨k0',x',St,Ma,Yf,g4',g5'⟩:=key k' y' bb z' ku gk kL
    have:=hR.dD k0 k0' x x' bb z z' g1 St g2 Ma g3 Yf
    rw [g4,g4'] at this
    split at this<;>split at this
    .omega
    .rename_i n1 n2; exact absurd this.symm (g5' n2)
    .rename_i n1 n2; exact absurd this (g5 n1)
    .exact this)
  refine ⟨E',?_,?_,hn⟩
  .show (E++[e]).take n0=_
   rw [List.take_append_of_le_length (by rw [hR.len]; exact tr)]
  .have:Kr r j q m el sz n get l s={ s with rs:=fa++[ag.arr el sz n get] }:=by
    simp only [Kr,fa,aT]
   rw [this]
   exact hR2
end
section
variable {P:Program} {T:dL} {N:Nat} {b:Frame} {cs:List Frame} {ro:Option Nat} {n0:Nat} {eF:Option Code->VS->Prop} {todo:List Item} {s s':VS} {ay:Nat->Prop} {w0:Kp} {sp:List (D×Value)} {a:Act} {w:World} {E:Env}
theorem Goal.Ct (g:Goal P T N b cs ro n0 eF todo s') (h:∀ ay w0 sp a w E,(∀ x∈sp,jz n0 x.1=true)->n0<=s.rs.length->R T N ay w0 sp s a w E->bM s.sl->∃ E',Kept (E.take n0) (E'.take n0)/\n0<=s'.rs.length/\R T N ay w0 sp s' a w E'/\bM s'.sl):Goal P T N b cs ro n0 eF todo s:=by
 intro ay w0 sp a w E tr dy GS hR hn
 obtain ⟨E',h1,hl,h2,h3⟩:=h ay w0 sp a w E dy tr hR hn
 obtain ⟨j,s2,a2,w2,E2,t2,q1,q2⟩:=g ay w0 sp a w E' hl dy (GS.mono h1.le) h2 h3
 exact ⟨j,s2,a2,w2,E2,t2,h1.trans q1,q2⟩
def aW (x y:Fc):Prop:=∀ (E:Env) (av:Nat->Prop) (base:Nat) (w:World) (K:Nat->Prop) (v:Value),iK E av base w x K v->iK E av base w y K v
theorem aW.refl (x:Fc):aW x x:=λ_ _ _ _ _ _ h=>h
theorem aW.aE (x:I):aW (.c (.im x)) (.o (.im x)):=λ_ _ _ _ _ _ h=>h
theorem aW.im {x y:I} (h:cH x y):aW (.o (.im x)) (.o (.im y)):=λ_ av _ w _ v q=>h av w v q
theorem BU {el sz n:Nat} {get get':Nat->Nat->O} {et kE:Option (Nat×List Fc)} (hf:∀ x,kE=some x->x.1<n/\x.2.length=sz) (h:∀ i,i<n->∀ j,j<sz->∀ c,fS get et i j=some c->∃ c',fS get' kE i j=some c'/\aW c c')
  {E:Env} {av:Nat->Prop} {base:Nat} {w:World} {e:fA} (hr:aP E av base w e (.bt el sz n get et)):aP E av base w e (.bt el sz n get' kE):=by
 obtain ⟨p1,p2,xs,p3,Ks,p4,_,p5⟩:=hr
 refine ⟨p1,p2,xs,p3,Ks,p4,hf,λi hi j hj=>?_⟩
 obtain ⟨x,c,q1,q2,q3⟩:=p5 i hi j hj
 obtain ⟨c',q4,q5⟩:=h i hi j hj c q2
 exact ⟨x,c',q1,q4,q5 _ _ _ _ _ _ q3⟩
theorem Goal.bt {r el sz n:Nat} {get get':Nat->Nat->O} {et kE:Option (Nat×List Fc)} (hr:aV s.rs r=some (.bt el sz n get et)) (hf:∀ x,kE=some x->x.1<n/\x.2.length=sz)
  (h:∀ i,i<n->∀ j,j<sz->∀ c,fS get et i j=some c->∃ c',fS get' kE i j=some c'/\aW c c')
  (g:Goal P T N b cs ro n0 eF todo { s with rs:=setAt s.rs r (.bt el sz n get' kE) }):Goal P T N b cs ro n0 eF todo s:=
 Goal.swap (x:=.bt el sz n get et) hr (λ_=>trivial) (λbase E w e av q=>BU hf h q) g
theorem JT {el sz n:Nat} {get:Nat->Nat->I} {get':Nat->Nat->O} (h:∀ i,i<n->∀ j,j<sz->get' i j=.im (get i j)) {E:Env} {av:Nat->Prop} {base:Nat} {w:World} {e:fA} (hr:aP E av base w e (.arr el sz n get)):aP E av base w e (.bt el sz n get' none):=by
 obtain ⟨p1,p2,xs,p3,p4⟩:=hr
 refine ⟨p1,p2,xs,p3,λ_ _ _=>False,⟨λ_ _ _ q=>q.elim,λ_ _ _ q=>q.elim,λ_ _ _ _ _ q=>q.elim⟩,λx hx=>(by cases hx),λi hi j hj=>?_⟩
 obtain ⟨x,q1,q2⟩:=p4 i hi j hj
 refine ⟨x,_,q1,rfl,?_⟩
 rw [h i hi j hj]
 exact q2
theorem Goal.tE {r el sz n:Nat} {get:Nat->Nat->I} {get':Nat->Nat->O} (hr:aV s.rs r=some (.arr el sz n get)) (h:∀ i,i<n->∀ j,j<sz->get' i j=.im (get i j))
  (g:Goal P T N b cs ro n0 eF todo { s with rs:=setAt s.rs r (.bt el sz n get' none) }):Goal P T N b cs ro n0 eF todo s:=
 Goal.swap (x:=.arr el sz n get) hr (λ_=>trivial) (λbase E w e av q=>JT h q) g
def toF:O->Fc:=O.rec (λx=>.c (.im x)) (λe sz n get=>.o (.ar e sz n get)) (λe sz n get _=>.o (.ns e sz n get))
def iY (f:Nat->O) (n:Nat):Nat->List Fc:=Nat.rec (λ_=>[]) (λ_ ih j=>toF (f j)::ih (j+1)) n
theorem Xw (x:O):aW (.o x) (toF x):=by cases x<;>exact λ_ _ _ _ _ _ h=>h
theorem FA (f:Nat->O):∀ (n j:Nat),(iY f n j).length=n
 | 0,_=>rfl
 | n+1,j=>by show (toF (f j)::iY f n (j+1)).length=_; rw [List.length_cons,FA f n]
theorem EZ (f:Nat->O):∀ (n j k:Nat),k<n->(iY f n j)[k]?=some (toF (f (j+k)))
 | 0,_,_,h=>by omega
 | n+1,j,0,_=>rfl
 | n+1,j,k+1,h=>by
   show (toF (f j)::iY f n (j+1))[k+1]?=_
   rw [List.getElem?_cons_succ,EZ f n (j+1) k (by omega),show j+1+k=j+(k+1) by omega]
theorem Goal.focus {r k el sz n:Nat} {get:Nat->Nat->O} (hr:aV s.rs r=some (.bt el sz n get none)) (hk:k<n)
  (g:Goal P T N b cs ro n0 eF todo { s with rs:=setAt s.rs r (.bt el sz n get (some (k,iY (get k) sz 0))) }):Goal P T N b cs ro n0 eF todo s:=
 Goal.bt hr (λx hx=>by simp only [ak] at hx; subst hx; exact ⟨hk,FA _ _ _⟩) (λi hi j hj c hc=>by
  simp only [fS,ak] at hc
  subst hc
  unfold fS
  cases hb:Nat.beq i k with
  | true=>
    have:=Nat.eq_of_beq_eq_true hb
    subst this
    simp only [hb,bp]
    exact ⟨_,EZ (get i) sz 0 j hj,by rw [Nat.zero_add]; exact Xw _⟩
  | false=>simp only [hb]; exact ⟨_,rfl,aW.refl _⟩) g
theorem fb.T5 {av:Nat->Prop} {base:Nat} {w:World} {x:O} {K K':Nat->Prop} {v:Value} (hK:∀ b,K b->K' b) (h:fb av base w x K v):fb av base w x K' v:=by
 cases x with
 | im x=>exact h
 | ar el sz n get=>exact ⟨λb q=>hK b (h.1 b q),h.2⟩
 | ns el sz n get=>
   obtain ⟨h0,xs,h1,Ks,hp,h2⟩:=h
   exact ⟨λb q=>hK b (h0 b q),xs,h1,Ks,⟨λi j b q=>hK b (hp.sub i j b q),hp.ne,hp.inj⟩,h2⟩
theorem Cc {get:Nat->Nat->O} {k:Nat} {l:List Fc} {j:Nat}:fS get (some (k,l)) k j=l[j]?:=by
 unfold fS
 simp only [dq,bp]
theorem Ge {get:Nat->Nat->O} {k:Nat} {l:List Fc} {j:Nat} {x:Fc} (hj:j<l.length) (i' j':Nat):(i'=k/\j'=j/\fS get (some (k,l.set j x)) i' j'=some x)∨(¬ (i'=k/\j'=j)/\fS get (some (k,l.set j x)) i' j'=fS get (some (k,l)) i' j'):=by
 by_cases h:i'=k/\j'=j
 .obtain ⟨rfl,rfl⟩:=h
  exact .inl ⟨rfl,rfl,by rw [Cc,dI,if_pos rfl,if_pos hj]⟩
 .refine .inr ⟨h,?_⟩
  unfold fS
  cases hb:Nat.beq i' k with
  | false=>simp only [hb]
  | true=>
    have:=Nat.eq_of_beq_eq_true hb
    subst this
    simp only [hb,bp]
    rw [dI,if_neg (λe=>h ⟨rfl,e.symm⟩)]
def gx:O->ag
 | .im _=>.dead
 | .ar e sz n get=>.arr e sz n get
 | .ns e sz n get=>.bt e sz n get none
def lH:O->Nat
 | .im _=>0
 | .ar _ _ n _=>n
 | .ns _ _ n _=>n
theorem fb.root {av:Nat->Prop} {base:Nat} {w:World} {x:O} (hx:(gx x).live) {K:Nat->Prop} {v:Value} (h:fb av base w x K v) :
  ∃ (a:Option Addr) (cap sz:Nat),v=.slice a (lH x) cap/\(∀ b,v.ownBlock=some b->K b)/\∀ E:Env,aP E av base w (v.ownBlock,(v,λb=>K b/\v.ownBlock≠some b),sz) (gx x):=by
 cases x with
 | im x=>exact hx.elim
 | ar el sz n get=>
   obtain ⟨h0,xs,h1,h2⟩:=h
   obtain ⟨ao,cap,rfl⟩:=cN h1
   exact ⟨ao,cap,sz,rfl,h0,λE=>⟨rfl,rfl,xs,h1,h2⟩⟩
 | ns el sz n get=>
   obtain ⟨h0,xs,h1,Ks,hp,h2⟩:=h
   obtain ⟨ao,cap,rfl⟩:=cN h1
   refine ⟨ao,cap,sz,rfl,h0,λE=>⟨rfl,rfl,xs,h1,Ks,⟨λi j b q=>⟨hp.sub i j b q,hp.ne i j b q⟩,hp.ne,hp.inj⟩,λx hx=>(by cases hx),λi hi j hj=>?_⟩⟩
   obtain ⟨x,q1,q2⟩:=h2 i hi j hj
   exact ⟨x,_,q1,rfl,q2⟩
theorem R.open (h:R T N ay w0 sp s a w E) {r k j el sz n:Nat} {get:Nat->Nat->O} {l:List Fc} {x:O} (hr:s.rs[r]?=some (.bt el sz n get (some (k,l)))) (hj:l[j]?=some (.o x)) (hx:(gx x).live) :
  ∃ E',Kept E E'/\R T N ay w0 sp { s with rs:=s.rs.set r (.bt el sz n get (some (k,l.set j (.c (.sa s.rs.length (lH x))))))++[gx x] } a w E':=by
 have hrl:r<s.rs.length:=(List.getElem?_eq_some_iff.1 hr).1
 have hrE:r<E.length:=by rw [h.len]; exact hrl
 have he:=eK hrE
 generalize hee:E[r]=e at he
 obtain ⟨p1,p2,xs,p3,Ks,p4,pf,p5⟩:=h.roots r _ _ hr he
 obtain ⟨f1,f2⟩:=pf _ rfl
 have f1:k<n:=f1
 have f2:l.length=sz:=f2
 have hjl:j<l.length:=(List.getElem?_eq_some_iff.1 hj).1
 obtain ⟨v,c,g1,g2,g3⟩:=p5 k f1 j (by omega)
 rw [Cc,hj] at g2
 simp only [ak] at g2
 subst g2
 obtain ⟨ao,cap,US,hv,eE,hroot⟩:=fb.root hx (show fb (AV ay s.rs E) w0.base w x (Ks k j) v from g3)
 have oZ:e≠hole:=by
  obtain ⟨a2,c2,h2⟩:=cN p3
  exact fA.J3 h2
 let K1:Nat->Prop:=λb=>e.2.1.2 b/\¬ Ks k j b
 let e1:fA:=e.wk K1
 let e2:fA:=(v.ownBlock,(v,λb=>Ks k j b/\v.ownBlock≠some b),US)
 let E':Env:=E.set r e1++[e2]
 have hEl:(E.set r e1).length=s.rs.length:=by rw [List.length_set,h.len]
 have hE'r:E'[r]?=some e1:=by
  show (E.set r e1++[e2])[r]?=_
  rw [dv (by rw [hEl]; exact hrl),dI,if_pos rfl,if_pos hrE]
 have hE'q:∀ {q:Nat},q<s.rs.length->q≠r->E'[q]?=E[q]?:=λ{q} hq hn=>by
  show (E.set r e1++[e2])[q]?=_
  rw [dv (by rw [hEl]; exact hq),dI,if_neg (λe=>hn e.symm)]
 have hE'p:E'[s.rs.length]?=some e2:=by
  show (E.set r e1++[e2])[s.rs.length]?=_
  rw [<- hEl]; simp
 have hE'o:∀ {q:Nat} {y:fA},E'[q]?=some y->q<=s.rs.length:=λ{q y} hq=>by
  have:=(List.getElem?_eq_some_iff.1 hq).1
  have hl:E'.length=s.rs.length+1:=by show (E.set r e1++[e2]).length=_; rw [List.length_append,hEl]; rfl
  omega
 have hle:Env.le E E':=λq y h1 h2=>by
  have hq:q<s.rs.length:=by rw [<- h.len]; exact (List.getElem?_eq_some_iff.1 h1).1
  by_cases hqr:q=r
  .subst hqr
   rw [he] at h1
   simp only [ak] at h1
   subst h1
   exact ⟨K1,hE'r,λe3=>by
    have:=congrArg (λz:fA=>z.2.1.1) e3
    obtain ⟨a2,c2,h4⟩:=cN p3
    have h5:e.2.1.1=undef:=this
    rw [h4] at h5
    simp [undef] at h5⟩
  .exact ⟨y.2.1.2,by rw [hE'q hq hqr]; exact h1,h2⟩
 have hkept:Kept E E':=⟨hle,λq h1=>by
  have hq:q<s.rs.length:=by rw [<- h.len]; exact (List.getElem?_eq_some_iff.1 h1).1
  by_cases hqr:q=r
  .subst hqr
   rw [he] at h1
   simp only [ak] at h1
   exact (oZ h1).elim
  .rw [hE'q hq hqr]; exact h1⟩
 refine ⟨E',hkept,?_⟩
 let y1:ag:=.bt el sz n get (some (k,l.set j (.c (.sa s.rs.length (lH x)))))
 have key:∀ (q:Nat) (y:ag) (bb z:Nat),(s.rs.set r y1++[gx x])[q]?=some y->y.live->cU E' q bb z->
   (q≠r/\q<s.rs.length/\s.rs[q]?=some y/\cU E q bb z)∨(q=r/\e.has bb/\¬ Ks k j bb)∨(q=s.rs.length/\Ks k j bb):=by
  rintro q y bb z h1 h2 ⟨ou,h3,h4,h5⟩
  rcases Nat.lt_trichotomy q s.rs.length with hq|hq|hq
  .rw [dv (by rw [List.length_set]; exact hq),dI] at h1
   by_cases hqr:r=q
   .subst hqr
    rw [hE'r] at h3
    simp only [ak] at h3
    subst h3
    refine .inr (.inl ⟨rfl,?_⟩)
    rcases h5 with h5|h5
    .have h5:e.1=some bb:=h5
     exact ⟨.inl h5,λq=>p4.ne k j bb q (p2.symm.trans h5)⟩
    .exact ⟨.inr h5.1,h5.2⟩
   .rw [if_neg hqr] at h1
    rw [hE'q hq (λe=>hqr e.symm)] at h3
    exact .inl ⟨λe=>hqr e.symm,hq,h1,ou,h3,h4,h5⟩
  .subst hq
   rw [hE'p] at h3
   simp only [ak] at h3
   subst h3
   refine .inr (.inr ⟨rfl,?_⟩)
   rcases h5 with h5|h5
   .exact eE bb h5
   .exact h5.1
  .have:=hE'o h3; omega
 have hKe:∀ {bb:Nat},Ks k j bb->e.has bb:=λq=>.inr (p4.sub k j _ q)
 have hrown:∀ {bb:Nat},e.has bb->cU E r bb e.2.2:=λq=>⟨e,he,rfl,q⟩
 have eG:∀ bb,AV ay (s.rs.set r y1++[gx x]) E' bb->AV ay s.rs E bb:=by
  rintro bb (q|⟨q,y,z,h1,h2,h3⟩)
  .exact .inl q
  .rcases key q y bb z h1 h2 h3 with ⟨_,_,g5,g6⟩|⟨_,g5,_⟩|⟨_,g5⟩
   .exact .inr ⟨q,y,z,g5,h2,g6⟩
   .exact .inr ⟨r,_,_,hr,trivial,hrown g5⟩
   .exact .inr ⟨r,_,_,hr,trivial,hrown (hKe g5)⟩
 refine h.zi (aJ:=s.rs.set r y1++[gx x]) hle (ba.refl _ w) h.below (λbb _ q=>eG bb q) (by show (E.set r e1++[e2]).length=_; rw [List.length_append,List.length_append,hEl,List.length_set]; rfl) ?_ ?_ ?_
 .intro q y ou h1 h2
  rcases Nat.lt_trichotomy q s.rs.length with hq|hq|hq
  .rw [dv (by rw [List.length_set]; exact hq),dI] at h1
   by_cases hqr:r=q
   .subst hqr
    rw [if_pos rfl,if_pos hrl] at h1
    simp only [ak] at h1
    subst h1
    rw [hE'r] at h2
    simp only [ak] at h2
    subst h2
    refine ⟨p1,p2,xs,p3,λi' j' bb=>Ks i' j' bb/\¬ (i'=k/\j'=j),⟨λi' j' bb q=>⟨p4.sub _ _ _ q.1,λq2=>q.2 (p4.inj _ _ _ _ _ q.1 q2)⟩,λi' j' bb q=>p4.ne _ _ _ q.1,λi1 j1 i2 j2 bb q1 q2=>p4.inj _ _ _ _ _ q1.1 q2.1⟩,λz hz=>?_,λi' jW j' hj'=>?_⟩
    .simp only [ak] at hz; subst hz; exact ⟨f1,by simpa using f2⟩
    .rcases Ge (get:=get) (k:=k) (x:=.c (.sa s.rs.length (lH x))) hjl i' j' with ⟨rfl,rfl,q3⟩|⟨q2,q3⟩
     .exact ⟨v,_,g1,q3,e2,ao,lH x,cap,hE'p,hv,bG _,hv⟩
     .obtain ⟨v',c',r1,r2,r3⟩:=p5 i' jW j' hj'
      refine ⟨v',c',r1,by rw [q3]; exact r2,?_⟩
      have:=iK.mono (E':=E') (cY:=AV ay (s.rs.set r y1++[gx x]) E') hle (ba.refl _ w) (λbb _ q=>eG bb q) (λ_ _=>rfl) r3
      cases c' with
      | c z=>exact this
      | o z=>exact fb.T5 (λbb q=>⟨q,q2⟩) this
   .rw [if_neg hqr] at h1
    rw [hE'q hq (λe=>hqr e.symm)] at h2
    exact aP.mono hle (ba.refl _ w) (λbb _ q=>eG bb q) (λ_ _ _=>rfl) (h.roots q y ou h1 h2)
  .subst hq
   rw [hE'p] at h2
   simp only [ak] at h2
   subst h2
   rw [gm (by rw [List.length_set]; exact bG _),List.length_set] at h1
   simp at h1
   subst h1
   exact aP.mono hle (ba.refl _ w) (λbb _ q=>eG bb q) (λ_ _ _=>rfl) (hroot E)
  .have:=hE'o h2; omega
 .intro q y bb z h1 h2 h3
  rcases key q y bb z h1 h2 h3 with ⟨_,_,g5,g6⟩|⟨_,g5,_⟩|⟨_,g5⟩
  .exact h.cS q y bb z g5 h2 g6
  .exact h.cS r _ bb _ hr trivial (hrown g5)
  .exact h.cS r _ bb _ hr trivial (hrown (hKe g5))
 .intro q q' y y' bb z z' h1 ku h2 gk h3 kL
  rcases key q y bb z h1 h2 h3 with ⟨g4,_,g5,g6⟩|⟨g4,g5,g6⟩|⟨g4,g5⟩<;>rcases key q' y' bb z' ku gk kL with ⟨g4',_,g5',g6'⟩|⟨g4',g5',g6'⟩|⟨g4',g5'⟩
  .exact h.dD q q' y y' bb z z' g5 g5' h2 gk g6 g6'
  .exact (g4 (h.dD q r y _ bb z _ g5 hr h2 trivial g6 (hrown g5'))).elim
  .exact (g4 (h.dD q r y _ bb z _ g5 hr h2 trivial g6 (hrown (hKe g5')))).elim
  .exact (g4' (h.dD q' r y' _ bb z' _ g5' hr gk trivial g6' (hrown g5))).elim
  .rw [g4,g4']
  .exact (g6 g5').elim
  .exact (g4' (h.dD q' r y' _ bb z' _ g5' hr gk trivial g6' (hrown (hKe g5)))).elim
  .exact (g6' g5).elim
  .rw [g4,g4']
def L7:ag->Option O
 | .arr e sz n get=>some (.ar e sz n get)
 | .bt e sz n get none=>some (.ns e sz n get)
 | _=>none
theorem FD {x:ag} {o:O} (h:L7 x=some o):x.live:=by
 unfold L7 at h
 split at h<;>first|trivial|simp at h
theorem fb.KV {E:Env} {av:Nat->Prop} {base:Nat} {w:World} {e:fA} {x:ag} {o:O} (ho:L7 x=some o) (h:aP E av base w e x) {m:Nat} (hm:m=lH o) {v:Value} {ao:Option Addr} {n cap:Nat} (h2:e.2.1.1=.slice ao n cap) (hv:v=.slice ao m cap) :
  v=e.2.1.1/\fb av base w o e.has v:=by
 unfold L7 at ho
 split at ho
 .simp only [ak] at ho
  subst ho
  obtain ⟨p1,p2,xs,p3,p4⟩:=h
  obtain ⟨a2,c2,h3⟩:=cN p3
  have hve:v=e.2.1.1:=by
   rw [hv,h2]; rw [h2] at h3; simp only [dK] at h3; rw [h3.2.1,hm]; rfl
  subst hve
  exact ⟨rfl,λb q=>.inl (p2.trans q),xs,p3,p4⟩
 .simp only [ak] at ho
  subst ho
  obtain ⟨p1,p2,xs,p3,Ks,p4,_,p5⟩:=h
  obtain ⟨a2,c2,h3⟩:=cN p3
  have hve:v=e.2.1.1:=by
   rw [hv,h2]; rw [h2] at h3; simp only [dK] at h3; rw [h3.2.1,hm]; rfl
  subst hve
  refine ⟨rfl,λb q=>.inl (p2.trans q),xs,p3,Ks,⟨λi j b q=>.inr (p4.sub i j b q),p4.ne,p4.inj⟩,λi hi j hj=>?_⟩
  obtain ⟨x,c,q1,q2,q3⟩:=p5 i hi j hj
  simp only [fS,ak] at q2
  subst q2
  exact ⟨x,q1,q3⟩
 .simp at ho
theorem R.close (h:R T N ay w0 sp s a w E) {r q m k j el sz n:Nat} {get:Nat->Nat->O} {l:List Fc} {x:ag} {o:O} (hr:s.rs[r]?=some (.bt el sz n get (some (k,l)))) (hj:l[j]?=some (.c (.sa q m))) (hq:s.rs[q]?=some x) (ho:L7 x=some o) (hm:m=lH o) (LY:r≠q) :
  ∃ E',E'.length=E.length/\(∀ i,i≠r->E'[i]?=E[i]?)/\Kept E E'/\R T N ay w0 sp { s with rs:=(s.rs.set q .dead).set r (.bt el sz n get (some (k,l.set j (.o o)))) } a w E':=by
 have hx:=FD ho
 have hrl:r<s.rs.length:=(List.getElem?_eq_some_iff.1 hr).1
 have hql:q<s.rs.length:=(List.getElem?_eq_some_iff.1 hq).1
 have hrE:r<E.length:=by rw [h.len]; exact hrl
 have hqE:q<E.length:=by rw [h.len]; exact hql
 have he:=eK hrE
 generalize hee:E[r]=e at he
 have heq:=eK hqE
 generalize heeq:E[q]=eq at heq
 obtain ⟨p1,p2,xs,p3,Ks,p4,pf,p5⟩:=h.roots r _ _ hr he
 obtain ⟨f1,f2⟩:=pf _ rfl
 have f1:k<n:=f1
 have f2:l.length=sz:=f2
 have hjl:j<l.length:=(List.getElem?_eq_some_iff.1 hj).1
 obtain ⟨v,c,g1,g2,g3⟩:=p5 k f1 j (by omega)
 rw [Cc,hj] at g2
 simp only [ak] at g2
 subst g2
 obtain ⟨e0,ao,n',cap,g4,g5,g6,g7⟩:=g3
 rw [heq] at g4
 simp only [ak] at g4
 subst g4
 obtain ⟨hve,hO⟩:=fb.KV ho (h.roots q _ _ hq heq) hm g5 g7
 have oZ:e≠hole:=by
  obtain ⟨a2,c2,h2⟩:=cN p3
  exact fA.J3 h2
 have eE:∀ {bb:Nat},eq.has bb->cU E q bb eq.2.2:=λq=>⟨eq,heq,rfl,q⟩
 have hrown:∀ {bb:Nat},e.has bb->cU E r bb e.2.2:=λq=>⟨e,he,rfl,q⟩
 have apart:∀ {bb:Nat},e.has bb->¬ eq.has bb:=λh1 h2=>LY (h.dD r q _ _ _ _ _ hr hq trivial hx (hrown h1) (eE h2))
 let K1:Nat->Prop:=λb=>e.2.1.2 b∨eq.has b
 let e1:fA:=e.wk K1
 let E':Env:=E.set r e1
 have hEl:E'.length=E.length:=List.length_set
 have hE'r:E'[r]?=some e1:=by
  show (E.set r e1)[r]?=_
  rw [dI,if_pos rfl,if_pos hrE]
 have hE'q:∀ {i:Nat},i≠r->E'[i]?=E[i]?:=λ{i} hn=>by
  show (E.set r e1)[i]?=_
  rw [dI,if_neg (λe=>hn e.symm)]
 have hle:Env.le E E':=λi y h1 h2=>by
  by_cases hqr:i=r
  .subst hqr
   rw [he] at h1
   simp only [ak] at h1
   subst h1
   exact ⟨K1,hE'r,λe3=>by
    have:=congrArg (λz:fA=>z.2.1.1) e3
    obtain ⟨a2,c2,h4⟩:=cN p3
    have h5:e.2.1.1=undef:=this
    rw [h4] at h5
    simp [undef] at h5⟩
  .exact ⟨y.2.1.2,by rw [hE'q hqr]; exact h1,h2⟩
 have hkept:Kept E E':=⟨hle,λi h1=>by
  by_cases hqr:i=r
  .subst hqr
   rw [he] at h1
   simp only [ak] at h1
   exact (oZ h1).elim
  .rw [hE'q hqr]; exact h1⟩
 refine ⟨E',hEl,λi hi=>hE'q hi,hkept,?_⟩
 let y1:ag:=.bt el sz n get (some (k,l.set j (.o o)))
 have key:∀ (i:Nat) (y:ag) (bb z:Nat),((s.rs.set q .dead).set r y1)[i]?=some y->y.live->cU E' i bb z->
   (i≠r/\i≠q/\s.rs[i]?=some y/\cU E i bb z)∨(i=r/\(e.has bb∨eq.has bb)):=by
  rintro i y bb z h1 h2 ⟨ou,h3,h4,h5⟩
  by_cases hir:i=r
  .subst hir
   rw [hE'r] at h3
   simp only [ak] at h3
   subst h3
   refine .inr ⟨rfl,?_⟩
   rcases h5 with h5|h5
   .exact .inl (.inl h5)
   .rcases h5 with h5|h5
    .exact .inl (.inr h5)
    .exact .inr h5
  .rw [dI,if_neg (λe=>hir e.symm),dI] at h1
   by_cases hiq:q=i
   .rw [if_pos hiq] at h1
    subst hiq
    rw [if_pos hql] at h1
    simp only [ak] at h1
    subst h1
    exact h2.elim
   .rw [if_neg hiq] at h1
    rw [hE'q hir] at h3
    exact .inl ⟨hir,λe=>hiq e.symm,h1,ou,h3,h4,h5⟩
 have eG:∀ bb,AV ay ((s.rs.set q .dead).set r y1) E' bb->AV ay s.rs E bb:=by
  rintro bb (h1|⟨i,y,z,h1,h2,h3⟩)
  .exact .inl h1
  .rcases key i y bb z h1 h2 h3 with ⟨_,_,g5,g6⟩|⟨_,g5|g5⟩
   .exact .inr ⟨i,y,z,g5,h2,g6⟩
   .exact .inr ⟨r,_,_,hr,trivial,hrown g5⟩
   .exact .inr ⟨q,_,_,hq,hx,eE g5⟩
 refine h.zi (aJ:=(s.rs.set q .dead).set r y1) hle (ba.refl _ w) h.below (λbb _ q=>eG bb q) (by rw [hEl,List.length_set,List.length_set,h.len]) ?_ ?_ ?_
 .intro i y ou h1 h2
  by_cases hir:i=r
  .subst hir
   rw [dI,if_pos rfl,if_pos (by rw [List.length_set]; exact hrl)] at h1
   simp only [ak] at h1
   subst h1
   rw [hE'r] at h2
   simp only [ak] at h2
   subst h2
   refine ⟨p1,p2,xs,p3,λi' j' bb=>(i'=k/\j'=j/\eq.has bb)∨(¬ (i'=k/\j'=j)/\Ks i' j' bb),⟨?_,?_,?_⟩,λz hz=>?_,λi' jW j' hj'=>?_⟩
   .rintro i' j' bb (⟨_,_,q3⟩|⟨_,q3⟩)
    .exact .inr q3
    .exact .inl (p4.sub _ _ _ q3)
   .rintro i' j' bb (⟨_,_,q3⟩|⟨_,q3⟩) q4
    .exact apart (.inl (p2.trans q4)) q3
    .exact p4.ne _ _ _ q3 q4
   .rintro i1 j1 i2 j2 bb (⟨a1,a2,a3⟩|⟨a1,a2⟩) (⟨b1,b2,b3⟩|⟨b1,b2⟩)
    .exact ⟨a1.trans b1.symm,a2.trans b2.symm⟩
    .exact (apart (.inr (p4.sub _ _ _ b2)) a3).elim
    .exact (apart (.inr (p4.sub _ _ _ a2)) b3).elim
    .exact p4.inj _ _ _ _ _ a2 b2
   .simp only [ak] at hz; subst hz; exact ⟨f1,by simpa using f2⟩
   .rcases Ge (get:=get) (k:=k) (x:=.o o) hjl i' j' with ⟨rfl,rfl,q3⟩|⟨q2,q3⟩
    .refine ⟨v,_,g1,q3,?_⟩
     exact fb.T5 (λbb q=>.inl ⟨rfl,rfl,q⟩) (fb.mono (ba.refl _ w) (λbb _ q=>eG bb q) (λ_ _=>rfl) hO)
    .obtain ⟨v',c',r1,r2,r3⟩:=p5 i' jW j' hj'
     refine ⟨v',c',r1,by rw [q3]; exact r2,?_⟩
     have:=iK.mono (E':=E') (cY:=AV ay ((s.rs.set q .dead).set i y1) E') hle (ba.refl _ w) (λbb _ q=>eG bb q) (λ_ _=>rfl) r3
     cases c' with
     | c z=>exact this
     | o z=>exact fb.T5 (λbb q=>.inr ⟨q2,q⟩) this
  .rw [dI,if_neg (λe=>hir e.symm),dI] at h1
   by_cases hiq:q=i
   .rw [if_pos hiq] at h1
    subst hiq
    rw [if_pos hql] at h1
    simp only [ak] at h1
    subst h1
    trivial
   .rw [if_neg hiq] at h1
    rw [hE'q hir] at h2
    exact aP.mono hle (ba.refl _ w) (λbb _ q=>eG bb q) (λ_ _ _=>rfl) (h.roots i y ou h1 h2)
 .intro i y bb z h1 h2 h3
  rcases key i y bb z h1 h2 h3 with ⟨_,_,g5,g6⟩|⟨_,g5|g5⟩
  .exact h.cS i y bb z g5 h2 g6
  .exact h.cS r _ bb _ hr trivial (hrown g5)
  .exact h.cS q _ bb _ hq hx (eE g5)
 .intro i i' y y' bb z z' h1 ku h2 gk h3 kL
  rcases key i y bb z h1 h2 h3 with ⟨g4,g8,g5,g6⟩|⟨g4,g5|g5⟩<;>rcases key i' y' bb z' ku gk kL with ⟨g4',g8',g5',g6'⟩|⟨g4',g5'|g5'⟩
  .exact h.dD i i' y y' bb z z' g5 g5' h2 gk g6 g6'
  .exact (g4 (h.dD i r y _ bb z _ g5 hr h2 trivial g6 (hrown g5'))).elim
  .exact (g8 (h.dD i q y _ bb z _ g5 hq h2 hx g6 (eE g5'))).elim
  .exact (g4' (h.dD i' r y' _ bb z' _ g5' hr gk trivial g6' (hrown g5))).elim
  .rw [g4,g4']
  .rw [g4,g4']
  .exact (g8' (h.dD i' q y' _ bb z' _ g5' hq gk hx g6' (eE g5))).elim
  .rw [g4,g4']
  .rw [g4,g4']
theorem Goal.open {r k j el sz n:Nat} {get:Nat->Nat->O} {l:List Fc} {x:O} (hr:aV s.rs r=some (.bt el sz n get (some (k,l)))) (hj:aV l j=some (.o x)) (hx:(gx x).live)
  (g:Goal P T N b cs ro n0 eF todo { s with rs:=setAt s.rs r (.bt el sz n get (some (k,setAt l j (.c (.sa s.rs.length (lH x))))))++[gx x] }):Goal P T N b cs ro n0 eF todo s:=
 g.Ct λay w0 sp a w E dy tr hR hn=>by
  rw [bV] at hr hj
  obtain ⟨E',h1,h2⟩:=hR.open hr hj hx
  rw [<- aT,<- aT] at h2
  exact ⟨E',h1.take n0,by simp only [List.length_append,aT,List.length_set]; omega,h2,hn⟩
theorem Goal.close {r q m k j el sz n:Nat} {get:Nat->Nat->O} {l:List Fc} {x:ag} {o:O} (hr:aV s.rs r=some (.bt el sz n get (some (k,l)))) (hj:aV l j=some (.c (.sa q m))) (hq:aV s.rs q=some x) (ho:L7 x=some o) (hm:m=lH o) (LY:r≠q)
  (g:Goal P T N b cs ro n0 eF todo { s with rs:=setAt (setAt s.rs q .dead) r (.bt el sz n get (some (k,setAt l j (.o o)))) }):Goal P T N b cs ro n0 eF todo s:=
 g.Ct λay w0 sp a w E dy tr hR hn=>by
  rw [bV] at hr hj hq
  obtain ⟨E',_,_,h1,h2⟩:=hR.close hr hj hq ho hm LY
  rw [<- aT,<- aT,<- aT] at h2
  exact ⟨E',h1.take n0,by simp only [aT,List.length_set]; omega,h2,hn⟩
end
section
variable {P:Program} {T:dL} {N:Nat} {b:Frame} {cs:List Frame} {ro:Option Nat} {n0:Nat} {eF:Option Code->VS->Prop} {todo:List Item} {s s':VS} {ay:Nat->Prop} {w0:Kp} {sp:List (D×Value)} {a:Act} {w:World} {E:Env}
theorem R.split (h:R T N ay w0 sp s a w E) {q:Nat} {L:List O} (hq:s.rs[q]?=some (.own L)) (hL:∀ o∈L,(gx o).live) :
  ∃ E',Kept E E'/\(∀ (i:Nat) (o:O),L[i]?=some o->∀ (av:Nat->Prop) (w:World) (v:Value),bg E' av w (.ow q i) v->bg E' av w (.sa (s.rs.length+i) (lH o)) v)/\
   R T N ay w0 sp { s with rs:=s.rs.set q .dead++L.map gx } a w E':=by
 have hql:q<s.rs.length:=(List.getElem?_eq_some_iff.1 hq).1
 have hqE:q<E.length:=by rw [h.len]; exact hql
 have he:=eK hqE
 generalize hee:E[q]=e at he
 obtain ⟨p1,p2,vs,p3,p4,Ks,p5,p6,p7⟩:=h.roots q _ _ hq he
 have hrown:∀ {i bb:Nat},Ks i bb->cU E q bb e.2.2:=λg=>⟨e,he,rfl,.inr (p5 _ _ g)⟩
 have ex:∀ i:Nat,∃ x:fA,∀ o,L[i]?=some o->∃ (ao:Option Addr) (cap:Nat),vs[i]?=some x.2.1.1/\x.2.1.1=.slice ao (lH o) cap/\(∀ bb,x.has bb->Ks i bb)/\∀ F:Env,aP F (AV ay s.rs E) w0.base w x (gx o):=by
  intro i
  cases ho:L[i]? with
  | none=>exact ⟨hole,λo q=>by cases q⟩
  | some o=>
    obtain ⟨v,g1,g2⟩:=p7 i o ho
    obtain ⟨ao,cap,sz,g3,g4,g5⟩:=fb.root (hL o (List.mem_of_getElem? ho)) g2
    refine ⟨(v.ownBlock,(v,λb=>Ks i b/\v.ownBlock≠some b),sz),λo' q=>?_⟩
    simp only [ak] at q
    subst q
    exact ⟨ao,cap,g1,g3,λbb q=>q.elim (λq=>g4 bb q) (λq=>q.1),g5⟩
 obtain ⟨f,hf⟩:=Classical.axiomOfChoice ex
 let ents:List fA:=(List.range L.length).map f
 let E':Env:=E++ents
 have hE'q:∀ {i:Nat},i<s.rs.length->E'[i]?=E[i]?:=λ{i} hi=>by
  show (E++ents)[i]?=_
  rw [dv (by rw [h.len]; exact hi)]
 have hE'n:∀ {i:Nat},i<L.length->E'[s.rs.length+i]?=some (f i):=λ{i} hi=>by
  show (E++ents)[s.rs.length+i]?=_
  rw [gm (by rw [h.len]; omega),h.len,Nat.add_sub_cancel_left]
  simp [ents,hi]
 have hE'o:∀ {i:Nat} {y:fA},E'[i]?=some y->i<s.rs.length+L.length:=λ{i y} hi=>by
  have:=(List.getElem?_eq_some_iff.1 hi).1
  have hl:E'.length=s.rs.length+L.length:=by show (E++ents).length=_; rw [List.length_append,h.len]; simp [ents]
  omega
 have hle:Env.le E E':=Env.eb E ents
 have hkept:Kept E E':=⟨hle,λi h1=>by
  have:=(List.getElem?_eq_some_iff.1 h1).1
  rw [hE'q (by rw [<- h.len]; exact this)]; exact h1⟩
 refine ⟨E',hkept,?_,?_⟩
 .rintro i o ho av w' v ⟨e2,vs2,g1,g2,g3,g4⟩
  rw [hE'q hql,he] at g1
  simp only [ak] at g1
  subst g1
  rw [p3] at g2
  simp only [Value.tuple.injEq] at g2
  subst g2
  obtain ⟨ao,cap,k1,k2,_⟩:=hf i o ho
  rw [g3] at k1
  simp only [ak] at k1
  exact ⟨f i,ao,lH o,cap,hE'n (List.getElem?_eq_some_iff.1 ho).1,k2,bG _,k1.trans k2⟩
 have key:∀ (i:Nat) (y:ag) (bb z:Nat),(s.rs.set q .dead++L.map gx)[i]?=some y->y.live->cU E' i bb z->
   (i≠q/\s.rs[i]?=some y/\cU E i bb z)∨(∃ k,i=s.rs.length+k/\Ks k bb):=by
  rintro i y bb z h1 h2 ⟨ou,h3,h4,h5⟩
  rcases Nat.lt_or_ge i s.rs.length with hi|hi
  .rw [dv (by rw [List.length_set]; exact hi),dI] at h1
   by_cases hiq:q=i
   .rw [if_pos hiq,if_pos hql] at h1
    simp only [ak] at h1
    subst h1
    exact h2.elim
   .rw [if_neg hiq] at h1
    rw [hE'q hi] at h3
    exact .inl ⟨λe=>hiq e.symm,h1,ou,h3,h4,h5⟩
  .obtain ⟨k,rfl⟩:∃ k,i=s.rs.length+k:=⟨i-s.rs.length,by omega⟩
   have hk:k<L.length:=by have:=hE'o h3; omega
   rw [hE'n hk] at h3
   simp only [ak] at h3
   subst h3
   obtain ⟨_,_,_,_,k3,_⟩:=hf k _ (eK hk)
   exact .inr ⟨k,rfl,k3 bb h5⟩
 have eG:∀ bb,AV ay (s.rs.set q .dead++L.map gx) E' bb->AV ay s.rs E bb:=by
  rintro bb (g|⟨i,y,z,h1,h2,h3⟩)
  .exact .inl g
  .rcases key i y bb z h1 h2 h3 with ⟨_,g5,g6⟩|⟨k,_,g5⟩
   .exact .inr ⟨i,y,z,g5,h2,g6⟩
   .exact .inr ⟨q,_,_,hq,trivial,hrown g5⟩
 refine h.zi (aJ:=s.rs.set q .dead++L.map gx) hle (ba.refl _ w) h.below (λbb _ g=>eG bb g) (by show (E++ents).length=_; simp [ents,h.len]) ?_ ?_ ?_
 .intro i y ou h1 h2
  rcases Nat.lt_or_ge i s.rs.length with hi|hi
  .rw [dv (by rw [List.length_set]; exact hi),dI] at h1
   by_cases hiq:q=i
   .rw [if_pos hiq,if_pos hql] at h1
    simp only [ak] at h1
    subst h1
    trivial
   .rw [if_neg hiq] at h1
    rw [hE'q hi] at h2
    exact aP.mono hle (ba.refl _ w) (λbb _ g=>eG bb g) (λ_ _ _=>rfl) (h.roots i y ou h1 h2)
  .obtain ⟨k,rfl⟩:∃ k,i=s.rs.length+k:=⟨i-s.rs.length,by omega⟩
   have hk:k<L.length:=by have:=hE'o h2; omega
   rw [hE'n hk] at h2
   simp only [ak] at h2
   subst h2
   rw [gm (by rw [List.length_set]; omega),List.length_set,Nat.add_sub_cancel_left,List.getElem?_map,eK hk] at h1
   simp only [Option.map_some,ak] at h1
   subst h1
   obtain ⟨_,_,_,_,_,k4⟩:=hf k _ (eK hk)
   exact aP.mono (Env.le_refl E') (ba.refl _ w) (λbb _ g=>eG bb g) (λ_ _ _=>rfl) (k4 E')
 .intro i y bb z h1 h2 h3
  rcases key i y bb z h1 h2 h3 with ⟨_,g5,g6⟩|⟨k,_,g5⟩
  .exact h.cS i y bb z g5 h2 g6
  .exact h.cS q _ bb _ hq trivial (hrown g5)
 .intro i i' y y' bb z z' h1 ku h2 gk h3 kL
  rcases key i y bb z h1 h2 h3 with ⟨g4,g5,g6⟩|⟨k,g4,g5⟩<;>rcases key i' y' bb z' ku gk kL with ⟨g4',g5',g6'⟩|⟨k',g4',g5'⟩
  .exact h.dD i i' y y' bb z z' g5 g5' h2 gk g6 g6'
  .exact (g4 (h.dD i q y _ bb z _ g5 hq h2 trivial g6 (hrown g5'))).elim
  .exact (g4' (h.dD i' q y' _ bb z' _ g5' hq gk trivial g6' (hrown g5))).elim
  .rw [g4,g4',p6 k k' bb g5 g5']
theorem fb.Xh {E:Env} {av:Nat->Prop} {base:Nat} {w:World} {e:fA} {x:ag} {o:O} (ho:L7 x=some o) (h:aP E av base w e x):∃ (ao:Option Addr) (cap:Nat),e.2.1.1=.slice ao (lH o) cap/\fb av base w o e.has e.2.1.1:=by
 have KR:∃ (ao:Option Addr) (cap:Nat),e.2.1.1=.slice ao (lH o) cap:=by
  unfold L7 at ho
  split at ho
  .simp only [ak] at ho
   subst ho
   obtain ⟨_,_,xs,p3,_⟩:=h
   exact cN p3
  .simp only [ak] at ho
   subst ho
   obtain ⟨_,_,xs,p3,_⟩:=h
   exact cN p3
  .simp at ho
 obtain ⟨ao,cap,h1⟩:=KR
 exact ⟨ao,cap,h1,(fb.KV ho h rfl h1 (v:=e.2.1.1) h1).2⟩
theorem R.pack (h:R T N ay w0 sp s a w E) {ps:List Nat} {L:List O} (hL:L≠[]) (hp:aB (λp o=>∃ x,s.rs[p]?=some x/\L7 x=some o) ps L) (rO:∀ (i j p:Nat),ps[i]?=some p->ps[j]?=some p->i=j) {fa:List ag} (hlen:fa.length=s.rs.length)
  (Et:∀ (i:Nat) (y:ag),fa[i]?=some y->y.live->s.rs[i]?=some y/\i ∉ ps) :
  ∃ E',Kept E E'/\(∀ (i p:Nat) (o:O),ps[i]?=some p->L[i]?=some o->∀ (av:Nat->Prop) (w:World) (v:Value),bg E' av w (.sa p (lH o)) v->bg E' av w (.ow s.rs.length i) v)/\
   R T N ay w0 sp { s with rs:=fa++[.own L] } a w E':=by
 have Gb:ps.length=L.length:=hp.length
 have ex:∀ (i p:Nat) (o:O),ps[i]?=some p->L[i]?=some o->∃ (e:fA) (x:ag) (ao:Option Addr) (cap:Nat),E[p]?=some e/\s.rs[p]?=some x/\x.live/\e.2.1.1=.slice ao (lH o) cap/\fb (AV ay s.rs E) w0.base w o e.has e.2.1.1:=by
  intro i p o g1 g2
  obtain ⟨x,g3,g4⟩:=hp.get g1 g2
  have dB:p<E.length:=by rw [h.len]; exact (List.getElem?_eq_some_iff.1 g3).1
  have he:=eK dB
  obtain ⟨ao,cap,g5,g6⟩:=fb.Xh g4 (h.roots p _ _ g3 he)
  exact ⟨_,x,ao,cap,he,g3,FD g4,g5,g6⟩
 let entP:Nat->fA:=λp=>E.getD p hole
 let hd:Nat->Value:=λi=>(entP (ps.getD i 0)).2.1.1
 let K:Nat->Prop:=λbb=>∃ p∈ps,(entP p).has bb
 let vs:Array Value:=(ps.map λp=>(entP p).2.1.1).toArray
 let e1:fA:=(Option.none,(.tuple vs,K),0)
 let E':Env:=E++[e1]
 have entE:∀ {p:Nat} {e:fA},E[p]?=some e->entP p=e:=λ{p e} g=>by
  show E.getD p hole=e
  rw [List.getD_eq_getElem?_getD,g]; rfl
 have hle:Env.le E E':=Env.eb E _
 have hE'q:∀ {i:Nat},i<s.rs.length->E'[i]?=E[i]?:=λ{i} hi=>by
  show (E++[e1])[i]?=_
  rw [dv (by rw [h.len]; exact hi)]
 have hE'p:E'[s.rs.length]?=some e1:=by
  show (E++[e1])[s.rs.length]?=_
  rw [<- h.len]; simp
 have hkept:Kept E E':=⟨hle,λi h1=>by
  have:=(List.getElem?_eq_some_iff.1 h1).1
  rw [hE'q (by rw [<- h.len]; exact this)]; exact h1⟩
 have tu:∀ (i p:Nat),ps[i]?=some p->vs[i]?=some (entP p).2.1.1:=λi p g=>by
  show ((ps.map λp=>(entP p).2.1.1).toArray)[i]?=_
  rw [List.getElem?_toArray,List.getElem?_map,g]; rfl
 refine ⟨E',hkept,?_,?_⟩
 .rintro i p o g1 g2 av w' v ⟨e,ao,n,cap,k1,k2,k3,k4⟩
  obtain ⟨e',x,ao',cap',k5,k6,_,k7,_⟩:=ex i p o g1 g2
  have dB:=(List.getElem?_eq_some_iff.1 k6).1
  rw [hE'q dB,k5] at k1
  simp only [ak] at k1
  subst k1
  rw [k7] at k2
  simp only [dK] at k2
  obtain ⟨rfl,_,rfl⟩:=k2
  refine ⟨e1,vs,hE'p,rfl,?_,by rw [k4]; rfl⟩
  rw [tu i p g1,entE k5,k7,k4]
 have hKo:∀ {bb:Nat},K bb->∃ p x,p∈ps/\s.rs[p]?=some x/\x.live/\cU E p bb (entP p).2.2:=by
  rintro bb ⟨p,g1,g2⟩
  obtain ⟨i,hi,rfl⟩:=List.getElem_of_mem g1
  have hi2:i<L.length:=by omega
  obtain ⟨e,x,_,_,k5,k6,k7,_⟩:=ex i _ _ (eK hi) (eK hi2)
  refine ⟨_,x,List.getElem_mem hi,k6,k7,e,k5,by rw [entE k5],?_⟩
  rwa [entE k5] at g2
 have key:∀ (i:Nat) (y:ag) (bb z:Nat),(fa++[.own L])[i]?=some y->y.live->cU E' i bb z->
   (s.rs[i]?=some y/\i ∉ ps/\cU E i bb z)∨(i=s.rs.length/\K bb):=by
  rintro i y bb z h1 h2 ⟨ou,h3,h4,h5⟩
  rcases Nat.lt_trichotomy i s.rs.length with hi|hi|hi
  .rw [dv (by rw [hlen]; exact hi)] at h1
   obtain ⟨g1,g2⟩:=Et i y h1 h2
   rw [hE'q hi] at h3
   exact .inl ⟨g1,g2,ou,h3,h4,h5⟩
  .subst hi
   rw [hE'p] at h3
   simp only [ak] at h3
   subst h3
   rcases h5 with h5|h5
   .simp [e1] at h5
   .exact .inr ⟨rfl,h5⟩
  .rw [List.getElem?_eq_none (by simp [hlen]; omega)] at h1; simp at h1
 have eG:∀ bb,AV ay (fa++[.own L]) E' bb->AV ay s.rs E bb:=by
  rintro bb (g|⟨i,y,z,h1,h2,h3⟩)
  .exact .inl g
  .rcases key i y bb z h1 h2 h3 with ⟨g5,_,g6⟩|⟨_,g5⟩
   .exact .inr ⟨i,y,z,g5,h2,g6⟩
   .obtain ⟨p,x,_,g6,g7,g8⟩:=hKo g5
    exact .inr ⟨p,x,_,g6,g7,g8⟩
 refine h.zi (aJ:=fa++[.own L]) hle (ba.refl _ w) h.below (λbb _ g=>eG bb g) (by show (E++[e1]).length=_; simp [h.len,hlen]) ?_ ?_ ?_
 .intro i y ou h1 h2
  rcases Nat.lt_trichotomy i s.rs.length with hi|hi|hi
  .rw [dv (by rw [hlen]; exact hi)] at h1
   rw [hE'q hi] at h2
   by_cases hy:y.live
   .exact aP.mono hle (ba.refl _ w) (λbb _ g=>eG bb g) (λ_ _ _=>rfl) (h.roots i y ou (Et i y h1 hy).1 h2)
   .cases y with
    | dead=>trivial
    | _=>exact (hy trivial).elim
  .subst hi
   rw [hE'p] at h2
   simp only [ak] at h2
   subst h2
   rw [gm (by rw [hlen]; exact bG _),hlen] at h1
   simp at h1
   subst h1
   refine ⟨rfl,hL,vs,rfl,by simp [vs,Gb],λi bb=>∃ p,ps[i]?=some p/\(entP p).has bb,?_,?_,?_⟩
   .rintro i bb ⟨p,g1,g2⟩
    exact ⟨p,List.mem_of_getElem? g1,g2⟩
   .rintro i j bb ⟨p,g1,g2⟩ ⟨p',St,Ma⟩
    have hi2:i<L.length:=by rw [<- Gb]; exact (List.getElem?_eq_some_iff.1 g1).1
    have hj2:j<L.length:=by rw [<- Gb]; exact (List.getElem?_eq_some_iff.1 St).1
    obtain ⟨e,x,_,_,k5,k6,k7,_⟩:=ex i _ _ g1 (eK hi2)
    obtain ⟨e',x',_,_,k5',k6',k7',_⟩:=ex j _ _ St (eK hj2)
    rw [entE k5] at g2
    rw [entE k5'] at Ma
    have:=h.dD p p' x x' bb _ _ k6 k6' k7 k7' ⟨e,k5,rfl,g2⟩ ⟨e',k5',rfl,Ma⟩
    subst this
    exact rO i j p g1 St
   .intro i o ho
    have hi2:i<ps.length:=by rw [Gb]; exact (List.getElem?_eq_some_iff.1 ho).1
    obtain ⟨e,x,_,_,k5,k6,k7,k8,k9⟩:=ex i _ _ (eK hi2) ho
    refine ⟨e.2.1.1,by rw [tu i _ (eK hi2),entE k5],?_⟩
    exact fb.T5 (λbb g=>⟨_,eK hi2,by rw [entE k5]; exact g⟩) (fb.mono (ba.refl _ w) (λbb _ g=>eG bb g) (λ_ _=>rfl) k9)
  .rw [List.getElem?_eq_none (by simp [hlen]; omega)] at h1; simp at h1
 .intro i y bb z h1 h2 h3
  rcases key i y bb z h1 h2 h3 with ⟨g5,_,g6⟩|⟨_,g5⟩
  .exact h.cS i y bb z g5 h2 g6
  .obtain ⟨p,x,_,g6,g7,g8⟩:=hKo g5
   exact h.cS p x bb _ g6 g7 g8
 .intro i i' y y' bb z z' h1 ku h2 gk h3 kL
  rcases key i y bb z h1 h2 h3 with ⟨g5,g4,g6⟩|⟨g4,g5⟩<;>rcases key i' y' bb z' ku gk kL with ⟨g5',g4',g6'⟩|⟨g4',g5'⟩
  .exact h.dD i i' y y' bb z z' g5 g5' h2 gk g6 g6'
  .obtain ⟨p,x,k1,k2,k3,k4⟩:=hKo g5'
   have:=h.dD i p y x bb z _ g5 k2 h2 k3 g6 k4
   subst this
   exact (g4 k1).elim
  .obtain ⟨p,x,k1,k2,k3,k4⟩:=hKo g5
   have:=h.dD i' p y' x bb z' _ g5' k2 gk k3 g6' k4
   subst this
   exact (g4' k1).elim
  .rw [g4,g4']
def La (q n:Nat) (L:List O) (c:Fc):Fc:=match c with
 | .c (.ow r i)=>Bool.rec (.c (.ow r i)) (match aV L i with
   | some o=>.c (.sa (n+i) (lH o))
   | none=>.c (.ow r i)) (Nat.beq r q)
 | c=>c
theorem QW {q n:Nat} {L:List O} {E:Env} (hE:∀ (i:Nat) (o:O),L[i]?=some o->∀ (av:Nat->Prop) (w:World) (v:Value),bg E av w (.ow q i) v->bg E av w (.sa (n+i) (lH o)) v) {c:Fc} {av:Nat->Prop} {base:Nat} {w:World} {K:Nat->Prop} {v:Value} (h:iK E av base w c K v):iK E av base w (La q n L c) K v:=by
 unfold La
 split
 .rename_i r i
  cases hb:Nat.beq r q with
  | false=>exact h
  | true=>
    have:=Nat.eq_of_beq_eq_true hb
    subst this
    show iK E av base w (match aV L i with
     | some o=>.c (.sa (n+i) (lH o))
     | none=>.c (.ow r i)) K v
    split
    .rename_i o ho
     rw [bV] at ho
     exact hE i o ho av w v h
    .exact h
 .exact h
theorem Goal.split {r q k el sz n:Nat} {get:Nat->Nat->O} {l:List Fc} {L:List O} (hr:aV s.rs r=some (.bt el sz n get (some (k,l)))) (hq:aV s.rs q=some (.own L)) (hL:∀ o∈L,(gx o).live)
  (g:Goal P T N b cs ro n0 eF todo { s with rs:=setAt (setAt s.rs q .dead++L.map gx) r (.bt el sz n get (some (k,l.map (La q s.rs.length L)))) }):Goal P T N b cs ro n0 eF todo s:=
 g.Ct λay w0 sp a w E dy tr hR hn=>by
  rw [bV] at hr hq
  obtain ⟨E',h1,h2,h3⟩:=hR.split hq hL
  have hrl:=(List.getElem?_eq_some_iff.1 hr).1
  have LY:q≠r:=by rintro rfl; rw [hr] at hq; cases hq
  have h4:=h3.swap (r:=r) (x:=.bt el sz n get (some (k,l))) (y:=.bt el sz n get (some (k,l.map (La q s.rs.length L)))) (by
   show (s.rs.set q .dead++L.map gx)[r]?=_
   rw [dv (by rw [List.length_set]; exact hrl),dI,if_neg LY]; exact hr) (λ_=>trivial) (λe av q1 _=>by
    obtain ⟨p1,p2,xs,p3,Ks,p4,pf,p5⟩:=q1
    obtain ⟨f1,f2⟩:=pf _ rfl
    refine ⟨p1,p2,xs,p3,Ks,p4,λx hx=>?_,λi hi j hj=>?_⟩
    .simp only [ak] at hx; subst hx; exact ⟨f1,by simpa using f2⟩
    .obtain ⟨v,c,g1,g2,g3⟩:=p5 i hi j hj
     unfold fS at g2 ⊢
     cases hb:Nat.beq i k with
     | true=>
       simp only [hb,bp] at g2 ⊢
       exact ⟨v,La q s.rs.length L c,g1,by rw [List.getElem?_map,g2]; rfl,QW h2 g3⟩
     | false=>
       simp only [hb,ak] at g2 ⊢
       exact ⟨v,c,g1,g2,g3⟩)
  rw [<- aT,<- aT] at h4
  exact ⟨E',h1.take n0,by simp only [List.length_append,aT,List.length_set]; omega,h4,hn⟩
def Th (n:Nat) (ps:List Nat) (L:List O) (c c':C):Prop:=c'=c∨∃ (i p:Nat) (o:O),c=.sa p (lH o)/\ps[i]?=some p/\L[i]?=some o/\c'=.ow n i
theorem Goal.pack {ps:List Nat} {L:List O} (hL:L≠[]) (hp:aB (λp o=>∃ x,s.rs[p]?=some x/\L7 x=some o) ps L) (rO:∀ (i j p:Nat),ps[i]?=some p->ps[j]?=some p->i=j) {fa:List ag} (hlen:fa.length=s.rs.length)
  (Et:∀ (i:Nat) (y:ag),fa[i]?=some y->y.live->s.rs[i]?=some y/\i ∉ ps) {r:Nat} {l l':List C} (hr:fa[r]?=some (.box l)) (hl:aB (Th s.rs.length ps L) l l')
  (g:Goal P T N b cs ro n0 eF todo { s with rs:=setAt (fa++[.own L]) r (.box l') }):Goal P T N b cs ro n0 eF todo s:=
 g.Ct λay w0 sp a w E dy tr hR hn=>by
  obtain ⟨E',h1,h2,h3⟩:=hR.pack hL hp rO hlen Et
  have hrl:=(List.getElem?_eq_some_iff.1 hr).1
  have h4:=h3.swap (r:=r) (x:=.box l) (y:=.box l') (by
   show (fa++[ag.own L])[r]?=_
   rw [dv hrl]; exact hr) (λ_=>trivial) (λe av q1 _=>by
    obtain ⟨bb,vs,Tc,p1,p2,p3,p4⟩:=q1
    refine ⟨bb,vs,Tc,p1,by rw [p2,hl.length],p3,aB.tS (by rw [<- hl.length]; exact p4.length) λi c' v hc hv=>?_⟩
    have hi:i<l.length:=by rw [hl.length]; exact (List.getElem?_eq_some_iff.1 hc).1
    have hci:=eK hi
    have k1:=p4.get hci hv
    rcases hl.get hci hc with k2|⟨i',p,o,k2,k3,k4,k5⟩
    .rw [k2]; exact k1
    .rw [k5]
     rw [k2] at k1
     exact h2 i' p o k3 k4 _ _ _ k1)
  rw [<- aT] at h4
  exact ⟨E',h1.take n0,by simp only [List.length_append,aT,List.length_set]; omega,h4,hn⟩
end
section
variable {P:Program} {T:dL} {N:Nat} {b:Frame} {cs:List Frame} {ro:Option Nat} {n0:Nat} {eF:Option Code->VS->Prop} {todo:List Item} {s s':VS} {ay:Nat->Prop} {w0:Kp} {sp:List (D×Value)} {a:Act} {w w':World} {E E':Env} {f:FuncId}
theorem Goal.wJ {t:Tmp} {sz:Nat} {get:Nat->Nat->I} (ht:eJ s.sl t=some (.c (.im (.sl sz 0 get)))) (g:∀ (ad:Option Addr) (cap:Nat),Goal P T N b cs ro n0 eF todo ⟨(t,.c (.im (.v (.slice ad 0 cap))),[])::s.sl,s.rs,s.df⟩):Goal P T N b cs ro n0 eF todo s:=by
 intro ay w0 sp a w E tr dy GS hR hn
 obtain ⟨q1,q2,q3⟩:=hR.slots t _ _ (fM hn ht)
 obtain ⟨ad,cap,hv,_⟩:=q2 λp hp=>by cases hp
 refine g ad cap ay w0 sp a w E tr dy GS ⟨hR.size,hR.defers,hR.spec,hR.below,hR.len,hR.outer,hR.roots,hR.cS,hR.dD,λu d c hl=>?_,hR.gn⟩ (hn.cons t _)
 simp only [look] at hl
 split at hl
 .rename_i he
  have he:=bK he
  subst he
  simp only [ak,bw] at hl
  obtain ⟨rfl,rfl⟩:=hl
  exact ⟨q1,λ_=>⟨hv,rfl⟩,λq=>(q λp hp=>by cases hp).elim⟩
 .exact hR.slots u d c hl
theorem lA {ad:Option Addr} {cap sz:Nat} {get:Nat->Nat->I}:cH (.v (.slice ad 0 cap)) (.sl sz 0 get):=λav w v ⟨h,_⟩=>⟨ad,cap,h,bu _,bu _,λq=>absurd q (Nat.lt_irrefl 0)⟩
def mZ (rs:List ag) (d:D) (aJ:List ag) (d1:D) (fa:List ag):Prop:=
 b8 rs d aJ d1 fa∨(fa=rs/\d1=.c (.im (.v (.slice none 0 0)))/\d=.c (.sa rs.length 0)/\∃ el sz get,aJ=rs++[.arr el sz 0 get])
theorem R.ac7 {rs aJ fa:List ag} {d d1:D} {v:Value} (he:mZ rs d aJ d1 fa) (dy:∀ x∈sp,jz rs.length x.1=true) (h:R T N ay w0 sp ⟨[],rs,[]⟩ a w E) (h':R T N ay w0 sp ⟨[],fa,[]⟩ a w' E') (hk:Kept E E') (hv:aZ E' (AV ay fa E') w' d1 v) :
  ∃ tv,Kept E tv/\R T N ay w0 sp ⟨[],aJ,[]⟩ a w' tv/\aZ tv (AV ay aJ tv) w' d v:=by
 rcases he with he|⟨rfl,rfl,rfl,el,sz,get,rfl⟩
 .exact R.WU he dy h h' hk hv
 .have h1:=h'.Ix el sz get
  obtain ⟨hv,_⟩:=hv
  refine ⟨_,hk.trans ⟨Env.eb E' _,λq hq=>by rw [dv (List.getElem?_eq_some_iff.1 hq).1]; exact hq⟩,h1,?_⟩
  rw [hv]
  exact ⟨(Option.none,nI (.slice Option.none 0 0),sz),Option.none,0,0,by show (E'++[_])[fa.length]?=_; rw [show fa.length=E'.length from h'.len.symm]; simp,rfl,bG _,rfl⟩
theorem Rv (bQ:dH P T) {fn:Func} (hf:P.funcs[f]?=some fn) (oO:(fn.name == "runtime.NumGoroutine")=false) {c:Code} (hc:fn.body=some c) {ds:List D} {rs:List ag} {d:D} {aJ:List ag} (hlen:ds.length<=fn.ntmps)
  (hg:∀ (b:Frame) (cs:List Frame),b.fn=f->Goal P T fn.ntmps b cs none rs.length (sS T fn.results.toList (mZ rs d aJ)) [.code c] ⟨dk 0 ds,rs,[]⟩):bP T P f ds rs d aJ:=
 yn bQ hf oO hc hlen (λhq dy h h' hk hv=>R.ac7 hq dy h h' hk hv) hg
end
end
end Go.V
