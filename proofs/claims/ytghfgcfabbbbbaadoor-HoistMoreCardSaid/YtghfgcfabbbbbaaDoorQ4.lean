/- What is gathered is enough: runs. -/
import Derived.Test.YtghfgcfabbbbbaaDoorQ3
set_option linter.unusedSimpArgs false
set_option linter.unusedVariables false
namespace Go.V
open Go.RowKit
noncomputable section
section
variable {P:Program} {T:dn} {X:iZ} {hi:Hint} {N:Nat} {f:FuncId}
theorem se (p:Nat×ae) (ws:List (Nat×ae)) (rs:List ae):writes (p::ws) rs=writes ws (rs.set p.1 p.2):=by
 show writes ws (setAt rs p.1 p.2)=_
 rw [bm]
theorem lV {q:Nat}:∀ {ws:List (Nat×ae)} {rs:List ae},(∀ p∈ws,p.1≠q)→(writes ws rs)[q]?=rs[q]?
 | [],rs,_=>rfl
 | p::ws,rs,h=>by
   rw [se,lV fun y hy=>h y (er _ hy),fb,if_neg (h p (dZ ..))]
theorem sr {q:Nat} {x:ae}:∀ {ws:List (Nat×ae)} {rs:List ae},q<rs.length→(∀ p∈ws,p.1=q→p.2=x)→((∃ p∈ws,p.1=q)∨rs[q]?=some x)→(writes ws rs)[q]?=some x
 | [],rs,hq,h,k=>by
   rcases k with ⟨p,hp,_⟩|k
   ·cases hp
   ·exact k
 | p::ws,rs,hq,h,k=>by
   rw [se]
   refine sr (by simpa using hq) (fun y hy=>h y (er _ hy)) ?_
   by_cases hp:p.1=q
   ·right
    rw [fb,if_pos hp,hp,if_pos hq,h p (dZ ..) hp]
   ·rcases k with ⟨y,hy,hyq⟩|k
    ·rcases List.mem_cons.1 hy with rfl|hy
     ·exact (hp hyq).elim
     ·exact .inl ⟨y,hy,hyq⟩
    ·right
     rw [fb,if_neg hp]; exact k
theorem tC {S:List Nat}:∀ {ws:List (Nat×ae)},BR S ws=true→∀ p∈ws,p.1∈S
 | [],_,p,hp=>by cases hp
 | y::ws,h,p,hp=>by
   obtain ⟨h1,h2⟩:=Bool.fU (show (Bool.rec false (BR S ws) (mj y.1 S):Bool)=true from h)
   rcases List.mem_cons.1 hp with rfl|hp
   ·exact iK.1 h1
   ·exact tC h2 p hp
theorem wT {n:Nat}:∀ {ws:List (Nat×ae)},J9 n ws=true→∀ p∈ws,j6 n p.2=true
 | [],_,p,hp=>by cases hp
 | y::ws,h,p,hp=>by
   obtain ⟨h1,h2⟩:=Bool.fU (show (Bool.rec false (J9 n ws) (j6 n y.2):Bool)=true from h)
   rcases List.mem_cons.1 hp with rfl|hp
   ·exact h1
   ·exact wT h2 p hp
theorem C0 (q:Nat) (S:List Nat) (aE:List ae):jo (q::S) aE=(match aE[q]? with
 | some x=>(q,x)::jo S aE
 | none=>jo S aE):=by
 show (match aY aE q with
  | some x=>(q,x)::jo S aE
  | none=>jo S aE)=_
 rw [bQ]
theorem kK {aE:List ae}:∀ {S:List Nat} {p:Nat×ae},p∈jo S aE↔p.1∈S∧aE[p.1]?=some p.2
 | [],p=>by simp [jo]
 | q::S,p=>by
   rw [C0]
   split
   ·rename_i x hx
    rw [List.mem_cons,kK,List.mem_cons]
    constructor
    ·rintro (rfl|⟨h1,h2⟩)
     ·exact ⟨.inl rfl,hx⟩
     ·exact ⟨.inr h1,h2⟩
    ·rintro ⟨h1|h1,h2⟩
     ·left
      obtain ⟨a,b⟩:=p
      have h1:a=q:=h1
      subst h1
      rw [hx] at h2
      simp only [ak] at h2
      rw [h2]
     ·exact .inr ⟨h1,h2⟩
   ·rename_i hx
    rw [kK,List.mem_cons]
    constructor
    ·rintro ⟨h1,h2⟩; exact ⟨.inr h1,h2⟩
    ·rintro ⟨h1|h1,h2⟩
     ·rw [h1,hx] at h2; simp at h2
     ·exact ⟨h1,h2⟩
theorem I1 (S:List Nat):∀ rs aE,Grown S rs aE→J9 rs.length (jo S aE)=true→∀ (q:Nat) (x:ae),(writes (jo S aE) rs)[q]?=some x→aE[q]?=some x∧(rs[q]?=some x∨j6 rs.length x=true):=by
 rintro rs aE ⟨ws,ex,hk,rfl⟩ hl q x hx
 have hq:q<rs.length:=by
  have:=(List.getElem?_eq_some_iff.1 hx).1
  rwa [gF] at this
 have rM:(writes ws rs++ex)[q]?=(writes ws rs)[q]?:=dQ (by rw [gF]; exact hq)
 have dp:q<(writes ws rs).length:=by rw [gF]; exact hq
 by_cases hS:q∈S
 ·have hy:=gj dp
  generalize (writes ws rs)[q]=y at hy
  have hm:(q,y)∈jo S (writes ws rs++ex):=kK.2 ⟨hS,by rw [rM]; exact hy⟩
  have hs:=sr (ws:=jo S (writes ws rs++ex)) (x:=y) hq (fun p hp Zc=>by
   obtain ⟨_,h2⟩:=kK.1 hp
   rw [Zc,rM,hy] at h2
   simp only [ak] at h2
   exact h2.symm) (.inl ⟨_,hm,rfl⟩)
  rw [hx] at hs
  simp only [ak] at hs
  subst hs
  exact ⟨by rw [rM]; exact hy,.inr (wT hl _ hm)⟩
 ·have h1:(writes (jo S (writes ws rs++ex)) rs)[q]?=rs[q]?:=lV fun p hp e=>hS (e▸(kK.1 hp).1)
  have h2:(writes ws rs)[q]?=rs[q]?:=lV fun p hp e=>hS (e▸tC hk p hp)
  rw [h1] at hx
  exact ⟨by rw [rM,h2]; exact hx,.inl hx⟩
theorem uq {rs nr:List ae} (hle:∀ (q:Nat) (x:ae),aY rs q=some x→x.live→aY nr q=some x):∀ (r:Rd) {o:D×Nat×ae},tL rs r=some o→tL nr r=some o
 | .no,o,h=>by cases h
 | .ret _,_,h=>h
 | .get q k,o,h=>by
   have h:(match aY rs q with
    | some x=>match x with
      | .dead=>none
      | x=>tL rs (k x)
    | none=>none)=some o:=h
   show (match aY nr q with
    | some x=>match x with
      | .dead=>none
      | x=>tL nr (k x)
    | none=>none)=some o
   cases hx:aY rs q with
   | none=>rw [hx] at h; simp at h
   | some x=>
     rw [hx] at h
     cases x with
     | dead=>simp at h
     | _=>
       rw [hle _ _ hx trivial]
       exact uq hle _ h
theorem tX (T:dn) (P:Program) (X:iZ):gm T P (bZ T P X) where
 call f ds rs d aE e:=by
  unfold bZ at e
  dsimp only at e
  split at e
  ·rename_i hk
   simp only [ak,a8] at e
   obtain ⟨rfl,rfl⟩:=e
   exact hk.out
  ·simp at e
 Jc r ds rs d aE e:=by
  unfold bZ at e
  dsimp only at e
  split at e
  ·rename_i hk
   simp only [ak,a8] at e
   obtain ⟨rfl,rfl⟩:=e
   exact hk.out
  ·simp at e
 diff rs aE ws e:=by
  unfold bZ at e
  dsimp only at e
  split at e
  ·rename_i hk
   simp only [ak] at e
   subst e
   exact I1 _ _ _ hk.1 hk.2
  ·simp at e
 wr f ds rs d q x e:=by
  unfold bZ at e
  dsimp only at e
  split at e
  case h_2=>simp at e
  rename_i y hy
  split at e
  ·rename_i hk
   simp only [ak] at e
   have h:=hk.out rs rfl (fun _ _ q _=>q)
   rw [e] at h
   exact h.out
  ·simp at e
 mono f ds rs nr r hlen hle e:=by
  unfold bZ at e ⊢
  dsimp only at e ⊢
  split at e
  case h_2=>simp at e
  rename_i y hy
  split at e
  ·rename_i hk
   simp only [uq hle _ hy]
   rw [if_pos ⟨fun P8 h3 h4=>hk.out P8 (hlen.trans h3) fun k z hz hl=>h4 k z (hle k z hz hl) hl⟩]
   exact e
  ·simp at e
def Goal (P:Program) (T:dn) (N:Nat) (b:Frame) (cs:List Frame) (ro:Option Nat) (n0:Nat) (fF:Option Code→VS→Prop) (todo:List Item) (s:VS):Prop:=
 ∀ (aw:Nat→Prop) (w0:Kp) (sp:List (D×Value)) (a:Act) (w:World) (E:Env),n0≤s.rs.length→(∀ x∈sp,iR n0 x.1=true)→gY (E.take n0) b ro→R T N aw w0 sp s a w E→bA s.sl→
  ∃ j s' a' w' E' cS,Kept (E.take n0) E'∧R T N aw w0 sp s' a' w' E'∧bA s'.sl∧rT j cS∧fF j s'∧Steps P (lone (b.atR a todo) cs w) (lone (b.atR a' cS) cs w')
theorem Hj {ro:Option Nat} {g:Operand} {ps:List Tmp} {as bd:Code} {s:VS} {k:Option Code→VS→Prop} (h:zd T P X N f ro g ps as bd s k):∃ lo j s',gm T P lo∧mM lo N f ro g ps as bd s=some (j,s')∧k j s':=by
 unfold zd at h
 split at h
 ·exact h.elim
 split at h
 case h_2=>exact h.elim
 rename_i c hc
 split at h
 case h_2=>exact h.elim
 rename_i hf dR tD
 have fin:∀ (lo:Lo) (d:D) (aE:List ae),gm T P lo→lo.call hf (.c (.yl (s.rs.length+1))::dR) (s.rs++[.l7,.loop f N s.sl ps as bd .ready none])=some (d,aE)→zG s.rs.length s aE k→∃ lo j s',gm T P lo∧mM lo N f none g ps as bd s=some (j,s')∧k j s':=by
  intro lo d aE Eo ss hk
  unfold zG at hk
  split at hk
  ·rename_i hr
   exact ⟨lo,_,_,Eo,by simp only [mM,hc,tD,ss,hr],hk⟩
  ·rename_i hr
   exact ⟨lo,_,_,Eo,by simp only [mM,hc,tD,ss,hr],hk⟩
  ·exact hk.elim
 unfold MH at h
 rcases ue h with ⟨_,h1,h2⟩|⟨_,h1,h2⟩
 ·exact fin (bZ T P { X with F:=X.R1 }) _ _ (tX _ _ _) (by simp only [bZ]; rw [if_pos h1]) h2
 ·exact fin (bZ T P { X with F:=X.R2 }) _ _ (tX _ _ _) (by simp only [bZ]; rw [if_pos h1]) h2
theorem gY.take {E E':Env} {b:Frame} {ro:Option Nat} {n:Nat} (hk:Kept E E') (h:gY (E.take n) b ro):gY (E'.take n) b ro:=h.mono (hk.take n).le
theorem zN (bz:dk P T) (Au:P.follows .mixedOrders=true) {b:Frame} (DQ:b.fn=f) {cs:List Frame} {ro:Option Nat} {n0:Nat} {fF:Option Code→VS→Prop} {stop:Nat→Bool} {L:List Item→VS→Prop} {Q:Option Code→VS→Prop}
  (hL:∀ todo s,L todo s→Goal P T N b cs ro n0 fF todo s) (hQ:∀ j s,Q j s→fF j s) :
  ∀ (n:Nat) {go:Bool} {todo:List Item} {s:VS},sI T P X hi N f ro stop L Q n go todo s→Goal P T N b cs ro n0 fF todo s
 | 0,go,todo,s,e=>(show False from e).elim
 | n+1,go,todo,s,e=>by
   intro aw w0 sp a w E vR dA Fy h hn
   have hl:=tX T P X
   have run:∀ {YE:Bool} {fi:List Item} {s1:VS} {a1:Act} {w1:World} {E1:Env},sI T P X hi N f ro stop L Q n YE fi s1→Kept E E1→R T N aw w0 sp s1 a1 w1 E1→bA s1.sl→Steps P (lone (b.atR a todo) cs w) (lone (b.atR a1 fi) cs w1)→
     ∃ j s' a' w' E' cS,Kept (E.take n0) E'∧R T N aw w0 sp s' a' w' E'∧bA s'.sl∧rT j cS∧fF j s'∧Steps P (lone (b.atR a todo) cs w) (lone (b.atR a' cS) cs w'):=by
    intro YE fi s1 a1 w1 E1 e1 hk h1 QB mg
    have hlen:n0≤s1.rs.length:=by
     have:=hk.len
     rw [h.len,h1.len] at this
     omega
    obtain ⟨j,s',a',w',E',cS,q1,q2,q3,q4,q5,q6⟩:=zN bz Au DQ hL hQ n e1 aw w0 sp a1 w1 E1 hlen dA (Fy.take hk) h1 QB
    exact ⟨j,s',a',w',E',cS,(hk.take n0).trans q1,q2,q3,q4,q5,mg.trans q6⟩
   have gJ:∀ {c:Option Code},Q c s→rT c todo→∃ j s' a' w' E' cS,Kept (E.take n0) E'∧R T N aw w0 sp s' a' w' E'∧bA s'.sl∧rT j cS∧fF j s'∧Steps P (lone (b.atR a todo) cs w) (lone (b.atR a' cS) cs w'):=
    fun hq he=>⟨_,s,a,w,E,todo,Kept.kp E n0,h,hn,he,hQ _ _ hq,Steps.refl _ _⟩
   have hroE:gY E b ro:=Fy.mono (Kept.kp E n0).le
   cases todo with
   | nil=>exact gJ (c:=none) e rfl
   | cons x k=>
     cases x with
     | inBlock id=>exact run (fi:=k) (s1:=s) e (Kept.refl E) h hn (.one stepR_inBlock)
     | inLoop c=>exact run (fi:=.code c::.inLoop c::k) (s1:=s) e (Kept.refl E) h hn (.one stepR_inLoop)
     | beginRound=>
       obtain ⟨s1,hs1,e⟩:=b6 (show cn (rB ro s) (fun s'=>sI T P X hi N f ro stop L Q n go k s') from e)
       obtain ⟨w',h1,h2,h3⟩:=AE h hroE hs1
       exact run e (Kept.refl E) h1 (by rw [h2]; exact hn) h3
     | code c=>
       cases c with
       | skip=>exact run (fi:=k) (s1:=s) e (Kept.refl E) h hn (.one stepR_skip)
       | label l=>exact run (fi:=k) (s1:=s) e (Kept.refl E) h hn (.one stepR_label)
       | ret=>exact gJ (c:=some .ret) e (.inl ⟨k,rfl,rfl⟩)
       | seq x y=>exact run (fi:=.code x::.code y::k) (s1:=s) e (Kept.refl E) h hn (.one stepR_seq)
       | cond c x y=>
         have e:(match iz (bO s.sl c) with
          | some p=>Gu s c p (sI T P X hi N f ro stop L Q n go (.code x::k)) (sI T P X hi N f ro stop L Q n go (.code y::k))
          | none=>False):=e
         split at e
         case h_2=>exact e.elim
         rename_i p hp
         have hv:a.eval c=.bool p:=(h.bO hn (eu hp)).1
         have mg:=Steps.one (stepR_cond (P:=P) (b:=b) (k:=k) (cs:=cs) (w:=w) (x:=x) (y:=y) hv)
         rcases Jr hp e with ⟨rfl,e'⟩|⟨rfl,e'⟩
         ·exact run e' (Kept.refl E) h hn mg
         ·exact run e' (Kept.refl E) h hn mg
       | block id c=>exact run (fi:=.code c::.inBlock id::k) (s1:=s) e (Kept.refl E) h hn (.one stepR_block)
       | loop c=>exact run (fi:=.code c::.inLoop c::k) (s1:=s) e (Kept.refl E) h hn (.one stepR_loop)
       | exit id=>
         have e:(match exitTo id k with
          | some k'=>sI T P X hi N f ro stop L Q n go k' s
          | none=>Q (some (.exit id)) s):=e
         split at e
         ·rename_i k' jN
          exact run e (Kept.refl E) h hn (.one (stepR_exit jN))
         ·rename_i jN
          exact gJ e (.inr ⟨id,k,rfl,rfl,jN⟩)
       | region id ops draw=>
         have e0:Bool.rec (ta T P X hi N f ro id ops.toList draw s fun s'=>sI T P X hi N f ro stop L Q n false k s') (L (.code (.region id ops draw)::k) s) (!go&&stop id):=e
         clear e
         cases hgo:(!go&&stop id) with
         | true=>
           rw [hgo] at e0
           exact hL _ _ e0 aw w0 sp a w E vR dA Fy h hn
         | false=>
           rw [hgo] at e0
           obtain ⟨s1,hs1,e⟩:=CO e0
           cases draw with
           | false=>
             obtain ⟨a',w',E',q1,q2,q3,q4⟩:=vI (b:=b) (k:=k) (cs:=cs) bz hl h hn hs1
             exact run e q1 q2 q3 q4
           | true=>
             obtain ⟨a',w',E',q1,q2,q3,q4⟩:=AA (b:=b) (k:=k) (cs:=cs) bz hl Au h hn hs1
             exact run e q1 q2 q3 q4
       | rangeFunc g ps as bd=>
         obtain ⟨lo,j1,s1,Eo,hs1,e⟩:=Hj (show zd T P X N f ro g ps.toList as bd s (fun j s'=>sI T P X hi N f ro stop L Q n false (xr j k) s') from e)
         obtain ⟨a',w',E',q1,q2,q3,q4⟩:=Aw (k:=k) (cs:=cs) Eo h hn DQ hroE hs1
         exact run e q1 q2 (by rw [q3]; exact hn) q4
       | _=>exact (show False from e).elim
     | _=>exact (show False from e).elim
end
open Go.RowKit
section
variable {P:Program} {T:dn} {N:Nat} {aw:Nat→Prop} {w0:Kp} {sp:List (D×Value)} {s:VS} {a:Act} {w w':World} {E E':Env} {f:FuncId}
def bp (d d':D):Prop:=∀ (E:Env) (av:Nat→Prop) (w:World) (v:Value),aJ E av w d v→aJ E av w d' v
theorem bp.refl (d:D):bp d d:=fun _ _ _ _ h=>h
def ib (n:Nat) (x:ae):Prop:=j6 n x=true∨∃ f N sl ps as bd st fe,x=.loop f N sl ps as bd st fe∧∀ t d c,look sl t=some (d,c)→iR n d=true
theorem CQ {n m:Nat} (h:n≤m) {l:List Nat} (e:vr n l=true):vr m l=true:=ug fun r hr=>Nat.lt_of_lt_of_le (pe e r hr) h
theorem rr {n m:Nat} (h:n≤m) {x:C} (e:sT n x=true):sT m x=true:=by
 cases x with
 | im x=>rfl
 | rt r i j=>exact jg (Nat.lt_of_lt_of_le (aF e) h)
 | sa r k=>exact jg (Nat.lt_of_lt_of_le (aF e) h)
 | mp r=>exact jg (Nat.lt_of_lt_of_le (aF e) h)
 | yl r=>exact jg (Nat.lt_of_lt_of_le (aF e) h)
 | ow r j=>exact jg (Nat.lt_of_lt_of_le (aF e) h)
 | ky f l=>exact CQ h e
theorem lO {n m:Nat} (h:n≤m) {l:List C} (e:gT n l=true):gT m l=true:=qv fun x hx=>rr h (gP e x hx)
theorem xg {n m:Nat} (h:n≤m):∀ {l:List (Bool×List C)},yu n l=true→yu m l=true
 | [],_=>rfl
 | y::l,e=>by
   obtain ⟨h1,h2⟩:=Bool.fU (show (Bool.rec false (yu n l) (gT n y.2):Bool)=true from e)
   show (Bool.rec false (yu m l) (gT m y.2):Bool)=true
   rw [lO h h1]
   exact xg h h2
theorem nI {n m:Nat} (h:n≤m) {d:D} (e:iR n d=true):iR m d=true:=by
 cases d with
 | c x=>exact rr h e
 | a l=>exact lO h e
 | t l=>exact xg h e
theorem tI {n:Nat}:∀ {l:List Fc},(∀ x∈l,uO n x=true)→rX n l=true
 | [],_=>rfl
 | y::l,h=>by
   show (Bool.rec false (rX n l) (uO n y):Bool)=true
   rw [h y (dZ ..)]
   exact tI fun x hx=>h x (er _ hx)
theorem Hh {n m:Nat} (h:n≤m) {x:Fc} (e:uO n x=true):uO m x=true:=by
 cases x with
 | c x=>exact rr h e
 | o x=>rfl
theorem Dw {n m:Nat} (h:n≤m) {l:List Fc} (e:rX n l=true):rX m l=true:=tI fun x hx=>Hh h (oM e x hx)
theorem Hw {n m:Nat} (h:n≤m) {x:ae} (e:j6 n x=true):j6 m x=true:=by
 cases x with
 | box l=>exact lO h e
 | row el sz k l=>exact lO h e
 | gy el sz k get dK=>
   cases dK with
   | none=>rfl
   | some x=>exact Dw h e
 | loop f N sl ps as bd st fe=>simp [j6] at e
 | _=>rfl
theorem ib.mono {n m:Nat} (h:n≤m) {x:ae}:ib n x→ib m x
 | .inl e=>.inl (Hw h e)
 | .inr ⟨f,N,sl,ps,as,bd,st,fe,e,k⟩=>.inr ⟨f,N,sl,ps,as,bd,st,fe,e,fun t d c q=>nI h (k t d c q)⟩
theorem aM.low {av:Nat→Prop} {base:Nat} {e:gr} {x:ae} (h:aM E av base w e x):ib E.length x:=by
 cases x with
 | dead=>exact .inl rfl
 | box l=>obtain ⟨_,_,_,_,_,_,p⟩:=h; exact .inl (L.low p)
 | arr el sz n get=>exact .inl rfl
 | row el sz n l=>obtain ⟨_,_,_,_,p⟩:=h; exact .inl (L.low p)
 | gy el sz n get dK=>
   obtain ⟨_,_,xs,_,Ks,_,hf,p⟩:=h
   cases dK with
   | none=>exact .inl rfl
   | some x=>
     obtain ⟨h1,h2⟩:=hf x rfl
     refine .inl (tI fun c hc=>?_)
     obtain ⟨j,hj,hjc⟩:=List.getElem_of_mem hc
     obtain ⟨v,c',_,q2,q3⟩:=p x.1 h1 j (by rw [← h2]; exact hj)
     have e:c'=c:=by
      unfold iL at q2
      simp only [cB,bc,gj hj,ak] at q2
      rw [← q2,hjc]
     subst e
     exact ja.low q3
 | own l=>exact .inl rfl
 | set l=>exact .inl rfl
 | l7=>exact .inl rfl
 | loop f N sl ps as bd st fe=>
   obtain ⟨b,db,tm,p1,p2,p3,p4,p5⟩:=h
   refine .inr ⟨f,N,sl,ps,as,bd,st,fe,rfl,fun t d c q=>?_⟩
   have hcn:c=[]:=p5 _ (gV q)
   subst hcn
   exact aJ.low ((p4 t d [] q).2.1 fun p hp=>by cases hp)
theorem R.cut {sl:aG} {rs:List ae} {df:List Nat} (h:R T N aw w0 sp ⟨sl,rs,df⟩ a w E) {n:Nat} (hn:n≤rs.length) (Wj:∀ x∈sp,iR n x.1=true) (FO:∀ t d,look sl t=some (d,[])→iR n d=true) (oZ:∀ t d c,look sl t=some (d,c)→c=[])
  (Ie:∀ r∈df,r<n) (Il:∀ (q:Nat) (x:ae),(rs.take n)[q]?=some x→ib n x):R T N aw w0 sp ⟨sl,rs.take n,df⟩ a w (E.take n):=by
 have hk:=Kept.kp E n
 have hEl:(E.take n).length=n:=by rw [List.length_take,h.len]; exact Nat.min_eq_left hn
 have ir:∀ {r b sz:Nat},di (E.take n) r b sz→di E r b sz:=fun ⟨hh,q,q2⟩=>⟨hh,by
  rw [cN] at q
  split at q
  ·exact q
  ·simp at q,q2⟩
 have hr:∀ {q:Nat} {x:ae},(rs.take n)[q]?=some x→rs[q]?=some x:=fun q=>by
  rw [cN] at q
  split at q
  ·exact q
  ·simp at q
 have eY:∀ b,AV aw (rs.take n) (E.take n) b→AV aw rs E b:=by
  rintro b (q|⟨r,x,sz,h1,h2,h3⟩)
  ·exact .inl q
  ·exact .inr ⟨r,x,sz,hr h1,h2,ir h3⟩
 have hD:∀ {d:D} {v:Value},iR n d=true→aJ E (AV aw rs E) w d v→aJ (E.take n) (AV aw (rs.take n) (E.take n)) w d v:=fun hl q=>aJ.shrink hk eY (by rw [hEl]; exact hl) q
 have hC:∀ {l:List C} {cs:List Value},gT n l=true→az (aU E (AV aw rs E) w) l cs→az (aU (E.take n) (AV aw (rs.take n) (E.take n)) w) l cs:=fun hl q=>q.shrink fun x hx y p=>aU.shrink hk eY (by rw [hEl]; exact gP hl x hx) p
 have hdef:∀ {df:List Nat} {ds:List Deferred},(∀ r∈df,r<n)→az (fun r (d:Deferred)=>∃ b sz,a7 E r b sz∧d={ target:=.collected b,args := #[] }) df ds→az (fun r (d:Deferred)=>∃ b sz,a7 (E.take n) r b sz∧d={ target:=.collected b,args := #[] }) df ds:=by
  intro df ds h1 h2
  refine h2.shrink fun r MU d ⟨b,sz,⟨hh,q⟩,e⟩=>⟨b,sz,⟨hh,?_⟩,e⟩
  rw [cN,if_pos (h1 r MU)]; exact q
 refine ⟨h.size,hdef Ie h.defers,fun x hx=>hD (Wj x hx) (h.spec x hx),h.below,by rw [hEl]; simp [Nat.min_eq_left hn],h.outer,?_,fun r x b sz h1 h2 h3=>h.cT r x b sz (hr h1) h2 (ir h3),fun r r' x x' b sz cj h1 lX h2 jf h3 l9=>h.eP r r' x x' b sz cj (hr h1) (hr lX) h2 jf (ir h3) (ir l9),?_,h.fL.mono (aZ.refl _ w) (fun b _ q=>eY b q)⟩
 ·intro r x e h1 h2
  have hE:E[r]?=some e:=by
   rw [cN] at h2
   split at h2
   ·exact h2
   ·simp at h2
  have hrel:=h.roots r x e (hr h1) hE
  have dA:=Il r x h1
  cases x with
  | dead=>trivial
  | box l=>
    obtain ⟨b,cs,Tc,p1,p2,p3,p4⟩:=hrel
    rcases dA with dA|⟨_,_,_,_,_,_,_,_,e,_⟩
    ·exact ⟨b,cs,Tc,p1,p2,p3,hC dA p4⟩
    ·cases e
  | row el sz k l=>
    obtain ⟨p1,p2,xs,p3,p4⟩:=hrel
    rcases dA with dA|⟨_,_,_,_,_,_,_,_,e,_⟩
    ·exact ⟨p1,p2,xs,p3,hC dA p4⟩
    ·cases e
  | arr el sz k get=>
    obtain ⟨p1,p2,xs,p3,p4⟩:=hrel
    refine ⟨p1,p2,xs,p3,fun i hi j hj=>?_⟩
    obtain ⟨x,p5,p6⟩:=p4 i hi j hj
    exact ⟨x,p5,cA.mono (aZ.refl _ w) (fun b _ q=>eY b q) p6⟩
  | gy el sz k get dK=>
    obtain ⟨p1,p2,xs,p3,Ks,p4,pf,p5⟩:=hrel
    refine ⟨p1,p2,xs,p3,Ks,p4,pf,fun i hi j hj=>?_⟩
    obtain ⟨x,c,p6,p7,p8⟩:=p5 i hi j hj
    refine ⟨x,c,p6,p7,ja.shrink hk eY ?_ p8⟩
    rw [hEl]
    rcases dA with dA|⟨_,_,_,_,_,_,_,_,e,_⟩
    ·exact Ca dA p7
    ·cases e
  | own l=>
    obtain ⟨p1,p2,vs,p3,p4,Ks,p5,p6,p7⟩:=hrel
    refine ⟨p1,p2,vs,p3,p4,Ks,p5,p6,fun i o ho=>?_⟩
    obtain ⟨v,g1,g2⟩:=p7 i o ho
    exact ⟨v,g1,je.mono (aZ.refl _ w) (fun b _ q=>eY b q) (fun _ _=>rfl) g2⟩
  | set l=>exact hrel
  | l7=>exact hrel
  | loop f M fC ps as bd st fe=>
    obtain ⟨b,db,tm,p1,p2,p3,p4,p5⟩:=hrel
    rcases dA with dA|⟨_,_,_,_,_,_,_,_,e,dA⟩
    ·simp [j6] at dA
    ·simp only [ae.loop.injEq] at e
     obtain ⟨rfl,rfl,rfl,rfl,rfl,rfl,rfl,rfl⟩:=e
     exact ⟨b,db,tm,p1,p2,p3,fun t d c hl=>by
      obtain ⟨s1,s2,s3⟩:=p4 t d c hl
      exact ⟨s1,fun q=>hD (dA t d c hl) (s2 q),s3⟩,p5⟩
 ·intro t d c hl
  have hcn:=oZ t d c hl
  subst hcn
  obtain ⟨s1,s2,s3⟩:=h.slots t d [] hl
  exact ⟨s1,fun q=>hD (FO t d hl) (s2 q),s3⟩
def Ge (x y:ae):Prop:=y=x∨∃ f N sl ps a b st pd Uf YD,x=.loop f N sl ps a b st pd∧y=.loop f N sl ps a b Uf YD
theorem Ge.low {n:Nat} {x y:ae} (h:Ge x y) (hx:ib n x):ib n y:=by
 rcases h with rfl|⟨f,N,sl,ps,a,b,st,pd,Uf,YD,rfl,rfl⟩
 ·exact hx
 ·rcases hx with h|⟨_,_,_,_,_,_,_,_,e,k⟩
  ·simp [j6] at h
  ·simp only [ae.loop.injEq] at e
   obtain ⟨rfl,rfl,rfl,rfl,rfl,rfl,rfl,rfl⟩:=e
   exact .inr ⟨_,_,_,_,_,_,_,_,rfl,k⟩
def AR (n:Nat):List ae→List ae→Prop
 | _,[]=>True
 | [],y::l=>j6 n y=true∧AR n [] l
 | x::k,y::l=>(Ge x y∨j6 n y=true)∧AR n k l
theorem rm {n:Nat}:∀ {k l:List ae},AR n k l→∀ (q:Nat) (x:ae),l[q]?=some x→(∃ z,k[q]?=some z∧Ge z x)∨j6 n x=true
 | _,[],_,q,x,e=>by simp at e
 | [],y::l,h,0,x,e=>by simp at e; subst e; exact .inr h.1
 | [],y::l,h,q+1,x,e=>by
   rcases rm h.2 q x (by simpa using e) with h1|h1
   ·simp at h1
   ·exact .inr h1
 | z::k,y::l,h,0,x,e=>by
   simp at e; subst e
   exact h.1.imp (fun e=>⟨z,rfl,e⟩) id
 | z::k,y::l,h,q+1,x,e=>by simpa using rm h.2 q x (by simpa using e)
theorem bj (n:Nat):∀ l,AR n l l
 | []=>trivial
 | _::l=>⟨.inl (.inl rfl),bj n l⟩
def Ends (rs:List ae) (d:D) (aE:List ae) (d1:D) (fx:List ae):Prop:=∃ n,rs.length≤n∧n≤fx.length∧fx.take n=aE∧iR n d1=true∧bp d1 d∧AR n rs aE
theorem R.ends {sl:aG} {rs fx aE:List ae} {df:List Nat} (h:R T N aw w0 sp ⟨sl,rs,df⟩ a w E) (oZ:∀ t d c,look sl t=some (d,c)→c=[]) (h':R T N aw w0 sp ⟨sl,fx,df⟩ a w' E') (hk:Kept E E') {d d1:D} (he:Ends rs d aE d1 fx) {v:Value} (hv:aJ E' (AV aw fx E') w' d1 v) :
  ∃ qP,Kept E qP∧R T N aw w0 sp ⟨sl,aE,df⟩ a w' qP∧aJ qP (AV aw aE qP) w' d v:=by
 obtain ⟨n,h1,h2,rfl,h4,h5,h6⟩:=he
 have hlE:E.length=rs.length:=h.len
 have hlE':E'.length=fx.length:=h'.len
 have hcut:=h'.cut h2 (fun x hx=>nI (by omega) (aJ.low (h.spec x hx))) (fun t d hl=>nI (by omega) (aJ.low ((h.slots t d [] hl).2.1 fun p hp=>by cases hp))) oZ (fun r hr=>by
   obtain ⟨dd,b,sz,q,_⟩:=h.defers.left r hr
   have:=mi q
   omega) (fun q x hx=>by
   rcases rm h6 q x hx with ⟨z,hq,hz⟩|hq
   ·have dp:q<E.length:=by rw [hlE]; exact (List.getElem?_eq_some_iff.1 hq).1
    exact hz.low ((aM.low (h.roots q z _ hq (gj dp))).mono (by omega))
   ·exact .inl hq)
 have hk2:Kept E (E'.take n):=by
  have hEt:E.take n=E:=List.take_of_length_le (by omega)
  have:=hk.take n
  rwa [hEt] at this
 refine ⟨E'.take n,hk2,hcut,h5 _ _ _ _ (aJ.shrink (Kept.kp E' n) (fun b q=>?_) (by rw [List.length_take,hlE',Nat.min_eq_left h2]; exact h4) hv)⟩
 rcases q with q|⟨r,x,sz,q1,q2,⟨hh,q3⟩⟩
 ·exact .inl q
 ·rw [cN] at q1 q3
  split at q1
  ·rename_i dp
   rw [if_pos dp] at q3
   exact .inr ⟨r,x,sz,q1,q2,hh,q3⟩
  ·simp at q1
theorem Fu {fn:Func} {c:Code} (hf:P.funcs[f]?=some fn) (hc:fn.body=some c) {ds:List D} (hlen:ds.length≤fn.ntmps) {sl:aG} {rs:List ae} {df:List Nat} (h:R T N aw w0 sp ⟨sl,rs,df⟩ a w E) {vs:List Value} (hv:az (aJ E (AV aw rs E) w) ds vs) :
  ∃ (b:Frame) (tm:Array Value),b.fn=f∧b.roundOf=none∧b.kind=.normal∧Frame.enter P f vs.toArray .normal=b.atR { tmps:=tm,defers:=[] } [.code c]∧R T fn.ntmps aw w0 (ma sl a++sp) ⟨cH 0 ds,rs,[]⟩ { tmps:=tm,defers:=[] } w E:=by
 let b:Frame:={ (default:Frame) with fn:=f,kind:=.normal,roundOf:=none }
 let tm:=vs.toArray++Array.replicate (fn.ntmps-vs.toArray.size) undef
 have hvl:=hv.length
 have henter:Frame.enter P f vs.toArray .normal=b.atR { tmps:=tm,defers:=[] } [.code c]:=by
  simp [Frame.enter,Frame.atR,hf,hc,b,tm]
 have htm:tm.size=fn.ntmps:=by simp only [tm,Array.size_append,Array.size_replicate,List.size_toArray]; omega
 refine ⟨b,tm,rfl,rfl,rfl,henter,h.xW (M:=fn.ntmps) (Ft:=cH 0 ds) (tm:=tm) htm (fun t d' c' hl=>?_)⟩
 obtain ⟨rfl,_,h2⟩:=kv hl
 simp only [Nat.sub_zero] at h2
 have ht:t<ds.length:=(List.getElem?_eq_some_iff.1 h2).1
 obtain ⟨v,h3,h4⟩:=hv.nth (i:=t) (x:=d') (by rw [bc]; exact h2)
 refine ⟨Nat.lt_of_lt_of_le ht hlen,fun _=>?_,fun q=>(q fun p hp=>by cases hp).elim⟩
 have hg:tm.getD t undef=v:=by
  have htv:t<vs.length:=by rw [← hvl]; exact ht
  have:vs[t]?=some v:=h3
  simp only [tm]
  rw [Array.getD_eq_getD_getElem?,Array.getElem?_append_left (by simpa using htv)]
  simp [this]
 rw [hg]
 exact h4
theorem uS (bz:dk P T) {fn:Func} (hf:P.funcs[f]?=some fn) (mR:(fn.name == "runtime.NumGoroutine")=false) {c:Code} (hc:fn.body=some c) {ds:List D} {rs:List ae} {d:D} {aE:List ae} (hlen:ds.length≤fn.ntmps) {Q:D→List ae→Prop} (hQ:∀ {aw:Nat→Prop} {w0:Kp} {sp:List (D×Value)} {a:Act} {w w':World} {E E':Env} {d1:D} {fx:List ae} {v:Value},Q d1 fx→(∀ x∈sp,iR rs.length x.1=true)→R T fn.ntmps aw w0 sp ⟨[],rs,[]⟩ a w E→R T fn.ntmps aw w0 sp ⟨[],fx,[]⟩ a w' E'→Kept E E'→aJ E' (AV aw fx E') w' d1 v→∃ qP,Kept E qP∧R T fn.ntmps aw w0 sp ⟨[],aE,[]⟩ a w' qP∧aJ qP (AV aw aE qP) w' d v)
  (hg:∀ (b:Frame) (cs:List Frame),b.fn=f→Goal P T fn.ntmps b cs none rs.length (qu T fn.results.toList Q) [.code c] ⟨cH 0 ds,rs,[]⟩):cl T P f ds rs d aE:=by
 refine ⟨⟨fn,hf,mR,by simp [hc]⟩,?_⟩
 intro N aw w0 sp sl df a w E vs h0 hv cs
 obtain ⟨b,tm,DQ,hbr,hbk,henter,hR⟩:=Fu (P:=P) (f:=f) hf hc hlen h0 hv
 have dA:∀ x∈ma sl a++sp,iR rs.length x.1=true:=fun x hx=>by
  have:=aJ.low (hR.spec x hx)
  rwa [hR.len] at this
 obtain ⟨j,s,a',w1,E',cS,hk,rJ,sq,hend,hpost,hsteps⟩:=hg b cs DQ _ _ _ _ _ _ (bf _) dA hbr hR jv
 have hEt:E.take rs.length=E:=List.take_of_length_le (Nat.le_of_eq h0.len)
 rw [hEt] at hk
 obtain ⟨hret,hpost⟩:=bG.1 hpost
 obtain ⟨x,hres0,hpost⟩:=b6 hpost
 obtain ⟨d1,fx⟩:=x
 unfold JH at hres0
 split at hres0
 case h_2=>simp at hres0
 rename_i nr htake
 split at hres0
 case h_2=>simp at hres0
 rename_i d2 vX
 simp only [ak,a8] at hres0
 obtain ⟨rfl,rfl⟩:=hres0
 have hback:Steps P (lone (b.atR a' cS) cs w1) (lone { b.atR a' cS with mode:=.returning } cs w1):=by
  cases j with
  | none=>
    have hend:cS=[]:=hend
    subst hend
    exact .one (stepR_end hbr)
  | some c' =>
    rcases hend with ⟨k,rfl,rfl⟩|⟨id,k,rfl,_,_⟩
    ·exact .one (stepR_ret hbr)
    ·simp [J1] at hret
 have hR'':R T fn.ntmps aw w0 (ma sl a++sp) ⟨s.sl,s.rs,s.df⟩ a' w1 E':=rJ
 obtain ⟨w2,hR2,hst2⟩:=qo (P:=P) (cs:=cs) s.df (fr:={ b.atR a' cS with mode:=.returning }) htake hR'' rfl rfl
 obtain ⟨pr,hpr1,hpr2⟩:=Ex (s:=⟨s.sl,nr,[]⟩) sq vX
 obtain ⟨v,hrv,hdv⟩:=kH bz hR2 hpr1 hpr2
 have hR3:R T fn.ntmps aw w0 (ma sl a++sp) ⟨[],nr,[]⟩ { a' with defers:=[] } w2 E':=⟨hR2.size,hR2.defers,hR2.spec,hR2.below,hR2.len,hR2.outer,hR2.roots,hR2.cT,hR2.eP,fun t d c q=>by simp [look] at q,hR2.fL⟩
 have hR0:R T fn.ntmps aw w0 (ma sl a++sp) ⟨[],rs,[]⟩ { tmps:=a'.tmps,defers:=[] } w E:=⟨hR2.size,.nil,hR.spec,hR.below,hR.len,hR.outer,hR.roots,hR.cT,hR.eP,fun t d c q=>by simp [look] at q,hR.fL⟩
 obtain ⟨qP,hk2,hR4,hd4⟩:=hQ hpost dA hR0 hR3 hk hdv
 refine ⟨.returned v,w2,{ { b.atR a' cS with mode:=.returning } with defers:=[] },⟨v,qP,rfl,hk2,h0.back (s':=⟨[],aE,[]⟩) hR4 hk2.le,hd4⟩,?_,?_,?_,?_,?_,fn,?_,hrv⟩
 ·rw [henter]
  exact (hsteps.trans hback).trans hst2
 all_goals first|rfl|exact DQ|exact hbk|exact hbr|exact (show P.funcs[b.fn]?=some fn from DQ▸hf)
theorem Ns (bz:dk P T) {fn:Func} (hf:P.funcs[f]?=some fn) (mR:(fn.name == "runtime.NumGoroutine")=false) {c:Code} (hc:fn.body=some c) {ds:List D} {rs:List ae} {d:D} {aE:List ae} (hlen:ds.length≤fn.ntmps)
  (hg:∀ (b:Frame) (cs:List Frame),b.fn=f→Goal P T fn.ntmps b cs none rs.length (qu T fn.results.toList (Ends rs d aE)) [.code c] ⟨cH 0 ds,rs,[]⟩):cl T P f ds rs d aE:=
 uS bz hf mR hc hlen (fun hq _ h h' hk hv=>h.ends (fun t d c q=>by simp [look] at q) h' hk hq hv) hg
theorem HA (bz:dk P T) {r M:Nat} {g:FuncId} {Ap Ft:aG} {ps:List Tmp} {as bd:Code} {ds:List D} {rs:List ae} {d:D} {aE:List ae} (hr:rs[r]?=some (.loop g M Ap ps as bd .ready none)) (Ll:K8 M ps ds Ap=some Ft)
  (hg:∀ (b:Frame) (cs:List Frame),b.fn=g→Goal P T M b cs (some r) rs.length (PV r (Ends rs d aE)) [.code as,.beginRound,.code bd] ⟨Ft,rs,[]⟩):rk T P r ds rs d aE:=by
 constructor
 intro N aw w0 sp sl df a w E vs h hv
 obtain ⟨l,hd,sz,db,tm,h1,h2,h3,h4,h5⟩:=h.loop hr
 have hR:=h.xW (M:=M) (Ft:=Ap) (tm:=tm) h3 h4
 obtain ⟨hlen,hR1,QB⟩:=DK (Wr:=id) Ll hR h5 hv
 have hy:=run_yield (P:=P) (args:=vs.toArray) h2 (by simp [hlen])
 refine ⟨l,sz,g,_,as,bd,⟨hd,h1⟩,hy,?_⟩
 have htm:(Array.foldl (fun tmps x=>match x with
   | (t,a)=>tmps.setIfInBounds t a) tm (ps.toArray.zip vs.toArray))=(ps.zip vs).foldl (fun tmps x=>tmps.setIfInBounds x.1 x.2) tm:=by
  simp
 intro c cs
 simp only at htm ⊢
 rw [htm]
 let b:Frame:={ (default:Frame) with fn:=g,kind:=.normal,roundOf:=some l }
 have hb0:∀ tm,Frame.round l g tm as bd .normal=b.atR { tmps:=tm,defers:=[] } [.code as,.beginRound,.code bd]:=fun tm=>by
  simp [Frame.round,Frame.atR,b]
 rw [hb0]
 have dA:∀ x∈ma sl a++sp,iR rs.length x.1=true:=fun x hx=>by
  have:=aJ.low (hR.spec x hx)
  rwa [hR.len] at this
 have hEt:E.take rs.length=E:=List.take_of_length_le (Nat.le_of_eq h.len)
 obtain ⟨j,s,a',w1,E',cS,hk,rJ,sq,hend,hpost,hsteps⟩:=hg b (c::cs) rfl _ _ _ _ _ _ (bf _) dA (by rw [hEt]; exact ⟨l,sz,rfl,hd,h1⟩) hR1 QB
 rw [hEt] at hk
 obtain ⟨x,e,hpost⟩:=b6 hpost
 obtain ⟨d1,fx⟩:=x
 unfold yv at e
 split at e
 case h_2=>simp at e
 rename_i Ie
 split at e
 case h_2=>simp at e
 rename_i g' M' fC NF M7 Nl MU
 rw [bQ] at MU
 obtain ⟨l',nW,cj,db',tm',q1,q2,q3,q4,q5⟩:=rJ.loop MU
 obtain ⟨K,hE',_⟩:=hk.le r _ h1 (gr.Gl rfl)
 rw [hE'] at q1
 simp only [gr.wk,ak,a8] at q1
 obtain ⟨rfl,rfl,rfl⟩:=q1
 have fin:∀ (st:LoopState) (fe:Option Code) (bv:Bool),d1=bool bv→fx=setAt s.rs r (.loop g' M' fC NF M7 Nl st fe)→
   ∃ qP,Kept E qP∧R T N aw w0 sp ⟨sl,aE,df⟩ a (w1.putObj l (.loop { state:=st,pending:=fe,fn:=g',tmps:=tm',params:=NF.toArray,assign:=M7,body:=Nl,defers:=db' })) qP∧aJ qP (AV aw aE qP) (w1.putObj l (.loop { state:=st,pending:=fe,fn:=g',tmps:=tm',params:=NF.toArray,assign:=M7,body:=Nl,defers:=db' })) d (.bool bv):=by
  intro st fe bv Zk Yj
  have hT:=rJ.pP MU hE' q2 q3 q4 q5 st fe
  rw [← Yj] at hT
  have hsd:s.df=[]:=Ie
  have hR3:R T M aw w0 (ma sl a++sp) ⟨[],fx,[]⟩ { a' with defers:=[] } (w1.putObj l (.loop { state:=st,pending:=fe,fn:=g',tmps:=tm',params:=NF.toArray,assign:=M7,body:=Nl,defers:=db' })) E':=⟨hT.size,.nil,hT.spec,hT.below,hT.len,hT.outer,hT.roots,hT.cT,hT.eP,fun t d c q=>by simp [look] at q,hT.fL⟩
  have hR0:R T M aw w0 (ma sl a++sp) ⟨[],rs,[]⟩ { tmps:=a'.tmps,defers:=[] } w E:=⟨hT.size,.nil,hR1.spec,hR1.below,hR1.len,hR1.outer,hR1.roots,hR1.cT,hR1.eP,fun t d c q=>by simp [look] at q,hR1.fL⟩
  obtain ⟨qP,hk2,hR4,hd4⟩:=hR0.ends (fun t d c q=>by simp [look] at q) hR3 hk hpost (v:=.bool bv) (by rw [Zk]; exact ⟨rfl,rfl⟩)
  exact ⟨qP,hk2,h.back (s':=⟨[],aE,[]⟩) hR4 hk2.le,hd4⟩
 cases j with
 | none=>
   simp only [ak,a8] at e
   have hend:cS=[]:=hend
   subst hend
   exact ⟨.bool true,_,fin .ready none true e.1.symm e.2.symm,hsteps.trans (.one (stepR_round_end rfl rfl (run_endRound none q2)))⟩
 | some c' =>
   simp only [ak,a8] at e
   refine ⟨.bool false,_,fin .done (some c') false e.1.symm e.2.symm,hsteps.trans (.one ?_)⟩
   rcases hend with ⟨k,rfl,rfl⟩|⟨id,k,rfl,rfl,hx⟩
   ·exact stepR_round_ret rfl rfl (run_endRound (some .ret) q2)
   ·exact stepR_round_exit rfl rfl hx (run_endRound (some (.exit id)) q2)
end
open Go.RowKit
section
variable {P:Program} {T:dn} {N:Nat} {aw:Nat→Prop} {w0:Kp} {sp:List (D×Value)} {s s':VS} {a:Act} {w w':World} {E E':Env} {f:FuncId} {b:Frame} {cs:List Frame} {ro:Option Nat} {n0:Nat} {fF:Option Code→VS→Prop} {todo:List Item}
def cf (d:D) (d1:D) (fx:List ae):Prop:=cn (aQ fx d1) fun d2=>bp d2 d
theorem Kx (bz:dk P T) {fn:Func} (hf:P.funcs[f]?=some fn) (mR:(fn.name == "runtime.NumGoroutine")=false) {c:Code} (hc:fn.body=some c) {ds:List D} {d:D} (hlen:ds.length≤fn.ntmps)
  (hg:∀ (b:Frame) (cs:List Frame),b.fn=f→Goal P T fn.ntmps b cs none 0 (qu T fn.results.toList (cf d)) [.code c] ⟨cH 0 ds,[],[]⟩):cl T P f ds [] d []:=by
 refine ⟨⟨fn,hf,mR,by simp [hc]⟩,?_⟩
 intro N aw w0 sp sl df a w E vs h0 hv cs
 obtain ⟨b,tm,DQ,hbr,hbk,henter,hR⟩:=Fu (P:=P) (f:=f) hf hc hlen h0 hv
 have hE0:E=[]:=List.eq_nil_of_length_eq_zero h0.len
 subst hE0
 have dA:∀ x∈ma sl a++sp,iR 0 x.1=true:=fun x hx=>aJ.low (hR.spec x hx)
 obtain ⟨j,s,a',w1,E',cS,hk,rJ,sq,hend,hpost,hsteps⟩:=hg b cs DQ _ _ _ _ _ _ (bf _) dA hbr hR jv
 obtain ⟨hret,hpost⟩:=bG.1 hpost
 obtain ⟨x,hres0,hpost⟩:=b6 hpost
 obtain ⟨d2,hreify,hle⟩:=b6 hpost
 obtain ⟨d1,fx⟩:=x
 unfold JH at hres0
 split at hres0
 case h_2=>simp at hres0
 rename_i nr htake
 split at hres0
 case h_2=>simp at hres0
 rename_i d3 vX
 simp only [ak,a8] at hres0
 obtain ⟨rfl,rfl⟩:=hres0
 have hback:Steps P (lone (b.atR a' cS) cs w1) (lone { b.atR a' cS with mode:=.returning } cs w1):=by
  cases j with
  | none=>
    have hend:cS=[]:=hend
    subst hend
    exact .one (stepR_end hbr)
  | some c' =>
    rcases hend with ⟨k,rfl,rfl⟩|⟨id,k,rfl,_,_⟩
    ·exact .one (stepR_ret hbr)
    ·simp [J1] at hret
 have hR'':R T fn.ntmps aw w0 (ma sl a++sp) ⟨s.sl,s.rs,s.df⟩ a' w1 E':=rJ
 obtain ⟨w2,hR2,hst2⟩:=qo (P:=P) (cs:=cs) s.df (fr:={ b.atR a' cS with mode:=.returning }) htake hR'' rfl rfl
 obtain ⟨pr,hpr1,hpr2⟩:=Ex (s:=⟨s.sl,nr,[]⟩) sq vX
 obtain ⟨v,hrv,hdv⟩:=kH bz hR2 hpr1 hpr2
 have hR3:R T fn.ntmps aw w0 (ma sl a++sp) ⟨[],nr,[]⟩ { a' with defers:=[] } w2 E':=⟨hR2.size,hR2.defers,hR2.spec,hR2.below,hR2.len,hR2.outer,hR2.roots,hR2.cT,hR2.eP,fun t d c q=>by simp [look] at q,hR2.fL⟩
 have hcut:=hR3.cut (n:=0) (bB _) dA (fun t d q=>by simp [look] at q) (fun t d c q=>by simp [look] at q) (fun r hr=>by cases hr) (fun q x hx=>by simp at hx)
 have hd2:aJ [] aw w2 d2 v:=oF hR2 (ji.outer hR2) hreify hdv
 refine ⟨.returned v,w2,{ { b.atR a' cS with mode:=.returning } with defers:=[] },⟨v,[],rfl,Kept.refl _,h0.back (s':=⟨[],[],[]⟩) hcut (Env.le_refl _),?_⟩,?_,?_,?_,?_,?_,fn,?_,hrv⟩
 ·refine hle _ _ _ _ (aJ.mono (Env.le_refl _) (aZ.refl _ w2) (fun b _ q=>(qX b).1 q) hd2)
 ·rw [henter]
  exact (hsteps.trans hback).trans hst2
 all_goals first|rfl|exact DQ|exact hbk|exact hbr|exact (show P.funcs[b.fn]?=some fn from DQ▸hf)
theorem Goal.ghost (g:Goal P T N b cs ro n0 fF todo s') (h:∀ aw w0 sp a w E,(∀ x∈sp,iR n0 x.1=true)→n0≤s.rs.length→R T N aw w0 sp s a w E→bA s.sl→∃ E',E'.take n0=E.take n0∧R T N aw w0 sp s' a w E'∧bA s'.sl):Goal P T N b cs ro n0 fF todo s:=by
 intro aw w0 sp a w E vR dA Fy hR hn
 obtain ⟨E',h1,h2,h3⟩:=h aw w0 sp a w E dA vR hR hn
 have hl:n0≤s'.rs.length:=by
  have e:=congrArg List.length h1
  rw [List.length_take,List.length_take,hR.len,h2.len] at e
  omega
 have:=g aw w0 sp a w E' hl dA (by rw [h1]; exact Fy) h2 h3
 rw [h1] at this
 exact this
theorem Goal.swap {r:Nat} {x y:ae} (hr:aY s.rs r=some x) (hl:y.live→x.live) (hx:∀ (base:Nat) (E:Env) (w:World) e av,aM E av base w e x→aM E av base w e y)
  (g:Goal P T N b cs ro n0 fF todo { s with rs:=setAt s.rs r y }):Goal P T N b cs ro n0 fF todo s:=
 g.ghost fun aw w0 sp a w E dA vR hR hn=>⟨E,rfl,by
  rw [bQ] at hr
  rw [bm]
  exact hR.swap hr hl fun e av q _=>hx _ _ _ _ _ q,hn⟩
def dP (x y:I):Prop:=∀ av w v,cA av w x v→cA av w y v
theorem dP.refl (x:I):dP x x:=fun _ _ _ h=>h
theorem dP.nil (sz:Nat) (get:Nat→Nat→I):dP (.v (.slice none 0 0)) (.sl sz 0 get):=by
 rintro av w v ⟨rfl,_⟩
 exact ⟨none,0,rfl,bf _,bB _,fun h=>by omega⟩
theorem Goal.arr {r el sz n:Nat} {get get':Nat→Nat→I} (hr:aY s.rs r=some (.arr el sz n get)) (h:∀ i,i<n→∀ j,j<sz→dP (get i j) (get' i j))
  (g:Goal P T N b cs ro n0 fF todo { s with rs:=setAt s.rs r (.arr el sz n get') }):Goal P T N b cs ro n0 fF todo s:=
 Goal.swap (x:=.arr el sz n get) hr (fun _=>trivial) (fun base E w e av q=>by
  obtain ⟨p1,p2,xs,p3,p4⟩:=q
  exact ⟨p1,p2,xs,p3,fun i hi j hj=>by
   obtain ⟨x,p5,p6⟩:=p4 i hi j hj
   exact ⟨x,p5,h i hi j hj _ _ _ p6⟩⟩) g
theorem Goal.freeze {r:Nat} (h:Go.V.freeze r s=some s') (g:Goal P T N b cs ro n0 fF todo s'):Goal P T N b cs ro n0 fF todo s:=
 g.ghost fun aw w0 sp a w E dA vR hR hn=>⟨E,rfl,(hR.freeze h).1,(hR.freeze h).2 hn⟩
def QN (sl:aG):aG→Prop
 | []=>True
 | x::l=>(x.2.2=[]∧∃ d0,eb sl x.1=some d0∧bp d0 x.2.1)∧QN sl l
theorem qb {sl:aG}:∀ {l:aG},QN sl l→∀ x∈l,x.2.2=[]∧∃ d0,eb sl x.1=some d0∧bp d0 x.2.1
 | [],_,x,hx=>by cases hx
 | y::l,h,x,hx=>by
   rcases List.mem_cons.1 hx with rfl|hx
   ·exact h.1
   ·exact qb h.2 x hx
theorem Goal.slots {fC:aG} (h:QN s.sl fC) (g:Goal P T N b cs ro n0 fF todo { s with sl:=fC }):Goal P T N b cs ro n0 fF todo s:=
 g.ghost fun aw w0 sp a w E dA vR hR hn=>⟨E,rfl,⟨hR.size,hR.defers,hR.spec,hR.below,hR.len,hR.outer,hR.roots,hR.cT,hR.eP,fun t d c hl=>by
  obtain ⟨h1,d0,h2,h3⟩:=qb h _ (gV hl)
  have h1:c=[]:=h1
  subst h1
  have h4:=fq hn h2
  obtain ⟨q1,q2,q3⟩:=hR.slots t d0 [] h4
  exact ⟨q1,fun q=>h3 _ _ _ _ (q2 q),q3⟩,hR.fL⟩,fun x hx=>(qb h x hx).1⟩
theorem R.Dd (h:R T N aw w0 sp s a w E) (el sz:Nat) (get:Nat→Nat→I):R T N aw w0 sp { s with rs:=s.rs++[.arr el sz 0 get] } a w (E++[(Option.none,lS (.slice Option.none 0 0),sz)]):=by
 have hE:=Env.eo E [(Option.none,lS (.slice Option.none 0 0),sz)]
 have ir:∀ {r b z:Nat},di (E++[(Option.none,lS (.slice Option.none 0 0),sz)]) r b z→di E r b z:=by
  rintro r b z ⟨hh,q,q2⟩
  rcases Nat.lt_or_ge r E.length with hr|hr
  ·rw [dQ hr] at q; exact ⟨hh,q,q2⟩
  ·rw [gG hr] at q
   rcases Nat.eq_zero_or_pos (r-E.length) with e|e
   ·rw [e] at q; simp at q; subst q; rcases q2 with ⟨_,q2|q2⟩<;>simp at q2
   ·rw [List.getElem?_eq_none (by simp; omega)] at q; simp at q
 have key:∀ (r:Nat) (y:ae) (b z:Nat),(s.rs++[ae.arr el sz 0 get])[r]?=some y→y.live→di (E++[(Option.none,lS (.slice Option.none 0 0),sz)]) r b z→s.rs[r]?=some y:=by
  intro r y b z h1 h2 h3
  have dp:r<E.length:=by obtain ⟨_,q,_⟩:=ir h3; exact (List.getElem?_eq_some_iff.1 q).1
  rw [h.len] at dp
  rwa [dQ dp] at h1
 have eY:∀ b,AV aw (s.rs++[.arr el sz 0 get]) (E++[(Option.none,lS (.slice Option.none 0 0),sz)]) b→AV aw s.rs E b:=by
  rintro b (q|⟨r,x,z,h1,h2,h3⟩)
  ·exact .inl q
  ·exact .inr ⟨r,x,z,key r x b z h1 h2 h3,h2,ir h3⟩
 refine h.zz (aE:=s.rs++[.arr el sz 0 get]) hE (aZ.refl _ w) h.below (fun b _ q=>eY b q) (by simp [h.len]) ?_ ?_ ?_
 ·intro r x e h1 h2
  rcases Nat.lt_or_ge r s.rs.length with hr|hr
  ·rw [dQ hr] at h1
   rw [dQ (by rw [h.len]; exact hr)] at h2
   exact aM.mono hE (aZ.refl _ w) (fun b _ q=>eY b q) (fun _ _ _=>rfl) (h.roots r x e h1 h2)
  ·have hr2:r<s.rs.length+1:=by simpa using (List.getElem?_eq_some_iff.1 h1).1
   have e0:r=s.rs.length:=by omega
   subst e0
   rw [gG (bf _)] at h1
   rw [gG (by rw [h.len]; exact bf _)] at h2
   simp at h1
   rw [h.len] at h2
   simp at h2
   subst h1 h2
   exact ⟨rfl,rfl,[],w.ownsRow_nil _ _ _,fun i hi=>by omega⟩
 ·intro r x b z h1 h2 h3
  exact h.cT r x b z (key r x b z h1 h2 h3) h2 (ir h3)
 ·intro r r' x x' b z z' h1 lX h2 jf h3 l9
  exact h.eP r r' x x' b z z' (key r x b z h1 h2 h3) (key r' x' b z' lX jf l9) h2 jf (ir h3) (ir l9)
def RF:Nat→Nat→I:=fun _ _=>.v (.bool false)
def DJ (t:Tmp) (el sz:Nat) (s:VS):VS:={ s with sl:=(t,.c (.sa s.rs.length 0),[])::s.sl,rs:=s.rs++[.arr el sz 0 RF] }
theorem Goal.Fx {t:Tmp} {el sz:Nat} (ht:eb s.sl t=some (.c (.im (.v (.slice none 0 0))))) (g:Goal P T N b cs ro n0 fF todo (DJ t el sz s)):Goal P T N b cs ro n0 fF todo s:=
 g.ghost fun aw w0 sp a w E dA vR hR hn=>by
  have h1:=hR.Dd el sz RF
  refine ⟨_,?_,⟨h1.size,h1.defers,h1.spec,h1.below,h1.len,h1.outer,h1.roots,h1.cT,h1.eP,fun u d c hl=>?_,h1.fL⟩,hn.cons t _⟩
  ·rw [List.take_append_of_le_length (by rw [hR.len]; exact vR)]
  ·simp only [DJ,look] at hl
   split at hl
   ·rename_i he
    have he:=bs he
    subst he
    simp only [ak,a8] at hl
    obtain ⟨rfl,rfl⟩:=hl
    obtain ⟨q1,q2,q3⟩:=hR.slots t _ _ (fq hn ht)
    refine ⟨q1,fun q=>?_,q3⟩
    obtain ⟨hv,_⟩:=q2 q
    rw [hv]
    exact ⟨(none,lS (.slice none 0 0),sz),none,0,0,by rw [← hR.len]; simp,rfl,bf _,rfl⟩
   ·exact h1.slots u d c hl
def ID (r j el sz:Nat) (l:List C) (s:VS):VS:={ s with rs:=setAt s.rs r (.box (setAt l j (.sa s.rs.length 0)))++[.arr el sz 0 RF] }
theorem Goal.lj {r j el sz:Nat} {l:List C} (hr:aY s.rs r=some (.box l)) (hj:aY l j=some (.im (.v (.slice none 0 0)))) (g:Goal P T N b cs ro n0 fF todo (ID r j el sz l s)):Goal P T N b cs ro n0 fF todo s:=
 g.ghost fun aw w0 sp a w E dA vR hR hn=>by
  rw [bQ] at hr hj
  have h1:=hR.Dd el sz RF
  have hrl:r<s.rs.length:=(List.getElem?_eq_some_iff.1 hr).1
  have h2:=h1.swap (r:=r) (x:=.box l) (y:=.box (setAt l j (.sa s.rs.length 0))) (by
   show (s.rs++[_])[r]?=_
   rw [dQ hrl]; exact hr) (fun _=>trivial) (fun e av ⟨bb,vs,Tc,p1,p2,p3,p4⟩ _=>⟨bb,vs,Tc,p1,by rw [bm]; simpa using p2,p3,by
    rw [bm]
    refine az.vA (by simpa using p4.length) fun i x v hx hv=>?_
    rw [fb] at hx
    split at hx
    ·rename_i hji
     subst hji
     split at hx
     ·simp only [ak] at hx
      subst hx
      obtain ⟨hv2,_⟩:=p4.get hj hv
      rw [hv2]
      exact ⟨(none,lS (.slice none 0 0),sz),none,0,0,by rw [← hR.len]; simp,rfl,bf _,rfl⟩
     ·simp at hx
    ·exact p4.get hx hv⟩)
  refine ⟨E++[(none,lS (.slice none 0 0),sz)],?_,?_,hn⟩
  rotate_left
  ·have e:(s.rs++[ae.arr el sz 0 RF]).set r (.box (setAt l j (.sa s.rs.length 0)))=setAt s.rs r (.box (setAt l j (.sa s.rs.length 0)))++[.arr el sz 0 RF]:=by
    rw [bm,bm,List.set_append,if_pos hrl]
   have h2:R T N aw w0 sp { s with rs:=(s.rs++[ae.arr el sz 0 RF]).set r (.box (setAt l j (.sa s.rs.length 0))) } a w (E++[(none,lS (.slice none 0 0),sz)]):=h2
   rw [e] at h2
   exact h2
  ·rw [List.take_append_of_le_length (by rw [hR.len]; exact vR)]
def sV (q:Nat) (l:List Nat):Option Nat:=List.rec none (fun x _ ih=>Bool.rec (match ih with
 | some k=>some (k+1)
 | none=>none) (some 0) (Nat.beq x q)) l
def GP (π:List Nat) (l:List Nat):Option (List Nat):=List.rec (some []) (fun x _ ih=>match sV x π,ih with
 | some y,some r=>some (y::r)
 | _,_=>none) l
def Hb (π:List Nat) (c:C):Option C:=match c with
 | .im x=>some (.im x)
 | .rt r i j=>match sV r π with
   | some k=>some (.rt k i j)
   | none=>none
 | .sa r m=>match sV r π with
   | some k=>some (.sa k m)
   | none=>none
 | .mp r=>match sV r π with
   | some k=>some (.mp k)
   | none=>none
 | .yl r=>match sV r π with
   | some k=>some (.yl k)
   | none=>none
 | .ow r j=>match sV r π with
   | some k=>some (.ow k j)
   | none=>none
 | .ky f l=>match GP π l with
   | some l'=>some (.ky f l')
   | none=>none
def CI (π:List Nat) (l:List C):Option (List C):=List.rec (some []) (fun x _ ih=>match Hb π x,ih with
 | some y,some r=>some (y::r)
 | _,_=>none) l
def HH (π:List Nat) (d:D):Option D:=match d with
 | .c x=>match Hb π x with
   | some y=>some (.c y)
   | none=>none
 | .a l=>match CI π l with
   | some m=>some (.a m)
   | none=>none
 | .t []=>some (.t [])
 | .t _=>none
def wA (π:List Nat) (l:aG):Option aG:=List.rec (some []) (fun x _ ih=>match HH π x.2.1,ih with
 | some y,some r=>some ((x.1,y,x.2.2)::r)
 | _,_=>none) l
def II (π:List Nat) (x:Fc):Option Fc:=match x with
 | .c c=>match Hb π c with
   | some d=>some (.c d)
   | none=>none
 | .o x=>some (.o x)
def IM (π:List Nat) (l:List Fc):Option (List Fc):=List.rec (some []) (fun x _ ih=>match II π x,ih with
 | some y,some r=>some (y::r)
 | _,_=>none) l
def Ei (π:List Nat) (x:ae):Option ae:=match x with
 | .gy el sz n get (some x)=>match IM π x.2 with
   | some m=>some (.gy el sz n get (some (x.1,m)))
   | none=>none
 | .box l=>match CI π l with
   | some m=>some (.box m)
   | none=>none
 | .row el sz n l=>match CI π l with
   | some m=>some (.row el sz n m)
   | none=>none
 | .loop f N sl ps as bd st fe=>match wA π sl with
   | some fC=>some (.loop f N fC ps as bd st fe)
   | none=>none
 | x=>some x
def LI (π:List Nat) (rs:List ae) (l:List Nat):Option (List ae):=List.rec (some []) (fun q _ ih=>match aY rs q with
 | some x=>match Ei π x,ih with
   | some y,some r=>some (y::r)
   | _,_=>none
 | none=>none) l
def gI (l:List Nat):Bool:=List.rec true (fun x l ih=>Bool.rec ih false (mj x l)) l
def JF (n:Nat) (k:Nat):List Nat→Bool:=Nat.rec (fun _ _=>true) (fun _ ih k l=>match l with
 | x::l=>Bool.rec false (ih (k+1) l) (Nat.beq x k)
 | []=>false) n k
def Mg (n0:Nat) (π:List Nat) (s:VS):Option VS:=match wA π s.sl,LI π s.rs π,GP π s.df with
 | some sl,some rs,some df=>Bool.rec none (some ⟨sl,rs,df⟩) (gI π&&JF n0 0 π)
 | _,_,_=>none
theorem nw:∀ {l:List Nat} {q k:Nat},sV q l=some k→l[k]?=some q
 | [],q,k,h=>by simp [sV] at h
 | x::l,q,k,h=>by
   have h:(Bool.rec (match sV q l with
    | some k=>some (k+1)
    | none=>none) (some 0) (Nat.beq x q):Option Nat)=some k:=h
   cases hb:Nat.beq x q with
   | true=>
     rw [hb] at h
     simp only [ak] at h
     subst h
     rw [bs hb]; rfl
   | false=>
     rw [hb] at h
     simp only at h
     split at h
     ·rename_i k' hk
      simp only [ak] at h
      subst h
      simpa using nw hk
     ·simp at h
def jT (π:List Nat) (E:Env):Env:=π.map fun q=>E.getD q hole
theorem kU {π:List Nat} {k q:Nat} (h:π[k]?=some q) {e:gr} (he:E[q]?=some e):(jT π E)[k]?=some e:=by
 unfold jT
 rw [List.getElem?_map,h]
 simp [List.getD,he]
theorem Kt {π:List Nat} {k:Nat} {e:gr} (he:(jT π E)[k]?=some e) (CN:e≠hole):∃ q,π[k]?=some q∧E[q]?=some e:=by
 unfold jT at he
 rw [List.getElem?_map] at he
 cases hq:π[k]? with
 | none=>rw [hq] at he; simp at he
 | some q=>
   rw [hq] at he
   simp only [Option.map_some,ak] at he
   refine ⟨q,rfl,?_⟩
   cases hE:E[q]? with
   | none=>rw [List.getD,hE] at he; simp at he; exact (CN he.symm).elim
   | some e'=>rw [List.getD,hE] at he; simp at he; rw [he]
theorem pU {π:List Nat} {k q b sz:Nat} (h:sV q π=some k):a7 E q b sz→a7 (jT π E) k b sz:=fun ⟨hh,q1⟩=>⟨hh,kU (nw h) q1⟩
section
variable {π:List Nat} {av cF:Nat→Prop}
theorem CJ {E:Env}:∀ {l l':List Nat} {vs:List Value},GP π l=some l'→az (fun r x=>∃ b sz,a7 E r b sz∧x=.pointer (some ⟨b,0,none⟩)) l vs→az (fun r x=>∃ b sz,a7 (jT π E) r b sz∧x=.pointer (some ⟨b,0,none⟩)) l' vs
 | [],l',_,h,.nil=>by
   have h:some []=some l':=h
   simp only [ak] at h
   subst h; exact .nil
 | x::l,l',_,h,.cons q k=>by
   have h:(match sV x π,GP π l with
    | some y,some r=>some (y::r)
    | _,_=>none)=some l':=h
   split at h
   case h_2=>simp at h
   rename_i h1 h2
   simp only [ak] at h
   subst h
   obtain ⟨b,sz,q1,q2⟩:=q
   exact .cons ⟨b,sz,pU h1 q1,q2⟩ (CJ h2 k)
theorem Fk {E:Env}:∀ {l l':List Nat} {ds:List Deferred},GP π l=some l'→az (fun r (d:Deferred)=>∃ b sz,a7 E r b sz∧d={ target:=.collected b,args := #[] }) l ds→az (fun r (d:Deferred)=>∃ b sz,a7 (jT π E) r b sz∧d={ target:=.collected b,args := #[] }) l' ds
 | [],l',_,h,.nil=>by
   have h:some []=some l':=h
   simp only [ak] at h
   subst h; exact .nil
 | x::l,l',_,h,.cons q k=>by
   have h:(match sV x π,GP π l with
    | some y,some r=>some (y::r)
    | _,_=>none)=some l':=h
   split at h
   case h_2=>simp at h
   rename_i h1 h2
   simp only [ak] at h
   subst h
   obtain ⟨b,sz,q1,q2⟩:=q
   exact .cons ⟨b,sz,pU h1 q1,q2⟩ (Fk h2 k)
theorem vv (ha:∀ b,cF b→av b) {c c':C} {v:Value} (h:Hb π c=some c') (hv:aU E av w c v):aU (jT π E) cF w c' v:=by
 unfold Hb at h
 split at h
 ·simp only [ak] at h; subst h; exact cA.mono (aZ.refl _ w) (fun b _ q=>ha b q) hv
 ·split at h
  case h_2=>simp at h
  rename_i hk
  simp only [ak] at h; subst h
  obtain ⟨b,sz,h1,h2⟩:=hv
  exact ⟨b,sz,pU hk h1,h2⟩
 ·split at h
  case h_2=>simp at h
  rename_i hk
  simp only [ak] at h; subst h
  obtain ⟨e,ao,n,cap,h1,h2⟩:=hv
  exact ⟨e,ao,n,cap,kU (nw hk) h1,h2⟩
 ·split at h
  case h_2=>simp at h
  rename_i hk
  simp only [ak] at h; subst h
  obtain ⟨b,sz,h1,h2⟩:=hv
  exact ⟨b,sz,pU hk h1,h2⟩
 ·split at h
  case h_2=>simp at h
  rename_i hk
  simp only [ak] at h; subst h
  obtain ⟨b,sz,h1,h2⟩:=hv
  exact ⟨b,sz,pU hk h1,h2⟩
 ·split at h
  case h_2=>simp at h
  rename_i hk
  simp only [ak] at h; subst h
  obtain ⟨e,vs,h1,h2⟩:=hv
  exact ⟨e,vs,kU (nw hk) h1,h2⟩
 ·split at h
  case h_2=>simp at h
  rename_i hk
  simp only [ak] at h; subst h
  obtain ⟨vs,h1,h2⟩:=hv
  exact ⟨vs,h1,CJ hk h2⟩
theorem nJ (ha:∀ b,cF b→av b):∀ {l l':List C} {vs:List Value},CI π l=some l'→az (aU E av w) l vs→az (aU (jT π E) cF w) l' vs
 | [],l',_,h,.nil=>by
   have h:some []=some l':=h
   simp only [ak] at h
   subst h; exact .nil
 | x::l,l',_,h,.cons q k=>by
   have h:(match Hb π x,CI π l with
    | some y,some r=>some (y::r)
    | _,_=>none)=some l':=h
   split at h
   case h_2=>simp at h
   rename_i h1 h2
   simp only [ak] at h
   subst h
   exact .cons (vv ha h1 q) (nJ ha h2 k)
theorem Cr (ha:∀ b,cF b→av b) {d d':D} {v:Value} (h:HH π d=some d') (hv:aJ E av w d v):aJ (jT π E) cF w d' v:=by
 unfold HH at h
 split at h
 ·split at h
  case h_2=>simp at h
  rename_i hk
  simp only [ak] at h; subst h
  exact vv ha hk hv
 ·split at h
  case h_2=>simp at h
  rename_i hk
  simp only [ak] at h; subst h
  obtain ⟨vs,h1,h2⟩:=hv
  exact ⟨vs,h1,nJ ha hk h2⟩
 ·simp only [ak] at h; subst h
  obtain ⟨vs,h1,h2⟩:=hv
  cases h3:vs.toList with
  | nil=>exact ⟨vs,h1,by rw [h3]; exact .nil⟩
  | cons y l=>rw [h3] at h2; cases h2
 ·simp at h
theorem pk:∀ {sl fC:aG},wA π sl=some fC→∀ t d c,look fC t=some (d,c)→∃ d0,HH π d0=some d∧look sl t=some (d0,c)
 | [],fC,h,t,d,c,hl=>by
   have h:some []=some fC:=h
   simp only [ak] at h
   subst h; simp [look] at hl
 | x::sl,fC,h,t,d,c,hl=>by
   have h:(match HH π x.2.1,wA π sl with
    | some y,some r=>some ((x.1,y,x.2.2)::r)
    | _,_=>none)=some fC:=h
   split at h
   case h_2=>simp at h
   rename_i h1 h2
   simp only [ak] at h
   subst h
   obtain ⟨k,d1,c1⟩:=x
   simp only [look] at hl ⊢
   split at hl
   ·rename_i hb
    simp only [ak,a8] at hl
    obtain ⟨rfl,rfl⟩:=hl
    exact ⟨d1,h1,rfl⟩
   ·rename_i hb
    exact pk h2 t d c hl
theorem rH:∀ {sl fC:aG},wA π sl=some fC→bA sl→bA fC
 | [],fC,h,_=>by
   have h:some []=some fC:=h
   simp only [ak] at h
   subst h; exact fun x hx=>by cases hx
 | x::sl,fC,h,hn=>by
   have h:(match HH π x.2.1,wA π sl with
    | some y,some r=>some ((x.1,y,x.2.2)::r)
    | _,_=>none)=some fC:=h
   split at h
   case h_2=>simp at h
   rename_i h1 h2
   simp only [ak] at h
   subst h
   intro z hz
   rcases List.mem_cons.1 hz with rfl|hz
   ·exact hn x (dZ ..)
   ·exact rH h2 (fun y hy=>hn y (er _ hy)) z hz
theorem aM.UJ {E E':Env} {av cF:Nat→Prop} {base:Nat} {w:World} {e:gr} {x:ae} (ha:∀ b,cF b→av b) (hx:match x with
  | .gy _ _ _ _ none=>True
  | _=>False) (h:aM E av base w e x):aM E' cF base w e x:=by
 cases x with
 | gy el sz n get dK=>
   cases dK with
   | some y=>exact hx.elim
   | none=>
     obtain ⟨p1,p2,xs,p3,Ks,p4,pf,p5⟩:=h
     refine ⟨p1,p2,xs,p3,Ks,p4,pf,fun i hi j hj=>?_⟩
     obtain ⟨v,c,g1,g2,g3⟩:=p5 i hi j hj
     simp only [iL,ak] at g2
     subst g2
     exact ⟨v,_,g1,rfl,je.mono (aZ.refl _ w) (fun b _ q=>ha b q) (fun _ _=>rfl) g3⟩
 | _=>exact hx.elim
theorem w7:∀ {l m:List Fc},IM π l=some m→m.length=l.length∧∀ (j:Nat) (c:Fc),l[j]?=some c→∃ c',m[j]?=some c'∧II π c=some c'
 | [],m,h=>by
   have h:some []=some m:=h
   simp only [ak] at h
   subst h
   exact ⟨rfl,fun j c hc=>by simp at hc⟩
 | x::l,m,h=>by
   have h:(match II π x,IM π l with
    | some y,some r=>some (y::r)
    | _,_=>none)=some m:=h
   split at h
   case h_2=>simp at h
   rename_i y r h1 h2
   simp only [ak] at h
   subst h
   obtain ⟨h3,h4⟩:=w7 h2
   refine ⟨by simp [h3],fun j c hc=>?_⟩
   cases j with
   | zero=>simp at hc; subst hc; exact ⟨y,by simp,h1⟩
   | succ j=>simpa using h4 j c (by simpa using hc)
theorem IK (ha:∀ b,cF b→av b) {base:Nat} {c c':Fc} {K:Nat→Prop} {v:Value} (h:II π c=some c') (hv:ja E av base w c K v):ja (jT π E) cF base w c' K v:=by
 unfold II at h
 split at h
 ·split at h
  case h_2=>simp at h
  rename_i h1
  simp only [ak] at h; subst h
  exact vv ha h1 hv
 ·simp only [ak] at h; subst h
  exact je.mono (aZ.refl _ w) (fun b _ q=>ha b q) (fun _ _=>rfl) hv
theorem JZ (ha:∀ b,cF b→av b) {x y:ae} {base:Nat} {e:gr} (h:Ei π x=some y) (hx:aM E av base w e x):aM (jT π E) cF base w e y:=by
 unfold Ei at h
 split at h
 ·split at h
  case h_2=>simp at h
  rename_i x0 _ m hk
  simp only [ak] at h; subst h
  obtain ⟨h1,h2⟩:=w7 hk
  obtain ⟨p1,p2,xs,p3,Ks,p4,pf,p5⟩:=hx
  obtain ⟨f1,f2⟩:=pf _ rfl
  refine ⟨p1,p2,xs,p3,Ks,p4,fun x hx=>?_,fun i hi j hj=>?_⟩
  ·simp only [ak] at hx; subst hx; exact ⟨f1,h1.trans f2⟩
  ·obtain ⟨v,c,g1,g2,g3⟩:=p5 i hi j hj
   unfold iL at g2 ⊢
   cases hb:Nat.beq i x0.1 with
   | true=>
     simp only [hb,bc] at g2 ⊢
     obtain ⟨c',g4,g5⟩:=h2 j c g2
     exact ⟨v,c',g1,g4,IK ha g5 g3⟩
   | false=>
     simp only [hb,ak] at g2 ⊢
     subst g2
     exact ⟨v,_,g1,rfl,je.mono (aZ.refl _ w) (fun b _ q=>ha b q) (fun _ _=>rfl) g3⟩
 ·split at h
  case h_2=>simp at h
  rename_i hk
  simp only [ak] at h; subst h
  obtain ⟨b,cs,Tc,p1,p2,p3,p4⟩:=hx
  have h4:=nJ ha hk p4
  exact ⟨b,cs,Tc,p1,by rw [p2,p4.length,h4.length],p3,h4⟩
 ·split at h
  case h_2=>simp at h
  rename_i hk
  simp only [ak] at h; subst h
  obtain ⟨p1,p2,xs,p3,p4⟩:=hx
  exact ⟨p1,p2,xs,p3,nJ ha hk p4⟩
 ·split at h
  case h_2=>simp at h
  rename_i hk
  simp only [ak] at h; subst h
  obtain ⟨b,db,tm,p1,p2,p3,p4,p5⟩:=hx
  refine ⟨b,db,tm,p1,p2,p3,fun t d c hl=>?_,rH hk p5⟩
  obtain ⟨d0,q1,q2⟩:=pk hk t d c hl
  obtain ⟨s1,s2,s3⟩:=p4 t d0 c q2
  exact ⟨s1,fun q=>Cr ha q1 (s2 q),s3⟩
 ·rename_i n0 n1 n2 n3
  simp only [ak] at h; subst h
  cases x with
  | dead=>trivial
  | box l=>exact (n1 _ rfl).elim
  | row el sz n l=>exact (n2 _ _ _ _ rfl).elim
  | loop f N sl ps as bd st fe=>exact (n3 _ _ _ _ _ _ _ _ rfl).elim
  | gy el sz n get dK=>
    cases dK with
    | some x=>exact (n0 _ _ _ _ _ rfl).elim
    | none=>exact aM.UJ (x:=.gy el sz n get none) ha trivial hx
  | arr el sz n get=>
    obtain ⟨p1,p2,xs,p3,p4⟩:=hx
    refine ⟨p1,p2,xs,p3,fun i hi j hj=>?_⟩
    obtain ⟨x,p5,p6⟩:=p4 i hi j hj
    exact ⟨x,p5,cA.mono (aZ.refl _ w) (fun b _ q=>ha b q) p6⟩
  | own l=>
    obtain ⟨p1,p2,vs,p3,p4,Ks,p5,p6,p7⟩:=hx
    refine ⟨p1,p2,vs,p3,p4,Ks,p5,p6,fun i o ho=>?_⟩
    obtain ⟨v,g1,g2⟩:=p7 i o ho
    exact ⟨v,g1,je.mono (aZ.refl _ w) (fun b _ q=>ha b q) (fun _ _=>rfl) g2⟩
  | set l=>exact hx
  | l7=>exact hx
theorem xx {rs:List ae}:∀ {l:List Nat} {aE:List ae},LI π rs l=some aE→aE.length=l.length∧∀ (k:Nat) (y:ae),aE[k]?=some y→∃ q x,l[k]?=some q∧rs[q]?=some x∧Ei π x=some y
 | [],aE,h=>by
   have h:some []=some aE:=h
   simp only [ak] at h
   subst h
   exact ⟨rfl,fun k y hy=>by simp at hy⟩
 | q::l,aE,h=>by
   have h:(match aY rs q with
    | some x=>match Ei π x,LI π rs l with
      | some y,some r=>some (y::r)
      | _,_=>none
    | none=>none)=some aE:=h
   split at h
   case h_2=>simp at h
   rename_i x hx
   split at h
   case h_2=>simp at h
   rename_i y r h1 h2
   simp only [ak] at h
   subst h
   obtain ⟨h3,h4⟩:=xx h2
   refine ⟨by simp [h3],fun k z hz=>?_⟩
   cases k with
   | zero=>
     simp at hz
     subst hz
     rw [bQ] at hx
     exact ⟨q,x,rfl,hx,h1⟩
   | succ k=>simpa using h4 k z (by simpa using hz)
theorem HP {x y:ae} (h:Ei π x=some y):y.live→x.live:=by
 unfold Ei at h
 split at h
 ·exact fun _=>trivial
 ·exact fun _=>trivial
 ·exact fun _=>trivial
 ·exact fun _=>trivial
 ·simp only [ak] at h; subst h; exact id
theorem kf:∀ {l:List Nat},gI l=true→∀ (i j:Nat) (q:Nat),l[i]?=some q→l[j]?=some q→i=j
 | [],_,i,j,q,h,_=>by simp at h
 | x::l,h,i,j,q,h1,h2=>by
   have h:(Bool.rec (gI l) false (mj x l):Bool)=true:=h
   cases hb:mj x l with
   | true=>rw [hb] at h; simp at h
   | false=>
     rw [hb] at h
     have hx:x ∉ l:=fun q=>by rw [iK.2 q] at hb; simp at hb
     cases i with
     | zero=>
       cases j with
       | zero=>rfl
       | succ j=>
         simp at h1 h2
         subst h1
         exact (hx (List.mem_of_getElem? h2)).elim
     | succ i=>
       cases j with
       | zero=>
         simp at h1 h2
         subst h2
         exact (hx (List.mem_of_getElem? h1)).elim
       | succ j=>rw [kf h i j q (by simpa using h1) (by simpa using h2)]
theorem vf:∀ {n k:Nat} {l:List Nat},JF n k l=true→∀ i,i<n→l[i]?=some (k+i)
 | 0,k,l,_,i,hi=>by omega
 | n+1,k,[],h,i,hi=>by
   have h:(false:Bool)=true:=h
   simp at h
 | n+1,k,x::l,h,i,hi=>by
   obtain ⟨h1,h2⟩:=Bool.fU (show (Bool.rec false (JF n (k+1) l) (Nat.beq x k):Bool)=true from h)
   cases i with
   | zero=>simp [bs h1]
   | succ i=>
     have:=vf h2 i (by omega)
     rw [show k+(i+1)=k+1+i by omega]
     simpa using this
end
theorem R.renamed {π:List Nat} (h:Mg n0 π s=some s') (dA:∀ x∈sp,iR n0 x.1=true) (vR:n0≤s.rs.length) (hR:R T N aw w0 sp s a w E) (hn:bA s.sl):∃ E',E'.take n0=E.take n0∧R T N aw w0 sp s' a w E'∧bA s'.sl:=by
  unfold Mg at h
  split at h
  case h_2=>simp at h
  rename_i sl rs df FO Il Ie
  obtain ⟨hb,h⟩:=Bool.aq h
  simp only [cG] at hb
  simp only [ak] at h
  subst h
  obtain ⟨hlen,hget⟩:=xx Il
  have rN:=kf hb.1
  have hhead:=vf hb.2
  simp only [Nat.zero_add] at hhead
  have htake:(jT π E).take n0=E.take n0:=by
   apply List.ext_getElem?
   intro i
   rw [cN,cN]
   split
   ·rename_i hi
    have dp:i<E.length:=by rw [hR.len]; omega
    rw [kU (hhead i hi) (gj dp),gj dp]
   ·rfl
  have hinv:∀ {k b sz:Nat},di (jT π E) k b sz→∃ q,π[k]?=some q∧di E q b sz:=fun ⟨hh,q,g2,g3⟩=>by
   obtain ⟨q,h1,h2⟩:=Kt q (by rintro rfl; exact FG g3)
   exact ⟨q,h1,hh,h2,g2,g3⟩
  have key:∀ (k:Nat) (y:ae) (b sz:Nat),rs[k]?=some y→y.live→di (jT π E) k b sz→∃ q x,π[k]?=some q∧s.rs[q]?=some x∧x.live∧di E q b sz:=by
   intro k y b sz h1 h2 h3
   obtain ⟨q,x,h4,h5,h6⟩:=hget k y h1
   obtain ⟨q',h7,h8⟩:=hinv h3
   rw [h4] at h7
   simp only [ak] at h7
   subst h7
   exact ⟨q,x,h4,h5,HP h6 h2,h8⟩
  have eY:∀ b,AV aw rs (jT π E) b→AV aw s.rs E b:=by
   rintro b (q|⟨k,y,sz,h1,h2,h3⟩)
   ·exact .inl q
   ·obtain ⟨q,x,_,h5,h6,h7⟩:=key k y b sz h1 h2 h3
    exact .inr ⟨q,x,sz,h5,h6,h7⟩
  refine ⟨jT π E,htake,⟨hR.size,?_,fun x hx=>?_,hR.below,by simp [jT,hlen],hR.outer,?_,?_,?_,?_,hR.fL.mono (aZ.refl _ w) (fun b _ q=>eY b q)⟩,rH FO hn⟩
  ·exact Fk Ie hR.defers
  ·have h1:=aJ.shrink (Kept.kp E n0) (Em:=AV aw rs (jT π E)) (fun b q=>eY b q) (by rw [List.length_take,hR.len,Nat.min_eq_left vR]; exact dA x hx) (hR.spec x hx)
   rw [← htake] at h1
   exact aJ.mono (Kept.kp (jT π E) n0).le (aZ.refl _ w) (fun b _ q=>q) h1
  ·intro k y e h1 h2
   obtain ⟨q,x,h4,h5,h6⟩:=hget k y h1
   have dp:q<E.length:=by rw [hR.len]; exact (List.getElem?_eq_some_iff.1 h5).1
   have hE:=gj dp
   rw [kU h4 hE] at h2
   simp only [ak] at h2
   subst h2
   exact JZ eY h6 (hR.roots q x _ h5 hE)
  ·intro k y b sz h1 h2 h3
   obtain ⟨q,x,_,h5,h6,h7⟩:=key k y b sz h1 h2 h3
   exact hR.cT q x b sz h5 h6 h7
  ·intro k k' y y' b sz cj h1 lX h2 jf h3 l9
   obtain ⟨q,x,h4,h5,h6,h7⟩:=key k y b sz h1 h2 h3
   obtain ⟨q',x',h4',h5',h6',h7'⟩:=key k' y' b cj lX jf l9
   have:=hR.eP q q' x x' b sz cj h5 h5' h6 h6' h7 h7'
   subst this
   exact rN k k' q h4 h4'
  ·intro t d c hl
   obtain ⟨d0,q1,q2⟩:=pk FO t d c hl
   obtain ⟨s1,s2,s3⟩:=hR.slots t d0 c q2
   exact ⟨s1,fun q=>Cr eY q1 (s2 q),s3⟩
theorem Goal.rename (π:List Nat) (h:Mg n0 π s=some s') (g:Goal P T N b cs ro n0 fF todo s'):Goal P T N b cs ro n0 fF todo s:=
 g.ghost fun aw w0 sp a w E dA vR hR hn=>R.renamed h dA vR hR hn
end
section
variable {P:Program} {T:dn} {N:Nat} {aw:Nat→Prop} {w0:Kp} {sp:List (D×Value)} {s s':VS} {a:Act} {w w':World} {E E':Env} {f:FuncId} {b:Frame} {cs:List Frame} {ro:Option Nat} {n0:Nat} {fF:Option Code→VS→Prop} {todo:List Item}
def cw (x y:ae):Prop:=(y.live→x.live)∧∀ (base:Nat) (E:Env) (w:World) e av,aM E av base w e x→aM E av base w e y
theorem cw.refl (x:ae):cw x x:=⟨id,fun _ _ _ _ _ h=>h⟩
def eN (c c':C):Prop:=∀ (E:Env) (av:Nat→Prop) (w:World) (v:Value),aU E av w c v→aU E av w c' v
theorem eN.refl (c:C):eN c c:=fun _ _ _ _ h=>h
theorem eN.im {x y:I} (h:dP x y):eN (.im x) (.im y):=fun _ av w v q=>h av w v q
theorem eN.nil (sz:Nat) (get:Nat→Nat→I):eN (.im (.v (.slice none 0 0))) (.im (.sl sz 0 get)):=eN.im (dP.nil sz get)
theorem az.XL {E:Env} {av:Nat→Prop} {w:World}:∀ {l l':List C} {vs:List Value},az eN l l'→az (aU E av w) l vs→az (aU E av w) l' vs
 | _,_,_,.nil,.nil=>.nil
 | _,_,_,.cons q k,.cons q' k'=>.cons (q _ _ _ _ q') (az.XL k k')
theorem cw.box {l l':List C} (h:az eN l l'):cw (.box l) (.box l'):=⟨fun _=>trivial,fun base E w e av q=>by
 obtain ⟨b,vs,Tc,p1,p2,p3,p4⟩:=q
 have h4:=az.XL h p4
 exact ⟨b,vs,Tc,p1,by rw [p2,p4.length,h4.length],p3,h4⟩⟩
theorem cw.arr {el sz n:Nat} {get get':Nat→Nat→I} (h:∀ i,i<n→∀ j,j<sz→dP (get i j) (get' i j)):cw (.arr el sz n get) (.arr el sz n get'):=⟨fun _=>trivial,fun base E w e av q=>by
 obtain ⟨p1,p2,xs,p3,p4⟩:=q
 exact ⟨p1,p2,xs,p3,fun i hi j hj=>by
  obtain ⟨x,p5,p6⟩:=p4 i hi j hj
  exact ⟨x,p5,h i hi j hj _ _ _ p6⟩⟩⟩
theorem cw.dead (x:ae):cw x .dead:=⟨fun h=>h.elim,fun _ _ _ _ _ _=>trivial⟩
theorem cw.row {el sz n:Nat} {l:List C} {get:Nat→Nat→I} (h:∀ i,i<n→∀ j,j<sz→l[i*sz+j]?=some (.im (get i j))):cw (.row el sz n l) (.arr el sz n get):=⟨fun _=>trivial,fun base E w e av q=>OX q h⟩
theorem az.at_ {α β:Type} {Ra:α→β→Prop} {l:List α} {m:List β} (h:az Ra l m) {i:Nat} {y:β} (e:m[i]?=some y):∃ x,l[i]?=some x∧Ra x y:=by
 induction h generalizing i with
 | nil=>simp at e
 | cons q _ ih=>
   cases i with
   | zero=>simp at e; subst e; exact ⟨_,rfl,q⟩
   | succ i=>exact ih (by simpa using e)
theorem R.le (h:R T N aw w0 sp s a w E) (hn:bA s.sl) (h1:QN s.sl s'.sl) (h2:az cw s.rs s'.rs) (h3:s'.df=s.df):R T N aw w0 sp s' a w E:=by
 have key:∀ (q:Nat) (y:ae),s'.rs[q]?=some y→∃ x,s.rs[q]?=some x∧cw x y:=fun q y e=>h2.at_ e
 have eY:∀ b,AV aw s'.rs E b→AV aw s.rs E b:=by
  rintro b (q|⟨q,y,sz,g1,g2,g3⟩)
  ·exact .inl q
  ·obtain ⟨x,g4,g5⟩:=key q y g1
   exact .inr ⟨q,x,sz,g4,g5.1 g2,g3⟩
 have h':=h.zz (aE:=s'.rs) (Env.le_refl E) (aZ.refl _ w) h.below (fun b _ q=>eY b q) (by rw [h.len,h2.length]) (fun q y e g1 g2=>by
   obtain ⟨x,g4,g5⟩:=key q y g1
   exact g5.2 _ _ _ _ _ (aM.mono (Env.le_refl E) (aZ.refl _ w) (fun b _ q=>eY b q) (fun _ _ _=>rfl) (h.roots q x e g4 g2))) (fun q y b sz g1 g2 g3=>by
   obtain ⟨x,g4,g5⟩:=key q y g1
   exact h.cT q x b sz g4 (g5.1 g2) g3) (fun q q' y y' b sz cj g1 Tx g2 MI g3 Ri=>by
   obtain ⟨x,g4,g5⟩:=key q y g1
   obtain ⟨x',g4',g5'⟩:=key q' y' Tx
   exact h.eP q q' x x' b sz cj g4 g4' (g5.1 g2) (g5'.1 MI) g3 Ri)
 exact ⟨h'.size,by rw [h3]; exact h'.defers,h'.spec,h'.below,h'.len,h'.outer,h'.roots,h'.cT,h'.eP,fun t d c hl=>by
  obtain ⟨g1,d0,g2,g3⟩:=qb h1 _ (gV hl)
  have g1:c=[]:=g1
  subst g1
  obtain ⟨q1,q2,q3⟩:=h'.slots t d0 [] (fq hn g2)
  exact ⟨q1,fun q=>g3 _ _ _ _ (q2 q),q3⟩,h'.fL⟩
theorem Goal.le (h1:QN s.sl s'.sl) (h2:az cw s.rs s'.rs) (h3:s'.df=s.df) (g:Goal P T N b cs ro n0 fF todo s'):Goal P T N b cs ro n0 fF todo s:=
 Goal.ghost g fun aw w0 sp a w E dA vR hR hn=>⟨E,rfl,hR.le hn h1 h2 h3,fun x hx=>(qb h1 x hx).1⟩
end
open Go.RowKit
section
def np {α β:Type} (f:α→β) (l:List α):List β:=List.rec [] (fun x _ ih=>f x::ih) l
theorem gw {α β:Type} (f:α→β) (l:List α):np f l=l.map f:=by
 induction l with
 | nil=>rfl
 | cons x l ih=>exact congrArg (f x::·) ih
def mb (π:List Nat) (n i:Nat):Nat:=match aY π i with
 | some q=>q
 | none=>n+(i-π.length)
def CL (ρ:Nat→Nat) (c:C):C:=match c with
 | .im x=>.im x
 | .rt r i j=>.rt (ρ r) i j
 | .sa r m=>.sa (ρ r) m
 | .mp r=>.mp (ρ r)
 | .ky f l=>.ky f (np ρ l)
 | .yl r=>.yl (ρ r)
 | .ow r j=>.ow (ρ r) j
def Fv (ρ:Nat→Nat) (d:D):D:=match d with
 | .c x=>.c (CL ρ x)
 | .a l=>.a (np (CL ρ) l)
 | .t l=>.t (np (fun x=>(x.1,np (CL ρ) x.2)) l)
def HZ (ρ:Nat→Nat) (l:aG):aG:=np (fun x=>(x.1,Fv ρ x.2.1,x.2.2)) l
def W5 (ρ:Nat→Nat) (x:Fc):Fc:=match x with
 | .c x=>.c (CL ρ x)
 | .o x=>.o x
def vW (ρ:Nat→Nat) (x:ae):ae:=match x with
 | .box l=>.box (np (CL ρ) l)
 | .row el sz n l=>.row el sz n (np (CL ρ) l)
 | .loop f N sl ps as bd st fe=>.loop f N (HZ ρ sl) ps as bd st fe
 | .dead=>.dead
 | .arr el sz n get=>.arr el sz n get
 | .gy el sz n get none=>.gy el sz n get none
 | .gy el sz n get (some x)=>.gy el sz n get (some (x.1,np (W5 ρ) x.2))
 | .own l=>.own l
 | .set l=>.set l
 | .l7=>.l7
def qR (ρ:Nat→Nat) (π:List Nat):List ae→List ae→List ae→List ae:=List.rec (fun _ aE RS=>RS++np (vW ρ) aE) (fun q _ ih rs aE RS=>match rs,aE with
 | x::rs,y::aE=>match x with
   | .dead=>ih rs aE RS
   | _=>ih rs aE (setAt RS q (vW ρ y))
 | _,_=>[]) π
def Uy (ρ:Nat→Nat) (RS:List ae) (q:Nat) (x y:ae):Prop:=match x with
 | .dead=>y=.dead
 | x=>aY RS q=some (vW ρ x)
def Gw (ρ:Nat→Nat) (RS:List ae) (π:List Nat):List ae→List ae→Prop:=List.rec (fun rs _=>rs=[]) (fun q _ ih rs aE=>match rs,aE with
 | x::rs,y::aE=>Uy ρ RS q x y∧q<RS.length∧ih rs aE
 | _,_=>False) π
end
section
variable {e E:Env} {av:Nat→Prop} {w:World} {ρ:Nat→Nat}
theorem az.kV {α β γ:Type} {S:β→γ→Prop} {f:α→β}:∀ {l:List α} {m:List γ},az S (l.map f) m↔az (fun x y=>S (f x) y) l m
 | [],m=>⟨fun h=>by cases h; exact .nil,fun h=>by cases h; exact .nil⟩
 | x::l,m=>⟨fun h=>by cases h with|cons a b=>exact .cons a (az.kV.1 b),fun h=>by cases h with|cons a b=>exact .cons a (az.kV.2 b)⟩
theorem az.iff {α β:Type} {R S:α→β→Prop} (h:∀ x y,R x y↔S x y) {l:List α} {m:List β}:az R l m↔az S l m:=⟨fun k=>k.mono fun x y=>(h x y).1,fun k=>k.mono fun x y=>(h x y).2⟩
def jm (e E:Env) (ρ:Nat→Nat):Prop:=∀ i,(e[i]?).map (fun x:gr=>x.wk fun _=>False)=(E[ρ i]?).map fun x:gr=>x.wk fun _=>False
theorem jm.of {e E:Env} {ρ:Nat→Nat} (h:∀ i,e[i]?=E[ρ i]?):jm e E ρ:=fun i=>by rw [h i]
theorem GK {x y:gr} {o:Option gr} (h:o=some x) {p:Option gr} (hp:o.map (fun x:gr=>x.wk fun _=>False)=p.map fun x:gr=>x.wk fun _=>False):∃ K,p=some (x.wk K):=by
 subst h
 cases p with
 | none=>simp at hp
 | some y=>
   simp only [Option.map_some,ak] at hp
   obtain ⟨y1,⟨y2,y3⟩,y4⟩:=y
   simp only [gr.wk,a8] at hp
   obtain ⟨h1,⟨h2,_⟩,h3⟩:=hp
   exact ⟨y3,by simp only [gr.wk,h1,h2,h3]⟩
theorem jm.to {e E:Env} {ρ:Nat→Nat} (he:jm e E ρ) {r:Nat} {x:gr} (h:e[r]?=some x):∃ K,E[ρ r]?=some (x.wk K):=GK (y:=x) h (he r)
theorem jm.back {e E:Env} {ρ:Nat→Nat} (he:jm e E ρ) {r:Nat} {x:gr} (h:E[ρ r]?=some x):∃ K,e[r]?=some (x.wk K):=GK (y:=x) h (he r).symm
theorem GL (he:jm e E ρ) {r b sz:Nat}:a7 e r b sz↔a7 E (ρ r) b sz:=by
 constructor
 ·rintro ⟨h,q⟩
  obtain ⟨K,q⟩:=he.to q
  exact ⟨(h.1,K),q⟩
 ·rintro ⟨h,q⟩
  obtain ⟨K,q⟩:=he.back q
  exact ⟨(h.1,K),q⟩
theorem SJ (he:∀ i,e[i]?=E[ρ i]?) {r b sz:Nat}:di e r b sz↔di E (ρ r) b sz:=by
 unfold di; rw [he]
theorem qy (he:jm e E ρ) {c:C} {v:Value}:aU e av w c v↔aU E av w (CL ρ c) v:=by
 cases c with
 | im x=>exact Iff.rfl
 | rt r i j=>simp only [aU,CL,GL he]
 | sa r m=>
   simp only [aU,CL]
   constructor
   ·rintro ⟨x,a,n,cap,h1,h2,h3⟩
    obtain ⟨K,h1⟩:=he.to h1
    exact ⟨_,a,n,cap,h1,h2,h3⟩
   ·rintro ⟨x,a,n,cap,h1,h2,h3⟩
    obtain ⟨K,h1⟩:=he.back h1
    exact ⟨_,a,n,cap,h1,h2,h3⟩
 | mp r=>simp only [aU,CL,GL he]
 | yl r=>simp only [aU,CL,GL he]
 | ow r j=>
   simp only [aU,CL]
   constructor
   ·rintro ⟨x,vs,h1,h2,h3⟩
    obtain ⟨K,h1⟩:=he.to h1
    exact ⟨_,vs,h1,h2,h3⟩
   ·rintro ⟨x,vs,h1,h2,h3⟩
    obtain ⟨K,h1⟩:=he.back h1
    exact ⟨_,vs,h1,h2,h3⟩
 | ky f l=>simp only [aU,CL,gw,az.kV,GL he]
theorem qN (he:jm e E ρ) {l:List C} {m:List Value}:az (aU e av w) l m↔az (aU E av w) (np (CL ρ) l) m:=by
 rw [gw,az.kV]
 exact az.iff fun x y=>qy he
theorem tc (he:jm e E ρ) {d:D} {v:Value}:aJ e av w d v↔aJ E av w (Fv ρ d) v:=by
 cases d with
 | c x=>exact qy he
 | a l=>simp only [aJ,Fv,qN he]
 | t l=>
   simp only [aJ,Fv,gw (fun x:Bool×List C=>(x.1,np (CL ρ) x.2)),az.kV]
   refine exists_congr fun vs=>and_congr Iff.rfl (az.iff fun x y=>?_)
   obtain ⟨b,l⟩:=x
   cases b with
   | true=>simp only [qN he]
   | false=>
     simp only
     constructor
     ·rintro ⟨c,rfl,h⟩
      exact ⟨CL ρ c,rfl,(qy he).1 h⟩
     ·rintro ⟨c,h1,h⟩
      rw [gw] at h1
      match l,h1 with
      | [c0],h1=>
        simp only [List.map_cons,List.map_nil,List.cons.injEq,and_true] at h1
        subst h1
        exact ⟨c0,rfl,(qy he).2 h⟩
      | [],h1=>simp at h1
      | _::_::_,h1=>simp at h1
theorem JQ (he:jm e E ρ) {l:List D} {m:List Value}:az (aJ e av w) l m↔az (aJ E av w) (np (Fv ρ) l) m:=by
 rw [gw,az.kV]
 exact az.iff fun x y=>tc he
theorem zj:∀ {sl:aG} {t:Tmp},look (HZ ρ sl) t=(look sl t).map fun x=>(Fv ρ x.1,x.2)
 | [],t=>rfl
 | (k,d,c)::sl,t=>by
   show look ((k,Fv ρ d,c)::HZ ρ sl) t=_
   simp only [look]
   split
   ·rfl
   ·exact zj
theorem JN {sl:aG}:(∀ x∈HZ ρ sl,x.2.2=[])↔∀ x∈sl,x.2.2=[]:=by
 unfold HZ
 rw [gw]
 refine ⟨fun h x hx=>?_,fun h y hy=>?_⟩
 ·have:=h _ (List.mem_map.2 ⟨x,hx,rfl⟩)
  exact this
 ·obtain ⟨x,hx,rfl⟩:=List.mem_map.1 hy
  exact h x hx
theorem Bx (he:jm e E ρ) {N:Nat} {sl:aG} {tm:Array Value}:gu e av w N sl tm↔gu E av w N (HZ ρ sl) tm:=by
 constructor
 ·intro h t d c hl
  rw [zj] at hl
  cases hx:look sl t with
  | none=>rw [hx] at hl; simp at hl
  | some x=>
    rw [hx] at hl
    simp only [Option.map_some,ak,a8] at hl
    obtain ⟨rfl,rfl⟩:=hl
    obtain ⟨q1,q2,q3⟩:=h t x.1 x.2 hx
    exact ⟨q1,fun q=>(tc he).1 (q2 q),q3⟩
 ·intro h t d c hl
  obtain ⟨q1,q2,q3⟩:=h t (Fv ρ d) c (by rw [zj,hl]; rfl)
  exact ⟨q1,fun q=>(tc he).2 (q2 q),q3⟩
theorem vw {α β:Type} (f:α→β) (l:List α):(np f l).length=l.length:=by rw [gw]; simp
theorem uP (he:jm e E ρ) {base:Nat} {vS:gr} {x:ae}:aM e av base w vS x↔aM E av base w vS (vW ρ x):=by
 cases x with
 | dead=>exact Iff.rfl
 | box l=>simp only [aM,vW,vw,qN he]
 | arr el sz n get=>exact Iff.rfl
 | row el sz n l=>simp only [aM,vW,qN he]
 | gy el sz n get dK=>
   have hF:∀ {c:Fc} {K:Nat→Prop} {v:Value},ja e av base w c K v↔ja E av base w (W5 ρ c) K v:=fun {c K v}=>by
    cases c with
    | c x=>exact qy he
    | o x=>exact Iff.rfl
   cases dK with
   | none=>
     constructor<;>rintro ⟨p1,p2,xs,p3,Ks,p4,pf,p5⟩<;>refine ⟨p1,p2,xs,p3,Ks,p4,pf,fun i hi j hj=>?_⟩<;>obtain ⟨v,c,g1,g2,g3⟩:=p5 i hi j hj<;>(simp only [iL,ak] at g2; subst g2; exact ⟨v,_,g1,rfl,g3⟩)
   | some x=>
     constructor
     ·rintro ⟨p1,p2,xs,p3,Ks,p4,pf,p5⟩
      obtain ⟨f1,f2⟩:=pf _ rfl
      refine ⟨p1,p2,xs,p3,Ks,p4,fun y hy=>?_,fun i hi j hj=>?_⟩
      ·simp only [ak] at hy; subst hy; exact ⟨f1,by rw [vw]; exact f2⟩
      ·obtain ⟨v,c,g1,g2,g3⟩:=p5 i hi j hj
       unfold iL at g2 ⊢
       cases hb:Nat.beq i x.1 with
       | true=>
         simp only [hb,bc] at g2 ⊢
         exact ⟨v,W5 ρ c,g1,by rw [gw,List.getElem?_map,g2]; rfl,hF.1 g3⟩
       | false=>
         simp only [hb,ak] at g2 ⊢
         subst g2
         exact ⟨v,_,g1,rfl,g3⟩
     ·rintro ⟨p1,p2,xs,p3,Ks,p4,pf,p5⟩
      obtain ⟨f1,f2⟩:=pf _ rfl
      refine ⟨p1,p2,xs,p3,Ks,p4,fun y hy=>?_,fun i hi j hj=>?_⟩
      ·simp only [ak] at hy; subst hy; exact ⟨f1,by rw [vw] at f2; exact f2⟩
      ·obtain ⟨v,c,g1,g2,g3⟩:=p5 i hi j hj
       unfold iL at g2 ⊢
       cases hb:Nat.beq i x.1 with
       | true=>
         simp only [hb,bc,gw,List.getElem?_map] at g2 ⊢
         cases hc:x.2[j]? with
         | none=>rw [hc] at g2; simp at g2
         | some c0=>
           rw [hc] at g2
           simp only [Option.map_some,ak] at g2
           subst g2
           exact ⟨v,c0,g1,rfl,hF.2 g3⟩
       | false=>
         simp only [hb,ak] at g2 ⊢
         subst g2
         exact ⟨v,_,g1,rfl,g3⟩
 | own l=>exact Iff.rfl
 | set l=>exact Iff.rfl
 | l7=>exact Iff.rfl
 | loop f N sl ps as bd st fe=>
   simp only [aM,vW,Bx he,JN]
theorem iU {x:ae}:(vW ρ x).live↔x.live:=by
 cases x with
 | gy el sz n get dK=>cases dK<;>exact Iff.rfl
 | _=>exact Iff.rfl
end
structure Yl (ρ:Nat→Nat) (π:List Nat) (rs aE RS KE:List ae):Prop where
 wa:π.length=rs.length
 lt:∀ q∈π,q<RS.length
 len:rs.length≤aE.length
 len':KE.length=RS.length+(aE.length-rs.length)
 Tu:∀ (i:Nat) (x:ae),rs[i]?=some x→x.live→∃ q y,π[i]?=some q∧RS[q]?=some (vW ρ x)∧aE[i]?=some y∧KE[q]?=some (vW ρ y)
 out:∀ q:Nat,q<RS.length→(∀ (i:Nat) (x:ae),rs[i]?=some x→x.live→π[i]?≠some q)→KE[q]?=RS[q]?
 new:∀ j:Nat,KE[RS.length+j]?=(aE[rs.length+j]?).map (vW ρ)
 dead:∀ i:Nat,rs[i]?=some .dead→aE[i]?=some .dead
theorem nB {ρ:Nat→Nat}:∀ {π:List Nat} {rs aE RS He:List ae},gI π=true→RS.length=He.length→(∀ q∈π,RS[q]?=He[q]?)→Gw ρ He π rs aE→
  Yl ρ π rs aE RS (qR ρ π rs aE RS)
 | [],rs,aE,RS,He,_,_,_,h=>by
   have h:rs=[]:=h
   subst h
   have e:qR ρ [] [] aE RS=RS++aE.map (vW ρ):=by rw [← gw]; rfl
   rw [e]
   refine ⟨rfl,fun q hq=>(by cases hq),bB _,(by simp),fun i x hx=>(by simp at hx),fun q hq _=>dQ hq,fun j=>?_,fun i hi=>(by simp at hi)⟩
   rw [gG (Nat.le_add_right _ _)]
   simp
 | q::π,rs,aE,RS,He,rN,hl,tn,h=>by
   have hnd0:gI (q::π)=true:=rN
   have hnd1:(Bool.rec (gI π) false (mj q π):Bool)=true:=rN
   have hq:q ∉ π:=fun hm=>by rw [iK.2 hm] at hnd1; simp at hnd1
   have hnd2:gI π=true:=by
    cases hb:mj q π with
    | true=>exact (hq (iK.1 hb)).elim
    | false=>rw [hb] at hnd1; exact hnd1
   match rs,aE,h with
   | x::rs,y::aE,h=>
     obtain ⟨h1,h2,h3⟩:Uy ρ He q x y∧q<He.length∧Gw ρ He π rs aE:=h
     by_cases hx:x.live
     ·have e:qR ρ (q::π) (x::rs) (y::aE) RS=qR ρ π rs aE (RS.set q (vW ρ y)):=by
       rw [← bm]
       cases x<;>first|exact hx.elim|rfl
      have h1:He[q]?=some (vW ρ x):=by
       rw [← bQ]
       cases x<;>first|exact hx.elim|exact h1
      have ih:=nB (RS:=RS.set q (vW ρ y)) (He:=He) hnd2 (by simpa using hl) (fun k hk=>by
       have:k≠q:=fun e=>hq (e▸hk)
       rw [fb,if_neg (fun e=>this e.symm)]
       exact tn k (er _ hk)) h3
      rw [e]
      have hqout:∀ (i:Nat) (z:ae),rs[i]?=some z→z.live→π[i]?≠some q:=fun i z _ _ hp=>hq (List.mem_of_getElem? hp)
      have hql:q<RS.length:=by rw [hl]; exact h2
      refine ⟨by simp [ih.wa],fun k hk=>?_,by simpa using ih.len,?_,fun i z hz th=>?_,fun k hk hout=>?_,fun j=>?_,fun i hi=>?_⟩
      ·rcases List.mem_cons.1 hk with rfl|hk
       ·exact hql
       ·simpa using ih.lt k hk
      ·rw [ih.len']; simp
      ·cases i with
       | zero=>
         simp at hz
         subst hz
         refine ⟨q,y,rfl,by rw [tn q (dZ ..)]; exact h1,rfl,?_⟩
         rw [ih.out q (by simpa using hql) hqout,fb,if_pos rfl,if_pos hql]
       | succ i=>
         obtain ⟨k,z',p1,p2,p3,p4⟩:=ih.Tu i z (by simpa using hz) th
         refine ⟨k,z',by simpa using p1,?_,by simpa using p3,p4⟩
         have:q≠k:=fun e=>hq (e▸List.mem_of_getElem? p1)
         rwa [fb,if_neg this] at p2
      ·have CN:q≠k:=fun e=>hout 0 x rfl hx (by simp [e])
       rw [ih.out k (by simpa using hk) (fun i z hz th hp=>hout (i+1) z (by simpa using hz) th (by simpa using hp)),fb,if_neg CN]
      ·have:=ih.new j
       simp only [List.length_set] at this
       rw [this,show (x::rs).length+j=(rs.length+j)+1 by simp; omega]
       simp
      ·cases i with
       | zero=>simp at hi; subst hi; exact hx.elim
       | succ i=>simpa using ih.dead i (by simpa using hi)
     ·have hx:x=.dead:=by cases x<;>first|rfl|exact (hx trivial).elim
      subst hx
      have h1:y=.dead:=h1
      subst h1
      have ih:=nB (RS:=RS) (He:=He) hnd2 hl (fun k hk=>tn k (er _ hk)) h3
      show Yl ρ (q::π) (.dead::rs) (.dead::aE) RS (qR ρ π rs aE RS)
      refine ⟨by simp [ih.wa],fun k hk=>?_,by simpa using ih.len,?_,fun i z hz th=>?_,fun k hk hout=>?_,fun j=>?_,fun i hi=>?_⟩
      ·rcases List.mem_cons.1 hk with rfl|hk
       ·rw [hl]; exact h2
       ·exact ih.lt k hk
      ·rw [ih.len']; simp
      ·cases i with
       | zero=>simp at hz; subst hz; exact th.elim
       | succ i=>
         obtain ⟨k,z',p1,p2,p3,p4⟩:=ih.Tu i z (by simpa using hz) th
         exact ⟨k,z',by simpa using p1,p2,by simpa using p3,p4⟩
      ·exact ih.out k hk fun i z hz th hp=>hout (i+1) z (by simpa using hz) th (by simpa using hp)
      ·rw [ih.new j,show (ae.dead::rs).length+j=(rs.length+j)+1 by simp; omega]
       simp
      ·cases i with
       | zero=>rfl
       | succ i=>simpa using ih.dead i (by simpa using hi)
   | [],_,h=>exact h.elim
   | _::_,[],h=>exact h.elim
section
variable {P:Program} {T:dn} {f:FuncId} {ds:List D} {rs aE RS KE:List ae} {d:D}
theorem cl.YC {π:List Nat} (h:cl T P f ds rs d aE) (rN:gI π=true) (hF:Yl (mb π RS.length) π rs aE RS KE):cl T P f (np (Fv (mb π RS.length)) ds) RS (Fv (mb π RS.length) d) KE:=by
 refine ⟨h.out.1,?_⟩
 intro N aw w0 sp sl df a w E VS hR hv
 have hndp:=kf rN
 let ρ:=mb π RS.length
 have hEl:E.length=RS.length:=hR.len
 have rho_in:∀ {i q:Nat},π[i]?=some q→ρ i=q:=fun {i q} hi=>by
  show mb π RS.length i=q
  unfold mb; rw [bQ,hi]
 have rho_out:∀ {i:Nat},π.length≤i→ρ i=RS.length+(i-π.length):=fun {i} hi=>by
  show mb π RS.length i=_
  unfold mb; rw [bQ,List.getElem?_eq_none hi]
 let e:=jT π E
 have hel:e.length=rs.length:=by show (jT π E).length=_; unfold jT; simp [hF.wa]
 have he:∀ i,e[i]?=E[ρ i]?:=by
  intro i
  rcases Nat.lt_or_ge i π.length with hi|hi
  ·have hq:=gj hi
   have dp:π[i]<E.length:=by rw [hEl]; exact hF.lt _ (List.getElem_mem hi)
   rw [rho_in hq,gj dp]
   exact kU hq (gj dp)
  ·rw [rho_out hi,List.getElem?_eq_none (by rw [hel,← hF.wa]; exact hi),List.getElem?_eq_none (by omega)]
 let own:Nat→Prop:=fun b=>∃ i x sz,rs[i]?=some x∧x.live∧di e i b sz
 let k0:Kp:=⟨w,w0.base,own⟩
 let av1:Nat→Prop:=fun b=>AV aw RS E b∧¬ own b
 have D4:∀ {i:Nat} {x:ae} {b sz:Nat},rs[i]?=some x→x.live→di e i b sz→∃ q,π[i]?=some q∧RS[q]?=some (vW ρ x)∧(vW ρ x).live∧di E q b sz:=by
  intro i x b sz h1 h2 h3
  obtain ⟨q,y,p1,p2,_⟩:=hF.Tu i x h1 h2
  refine ⟨q,p1,p2,iU.2 h2,?_⟩
  have:=(SJ he).1 h3
  rwa [rho_in p1] at this
 have hownAV:∀ {b:Nat},own b→AV aw RS E b∧w0.In b∧b<w.heap.size:=by
  rintro b ⟨i,x,sz,h1,h2,h3⟩
  obtain ⟨q,_,p2,p3,p4⟩:=D4 h1 h2 h3
  exact ⟨.inr ⟨q,_,sz,p2,p3,p4⟩,hR.cT q _ b sz p2 p3 p4⟩
 have hAVlt:∀ {b:Nat},AV aw RS E b→b<w.heap.size:=by
  rintro b (q|⟨q,x,sz,h1,h2,h3⟩)
  ·exact hR.iQ q
  ·exact (hR.cT q x b sz h1 h2 h3).2
 have hav0:∀ {b:Nat},aw b→¬ own b:=fun {b} q ho=>(hR.outer b q).2 ((hownAV ho).2.1.own (hR.outer b q).1)
 have avEq:AV av1 rs e=AV aw RS E:=by
  funext b
  refine propext ⟨?_,fun q=>?_⟩
  ·rintro (q|⟨i,x,sz,h1,h2,h3⟩)
   ·exact q.1
   ·exact (hownAV ⟨i,x,sz,h1,h2,h3⟩).1
  ·by_cases ho:own b
   ·obtain ⟨i,x,sz,h1,h2,h3⟩:=ho
    exact .inr ⟨i,x,sz,h1,h2,h3⟩
   ·exact .inl ⟨q,ho⟩
 have hsmall:R T 0 av1 k0 [] ⟨[],rs,[]⟩ { tmps := #[],defers:=[] } w e:=by
  refine ⟨rfl,.nil,fun _ hx=>(by cases hx),⟨rfl,rfl,rfl,bf _,hR.below.base,fun _ _ _=>rfl⟩,hel,fun b q=>⟨hAVlt q.1,q.2⟩,?_,?_,?_,fun t d c h1=>(by simp [look] at h1),?_⟩
  ·intro i x vS h1 h2
   by_cases hx:x.live
   ·obtain ⟨q,y,p1,p2,_⟩:=hF.Tu i x h1 hx
    have h2:e[i]?=some vS:=h2
    rw [he,rho_in p1] at h2
    show aM e (AV av1 rs e) w0.base w vS x
    rw [avEq]
    exact (uP (jm.of he)).2 (hR.roots q _ vS p2 h2)
   ·have hx:x=.dead:=by cases x<;>first|rfl|exact (hx trivial).elim
    subst hx; trivial
  ·intro i x b sz h1 h2 h3
   obtain ⟨_,q1,q2⟩:=hownAV ⟨i,x,sz,h1,h2,h3⟩
   exact ⟨⟨q1.base,fun _=>⟨i,x,sz,h1,h2,h3⟩⟩,q2⟩
  ·intro i j x y b sz cj h1 lX h2 jf h3 l9
   obtain ⟨q,p1,p2,p3,p4⟩:=D4 h1 h2 h3
   obtain ⟨q',p1',p2',p3',p4'⟩:=D4 lX jf l9
   have:=hR.eP q q' _ _ b sz cj p2 p2' p3 p3' p4 p4'
   subst this
   exact hndp i j q p1 p1'
  ·show mf T (AV av1 rs e) w
   rw [avEq]; exact hR.fL
 have oh:az (aJ e (AV av1 rs e) w) ds VS:=by
  rw [avEq]
  exact (JQ (jm.of he)).2 hv
 refine (h.out.2 0 av1 k0 [] [] [] _ w e VS hsmall oh).mono ?_
 rintro en w' ⟨v,e',rfl,hk,rJ,hd⟩
 have hel':e'.length=aE.length:=rJ.len
 have hge:rs.length≤e'.length:=by rw [← hel]; exact hk.len
 let live:Nat→Nat→Prop:=fun i q=>(∃ x:ae,rs[i]?=some x∧x.live)∧π[i]?=some q
 have hlive:∀ {i j q:Nat},live i q→live j q→i=j:=fun {i j q} h1 h2=>hndp i j q h1.2 h2.2
 open Classical in
 let val:Nat→gr→gr:=fun q x=>if h:∃ i,live i q then e'.getD (Classical.choose h) x else x
 let E':Env:=E.mapIdx val++e'.drop rs.length
 have hE'q:∀ {q:Nat},q<RS.length→E'[q]?=(E[q]?).map (val q):=fun {q} hq=>by
  show (E.mapIdx val++e'.drop rs.length)[q]?=_
  rw [dQ (by rw [List.length_mapIdx,hEl]; exact hq),List.getElem?_mapIdx]
 have hE'live:∀ {i q:Nat},live i q→E'[q]?=e'[i]?:=fun {i q} hq=>by
  obtain ⟨⟨x,h1,h2⟩,h3⟩:=hq
  have dp:q<RS.length:=hF.lt _ (List.mem_of_getElem? h3)
  have hex:∃ i,live i q:=⟨i,⟨x,h1,h2⟩,h3⟩
  have hi:i<e'.length:=Nat.lt_of_lt_of_le (List.getElem?_eq_some_iff.1 h1).1 hge
  rw [hE'q dp,gj (by rw [hEl]; exact dp)]
  simp only [Option.map_some,val]
  rw [dif_pos hex,hlive (Classical.choose_spec hex) ⟨⟨x,h1,h2⟩,h3⟩,List.getD_eq_getElem?_getD,gj hi]
  rfl
 have hE'in:∀ {q:Nat},q<RS.length→(¬ ∃ i,live i q)→E'[q]?=E[q]?:=fun {q} hq hn=>by
  rw [hE'q hq,gj (by rw [hEl]; exact hq)]
  simp only [Option.map_some,val]
  rw [dif_neg hn]
 have hE'new:∀ j:Nat,E'[RS.length+j]?=e'[rs.length+j]?:=fun j=>by
  show (E.mapIdx val++e'.drop rs.length)[RS.length+j]?=_
  rw [gG (by rw [List.length_mapIdx]; omega),List.getElem?_drop,List.length_mapIdx]
  congr 1; omega
 have heq:∀ {i q:Nat},live i q→e[i]?=E[q]?:=fun {i q} hq=>by rw [he,rho_in hq.2]
 have hEle:Env.le E E':=fun q x h1 h2=>by
  have dp:q<RS.length:=by rw [← hEl]; exact (List.getElem?_eq_some_iff.1 h1).1
  by_cases hex:∃ i,live i q
  ·obtain ⟨i,hi⟩:=hex
   rw [hE'live hi]
   exact hk.le i x (by rw [heq hi]; exact h1) h2
  ·rw [hE'in dp hex]; exact ⟨x.2.1.2,h1,h2⟩
 have hkept:Kept E E':=⟨hEle,fun q h1=>by
  have dp:q<RS.length:=by rw [← hEl]; exact (List.getElem?_eq_some_iff.1 h1).1
  by_cases hex:∃ i,live i q
  ·obtain ⟨i,hi⟩:=hex
   rw [hE'live hi]
   exact hk.free i (by rw [heq hi]; exact h1)
  ·rw [hE'in dp hex]; exact h1⟩
 have hnk:∀ {F G:Env} {i:Nat},Kept F G→i<F.length→(G[i]?).map (fun x:gr=>x.wk fun _=>False)=(F[i]?).map fun x:gr=>x.wk fun _=>False:=fun {F G i} hFG hi=>by
  have h1:=gj hi
  by_cases h2:F[i]=hole
  ·rw [h2] at h1; rw [h1,hFG.free i h1]
  ·obtain ⟨K,h3,_⟩:=hFG.le i _ h1 h2
   rw [h3,h1]; rfl
 have he':jm e' E' ρ:=by
  intro i
  rcases Nat.lt_or_ge i π.length with hi|hi
  ·have hq:=gj hi
   have dp:π[i]<RS.length:=hF.lt _ (List.getElem_mem hi)
   rw [rho_in hq,hnk hk (by rw [hel,← hF.wa]; exact hi),hnk hkept (by rw [hEl]; exact dp),he,rho_in hq]
  ·rw [rho_out hi,hE'new,hF.wa]
   have e1:rs.length+(i-rs.length)=i:=by rw [hF.wa] at hi; omega
   rw [e1]
 have whr:∀ (q:Nat) (z:ae),KE[q]?=some z→(∃ i y,ρ i=q∧aE[i]?=some y∧z=vW ρ y∧(∀ vS,E'[q]?=some vS→e'[i]?=some vS))∨(q<RS.length∧RS[q]?=some z∧∀ (i:Nat) (x:ae),rs[i]?=some x→x.live→π[i]?≠some q):=by
  intro q z hz
  rcases Nat.lt_or_ge q RS.length with hq|hq
  ·by_cases hex:∃ (i:Nat) (x:ae),rs[i]?=some x∧x.live∧π[i]?=some q
   ·obtain ⟨i,x,h1,h2,h3⟩:=hex
    obtain ⟨q',y,p1,p2,p3,p4⟩:=hF.Tu i x h1 h2
    rw [h3] at p1
    simp only [ak] at p1
    subst p1
    rw [hz] at p4
    simp only [ak] at p4
    exact .inl ⟨i,y,rho_in h3,p3,p4,fun vS M6=>by rw [← hE'live ⟨⟨x,h1,h2⟩,h3⟩]; exact M6⟩
   ·refine .inr ⟨hq,?_,fun i x h1 h2 h3=>hex ⟨i,x,h1,h2,h3⟩⟩
    rw [← hF.out q hq fun i x h1 h2 h3=>hex ⟨i,x,h1,h2,h3⟩]; exact hz
  ·have e1:q=RS.length+(q-RS.length):=by omega
   rw [e1,hF.new] at hz
   cases hy:aE[rs.length+(q-RS.length)]? with
   | none=>rw [hy] at hz; simp at hz
   | some y=>
     rw [hy] at hz
     simp only [Option.map_some,ak] at hz
     have hρ:ρ (rs.length+(q-RS.length))=q:=by
      rw [rho_out (by rw [hF.wa]; omega),hF.wa]; omega
     exact .inl ⟨_,y,hρ,hy,hz.symm,fun vS M6=>by rw [← hE'new,← e1]; exact M6⟩
 have nolive:∀ {q:Nat},(∀ (i:Nat) (x:ae),rs[i]?=some x→x.live→π[i]?≠some q)→¬ ∃ i,live i q:=fun hn ⟨i,⟨x,h1,h2⟩,h3⟩=>hn i x h1 h2 h3
 have hatE:∀ {q b sz:Nat},q<RS.length→(∀ (i:Nat) (x:ae),rs[i]?=some x→x.live→π[i]?≠some q)→di E' q b sz→di E q b sz:=fun hq hn ⟨hh,h1,h2⟩=>⟨hh,by rw [← hE'in hq (nolive hn)]; exact h1,h2⟩
 have notown:∀ {q b sz:Nat} {z:ae},RS[q]?=some z→z.live→(∀ (i:Nat) (x:ae),rs[i]?=some x→x.live→π[i]?≠some q)→di E q b sz→¬ own b:=by
  rintro q b sz z h1 h2 h3 h4 ⟨i,x,cj,g1,g2,g3⟩
  obtain ⟨q',p1,p2,p3,p4⟩:=D4 g1 g2 g3
  have:=hR.eP q q' _ _ b sz cj h1 p2 h2 p3 h4 p4
  subst this
  exact h3 i x g1 g2 p1
 have hsub:∀ b,AV aw KE E' b→AV av1 aE e' b:=by
  rintro b (q|⟨q,z,sz,h1,h2,h3⟩)
  ·exact .inl ⟨.inl q,hav0 q⟩
  ·rcases whr q z h1 with ⟨i,y,_,g2,rfl,g4⟩|⟨g1,g2,g3⟩
   ·obtain ⟨hh,h3⟩:=h3
    exact .inr ⟨i,y,sz,g2,iU.1 h2,hh,g4 _ h3.1,h3.2⟩
   ·have h4:=hatE g1 g3 h3
    exact .inl ⟨.inr ⟨q,z,sz,g2,h2,h4⟩,notown g2 h2 g3 h4⟩
 have hold:∀ b,b<w.heap.size→¬ own b→w'.heap[b]?=w.heap[b]?:=rJ.below.block
 have eT:w.heap.size≤w'.heap.size:=rJ.below.size
 have hkeeps:aZ (AV aw RS E) w w':=⟨eT,fun b hb hn=>hold b hb fun ho=>hn (hownAV ho).1⟩
 have eY:∀ b,b<w.heap.size→AV aw KE E' b→AV aw RS E b:=by
  intro b hb q
  rcases hsub b q with q|⟨i,y,sz,h1,h2,h3⟩
  ·exact q.1
  ·exact (hownAV ((rJ.cT i y b sz h1 h2 h3).1.own hb)).1
 have hbig2:=hR.zz (aE:=KE) (E':=E') (w':=w') hEle hkeeps (hR.below.grown rJ.below.os rJ.below.tape rJ.below.output eT fun k hk hn=>hold k hk fun ho=>hn (hownAV ho).2.1) eY
  (by show (E.mapIdx val++e'.drop rs.length).length=_; rw [List.length_append,List.length_mapIdx,List.length_drop,hel',hF.len',hEl])
  (by
   intro q z vS h1 h2
   rcases whr q z h1 with ⟨i,y,_,g2,rfl,g4⟩|⟨g1,g2,g3⟩
   ·have:=(uP he').1 (rJ.roots i y vS g2 (g4 vS h2))
    exact aM.mono (Env.le_refl E') (aZ.refl _ w') (fun b _ q=>hsub b q) (fun _ _ _=>rfl) this
   ·rw [hE'in g1 (nolive g3)] at h2
    refine aM.mono hEle hkeeps eY (fun hl b hb=>?_) (hR.roots q z vS g2 h2)
    have ho:di E q b vS.2.2:=⟨vS,h2,rfl,hb⟩
    exact hold b (hR.cT q z b _ g2 hl ho).2 (notown g2 hl g3 ho))
  (by
   intro q z b sz h1 h2 h3
   rcases whr q z h1 with ⟨i,y,_,g2,rfl,g4⟩|⟨g1,g2,g3⟩
   ·obtain ⟨hh,h3⟩:=h3
    have hb:=rJ.cT i y b sz g2 (iU.1 h2) ⟨hh,g4 _ h3.1,h3.2⟩
    exact ⟨⟨hb.1.base,fun dp=>(hownAV (hb.1.own (Nat.lt_of_lt_of_le dp hR.below.size))).2.1.own dp⟩,hb.2⟩
   ·have hb:=hR.cT q z b sz g2 h2 (hatE g1 g3 h3)
    exact ⟨hb.1,Nat.lt_of_lt_of_le hb.2 eT⟩)
  (by
   intro q q' z z' b sz cj h1 lX h2 jf h3 l9
   rcases whr q z h1 with ⟨i,y,p,g2,rfl,g4⟩|⟨g1,g2,g3⟩<;>rcases whr q' z' lX with ⟨i',y',p',MI,rfl,g4'⟩|⟨Tx,MI,Ri⟩
   ·obtain ⟨hh,h3⟩:=h3
    obtain ⟨hh',l9⟩:=l9
    have:=rJ.eP i i' y y' b sz cj g2 MI (iU.1 h2) (iU.1 jf) ⟨hh,g4 _ h3.1,h3.2⟩ ⟨hh',g4' _ l9.1,l9.2⟩
    rw [← p,← p',this]
   ·obtain ⟨hh,h3⟩:=h3
    have h4:=hatE Tx Ri l9
    have hb:=hR.cT q' z' b cj MI jf h4
    exact ((notown MI jf Ri h4) ((rJ.cT i y b sz g2 (iU.1 h2) ⟨hh,g4 _ h3.1,h3.2⟩).1.own hb.2)).elim
   ·obtain ⟨hh',l9⟩:=l9
    have h4:=hatE g1 g3 h3
    have hb:=hR.cT q z b sz g2 h2 h4
    exact ((notown g2 h2 g3 h4) ((rJ.cT i' y' b cj MI (iU.1 jf) ⟨hh',g4' _ l9.1,l9.2⟩).1.own hb.2)).elim
   ·exact hR.eP q q' z z' b sz cj g2 MI h2 jf (hatE g1 g3 h3) (hatE Tx Ri l9))
 exact ⟨v,E',rfl,hkept,hbig2,aJ.mono (Env.le_refl E') (aZ.refl _ w') (fun b _ q=>hsub b q) ((tc he').1 hd)⟩
theorem cl.zp (h:cl T P f ds rs d aE) (π:List Nat) (RS:List ae) (rN:gI π=true) (ok:Gw (mb π RS.length) RS π rs aE) :
  cl T P f (np (Fv (mb π RS.length)) ds) RS (Fv (mb π RS.length) d) (qR (mb π RS.length) π rs aE RS):=
 h.YC rN (nB rN rfl (fun _ _=>rfl) ok)
end
section
variable {P:Program} {T:dn} {f:FuncId} {ds:List D} {rs:List ae} {d:D}
theorem HW {q:Nat} {x:ae} {rs:List ae} (h:q<rs.length):place q x rs=rs.set q x:=by
 have e:Nat.beq q rs.length=false:=by
  cases hb:Nat.beq q rs.length with
  | true=>have:=bs hb; omega
  | false=>rfl
 unfold place
 rw [e]
 exact bm _ _ _
theorem uk.zp {i:Nat} {y:ae} (h:cl T P f ds rs d (rs.set i y)) (π:List Nat) (RS:List ae) (rN:gI π=true) (ok:Gw (mb π RS.length) RS π rs (rs.set i y)) {q:Nat} (hi:π[i]?=some q) (hl:∃ x,rs[i]?=some x∧x.live) :
  uk T P f (np (Fv (mb π RS.length)) ds) RS (Fv (mb π RS.length) d) q (vW (mb π RS.length) y):=by
 refine ⟨fun We hlen hle=>?_⟩
 have F:=nB (RS:=RS) rN rfl (fun _ _=>rfl) ok
 have hndp:=kf rN
 have hq:q<We.length:=by rw [← hlen]; exact F.lt q (List.mem_of_getElem? hi)
 have hil:i<rs.length:=by obtain ⟨x,h1,_⟩:=hl; exact (List.getElem?_eq_some_iff.1 h1).1
 rw [HW hq]
 rw [hlen]
 rw [hlen] at F
 refine h.YC rN ⟨F.wa,fun k hk=>by rw [← hlen]; exact F.lt k hk,by simp,by simp,fun j x h1 h2=>?_,fun k hk hout=>?_,fun j=>?_,fun j hj=>F.dead j hj⟩
 ·obtain ⟨k,z,p1,p2,p3,_⟩:=F.Tu j x h1 h2
  have p2':We[k]?=some (vW (mb π We.length) x):=by
   have:=hle k (vW (mb π We.length) x) (by rw [bQ]; exact p2) (iU.2 h2)
   rwa [bQ] at this
  by_cases hji:j=i
  ·subst hji
   rw [hi] at p1
   simp only [ak] at p1
   subst p1
   exact ⟨q,y,hi,p2',by rw [fb,if_pos rfl,if_pos hil],by rw [fb,if_pos rfl,if_pos hq]⟩
  ·refine ⟨k,x,p1,p2',by rw [fb,if_neg (fun e=>hji e.symm)]; exact h1,?_⟩
   rw [fb,if_neg (fun e:q=k=>hji (hndp j i k p1 (e▸hi)))]
   exact p2'
 ·obtain ⟨x,h1,h2⟩:=hl
  have:q≠k:=fun e=>hout i x h1 h2 (e▸hi)
  rw [fb,if_neg this]
 ·rw [List.getElem?_eq_none (by simp),List.getElem?_eq_none (by simp)]; rfl
end
open Go.RowKit
section
variable {P:Program} {T:dn} {N:Nat} {aw:Nat→Prop} {w0:Kp} {sp:List (D×Value)} {s s':VS} {a:Act} {w w':World} {E E':Env} {f:FuncId} {b:Frame} {cs:List Frame} {ro:Option Nat} {n0:Nat} {fF:Option Code→VS→Prop} {todo:List Item}
def gg (rs:List ae) (d:D) (aE:List ae) (d1:D) (fx:List ae):Prop:=
 ∃ (π:List Nat) (d2:D) (nr P8:List ae),Mg rs.length π ⟨[(0,d1,[])],fx,[]⟩=some ⟨[(0,d2,[])],nr,[]⟩∧az cw nr P8∧Ends rs d aE d2 P8
theorem R.QI {rs aE fx:List ae} {d d1:D} {v:Value} (he:gg rs d aE d1 fx) (dA:∀ x∈sp,iR rs.length x.1=true) (h:R T N aw w0 sp ⟨[],rs,[]⟩ a w E) (h':R T N aw w0 sp ⟨[],fx,[]⟩ a w' E') (hk:Kept E E') (hv:aJ E' (AV aw fx E') w' d1 v) :
  ∃ qP,Kept E qP∧R T N aw w0 sp ⟨[],aE,[]⟩ a w' qP∧aJ qP (AV aw aE qP) w' d v:=by
 obtain ⟨π,d2,nr,P8,h1,h2,h3⟩:=he
 have hlE:E.length=rs.length:=h.len
 have hlE':E'.length=fx.length:=h'.len
 have hle:rs.length≤fx.length:=by have:=hk.len; omega
 have hR1:R T 1 aw w0 sp ⟨[(0,d1,[])],fx,[]⟩ { tmps := #[v],defers:=[] } w' E':=⟨rfl,.nil,h'.spec,h'.below,h'.len,h'.outer,h'.roots,h'.cT,h'.eP,fun t d c hl=>by
  simp only [look] at hl
  split at hl
  ·rename_i hb
   have hb:=bs hb
   subst hb
   simp only [ak,a8] at hl
   obtain ⟨rfl,rfl⟩:=hl
   exact ⟨Nat.lt_succ_self 0,fun _=>hv,fun q=>(q fun p hp=>by cases hp).elim⟩
  ·simp at hl,h'.fL⟩
 obtain ⟨E2,g1,g2,g3⟩:=R.renamed h1 dA hle hR1 (fun x hx=>by simp at hx; rw [hx])
 have hk2:Kept E E2:=by
  have q1:Kept E (E'.take rs.length):=by
   have:=hk.take rs.length
   rwa [List.take_of_length_le (Nat.le_of_eq hlE)] at this
  rw [← g1] at q1
  exact q1.trans (Kept.kp E2 _)
 have hR3:=g2.le (s':=⟨[(0,d2,[])],P8,[]⟩) g3 ⟨⟨rfl,d2,rfl,bp.refl _⟩,trivial⟩ h2 rfl
 have hv3:aJ E2 (AV aw P8 E2) w' d2 v:=(hR3.slots 0 d2 [] rfl).2.1 fun p hp=>by cases hp
 have hR4:R T 1 aw w0 sp ⟨[],P8,[]⟩ { tmps := #[v],defers:=[] } w' E2:=⟨rfl,.nil,hR3.spec,hR3.below,hR3.len,hR3.outer,hR3.roots,hR3.cT,hR3.eP,fun t d c q=>by simp [look] at q,hR3.fL⟩
 have hR0:R T 1 aw w0 sp ⟨[],rs,[]⟩ { tmps := #[v],defers:=[] } w E:=⟨rfl,.nil,h.spec,h.below,h.len,h.outer,h.roots,h.cT,h.eP,fun t d c q=>by simp [look] at q,h.fL⟩
 obtain ⟨E3,p1,p2,p3⟩:=hR0.ends (fun t d c q=>by simp [look] at q) hR4 hk2 h3 hv3
 have Ie:az (fun r (d:Deferred)=>∃ b sz,a7 E3 r b sz∧d={ target:=.collected b,args := #[] }) [] a.defers:=by
  have:=h'.defers
  revert this
  cases a.defers with
  | nil=>exact fun _=>.nil
  | cons x l=>exact fun q=>by cases q
 exact ⟨E3,p1,⟨h'.size,Ie,p2.spec,p2.below,p2.len,p2.outer,p2.roots,p2.cT,p2.eP,fun t d c q=>by simp [look] at q,p2.fL⟩,p3⟩
theorem LF (bz:dk P T) {fn:Func} (hf:P.funcs[f]?=some fn) (mR:(fn.name == "runtime.NumGoroutine")=false) {c:Code} (hc:fn.body=some c) {ds:List D} {rs:List ae} {d:D} {aE:List ae} (hlen:ds.length≤fn.ntmps)
  (hg:∀ (b:Frame) (cs:List Frame),b.fn=f→Goal P T fn.ntmps b cs none rs.length (qu T fn.results.toList (gg rs d aE)) [.code c] ⟨cH 0 ds,rs,[]⟩):cl T P f ds rs d aE:=
 uS bz hf mR hc hlen (fun hq dA h h' hk hv=>R.QI hq dA h h' hk hv) hg
def Gx (r j q m el sz n:Nat) (get:Nat→Nat→I) (l:List C) (s:VS):VS:={ s with rs:=setAt (setAt s.rs q .dead) r (.box (setAt l j (.sa s.rs.length m)))++[.arr el sz n get] }
theorem Goal.yb {r j q m el sz n:Nat} {get:Nat→Nat→I} {l:List C} (hr:aY s.rs r=some (.box l)) (hj:aY l j=some (.sa q m)) (hq:aY s.rs q=some (.arr el sz n get)) (g:Goal P T N b cs ro n0 fF todo (Gx r j q m el sz n get l s)):Goal P T N b cs ro n0 fF todo s:=
 g.ghost fun aw w0 sp a w E dA vR hR hn=>by
  rw [bQ] at hr hj hq
  have hrl:r<s.rs.length:=(List.getElem?_eq_some_iff.1 hr).1
  have hql:q<s.rs.length:=(List.getElem?_eq_some_iff.1 hq).1
  have hrq:r≠q:=by intro e; subst e; rw [hr] at hq; cases hq
  have hqE:q<E.length:=by rw [hR.len]; exact hql
  let e:=E[q]
  have he:E[q]?=some e:=gj hqE
  let E':Env:=E++[e]
  have hEle:=Env.eo E [e]
  let fx:=(s.rs.set q .dead).set r (.box (setAt l j (.sa s.rs.length m)))
  have hl1:fx.length=s.rs.length:=by simp [fx]
  have ir:∀ {k bb z:Nat},di E' k bb z→(k<s.rs.length∧di E k bb z)∨(k=s.rs.length∧di E q bb z):=by
   rintro k bb z ⟨hh,h1,h9⟩
   rcases Nat.lt_or_ge k E.length with hk|hk
   ·rw [dQ hk] at h1
    exact .inl ⟨by rw [← hR.len]; exact hk,hh,h1,h9⟩
   ·rw [gG hk] at h1
    rcases Nat.eq_zero_or_pos (k-E.length) with e0|e0
    ·rw [e0] at h1
     simp at h1
     refine .inr ⟨by rw [← hR.len]; omega,hh,?_,h9⟩
     rw [he,h1]
    ·rw [List.getElem?_eq_none (by simp; omega)] at h1; simp at h1
  have key:∀ (k:Nat) (y:ae) (bb z:Nat),(fx++[ae.arr el sz n get])[k]?=some y→y.live→di E' k bb z→∃ k0 x,s.rs[k0]?=some x∧x.live∧di E k0 bb z∧k0=(if k=s.rs.length then q else k)∧(k≠s.rs.length→k≠q):=by
   intro k y bb z h1 h2 h3
   rcases ir h3 with ⟨hk,h4⟩|⟨hk,h4⟩
   ·rw [dQ (by rw [hl1]; exact hk)] at h1
    have CN:k≠s.rs.length:=by omega
    have hkq:k≠q:=by
     intro e0
     subst e0
     simp only [fx] at h1
     rw [fb,if_neg hrq,fb,if_pos rfl,if_pos hql] at h1
     simp only [ak] at h1
     subst h1; exact h2
    refine ⟨k,?_⟩
    rw [if_neg CN]
    by_cases hkr:r=k
    ·subst hkr
     exact ⟨_,hr,trivial,h4,rfl,fun _=>hkq⟩
    ·simp only [fx] at h1
     rw [fb,if_neg hkr,fb,if_neg (fun e0=>hkq e0.symm)] at h1
     exact ⟨y,h1,h2,h4,rfl,fun _=>hkq⟩
   ·subst hk
    exact ⟨q,_,hq,trivial,h4,by simp,fun hn=>(hn rfl).elim⟩
  have eY:∀ bb,AV aw (fx++[ae.arr el sz n get]) E' bb→AV aw s.rs E bb:=by
   rintro bb (h1|⟨k,y,z,h1,h2,h3⟩)
   ·exact .inl h1
   ·obtain ⟨k0,x,g1,g2,g3,_⟩:=key k y bb z h1 h2 h3
    exact .inr ⟨k0,x,z,g1,g2,g3⟩
  have hR2:=hR.zz (aE:=fx++[ae.arr el sz n get]) (E':=E') (w':=w) hEle (aZ.refl _ w) hR.below (fun bb _ h1=>eY bb h1) (by simp [E',hl1,hR.len])
   (by
    intro k y vS h1 h2
    rcases Nat.lt_or_ge k s.rs.length with hk|hk
    ·rw [dQ (by rw [hl1]; exact hk)] at h1
     have h2:(E++[e])[k]?=some vS:=h2
     rw [dQ (by rw [hR.len]; exact hk)] at h2
     simp only [fx] at h1
     by_cases hkr:r=k
     ·subst hkr
      rw [fb,if_pos rfl,if_pos (by simpa using hrl)] at h1
      simp only [ak] at h1
      subst h1
      obtain ⟨bb,vs,Tc,p1,p2,p3,p4⟩:=aM.mono (cF:=AV aw (fx++[ae.arr el sz n get]) E') hEle (aZ.refl _ w) (fun b _ h=>eY b h) (fun _ _ _=>rfl) (hR.roots r _ vS hr h2)
      refine ⟨bb,vs,Tc,p1,by rw [bm]; simpa using p2,p3,?_⟩
      rw [bm]
      refine az.vA (by simpa using p4.length) fun i x v hx hv=>?_
      rw [fb] at hx
      split at hx
      ·rename_i hji
       subst hji
       split at hx
       ·simp only [ak] at hx
        subst hx
        obtain ⟨e',a',n',cap,q1,q2,q3,q4⟩:=p4.get hj hv
        have q1:(E++[e])[q]?=some e':=q1
        rw [dQ hqE,he] at q1
        refine ⟨e,a',n',cap,?_,?_,q3,q4⟩
        ·show (E++[e])[s.rs.length]?=some e
         rw [← hR.len]; simp
        ·simp only [ak] at q1; rw [q1]; exact q2
       ·simp at hx
      ·exact p4.get hx hv
     ·rw [fb,if_neg hkr,fb] at h1
      split at h1
      ·first
       | (simp only [ak] at h1; subst h1; trivial)
       | (split at h1
          ·simp only [ak] at h1; subst h1; trivial
          ·simp at h1)
      ·exact aM.mono hEle (aZ.refl _ w) (fun b _ h=>eY b h) (fun _ _ _=>rfl) (hR.roots k y vS h1 h2)
    ·rw [gG (by rw [hl1]; exact hk),hl1] at h1
     rcases Nat.eq_zero_or_pos (k-s.rs.length) with e0|e0
     ·rw [e0] at h1
      simp at h1
      have WA:k=s.rs.length:=by omega
      subst WA
      have h2:(E++[e])[s.rs.length]?=some vS:=h2
      rw [← hR.len] at h2
      simp at h2
      subst h1 h2
      exact aM.mono hEle (aZ.refl _ w) (fun b _ h=>eY b h) (fun _ _ _=>rfl) (hR.roots q _ e hq he)
     ·rw [List.getElem?_eq_none (by simp; omega)] at h1; simp at h1)
   (by
    intro k y bb z h1 h2 h3
    obtain ⟨k0,x,g1,g2,g3,_⟩:=key k y bb z h1 h2 h3
    exact hR.cT k0 x bb z g1 g2 g3)
   (by
    intro k k' y y' bb z z' h1 lX h2 jf h3 l9
    obtain ⟨k0,x,g1,g2,g3,g4,g5⟩:=key k y bb z h1 h2 h3
    obtain ⟨k0',x',Tx,MI,Ri,g4',g5'⟩:=key k' y' bb z' lX jf l9
    have:=hR.eP k0 k0' x x' bb z z' g1 Tx g2 MI g3 Ri
    rw [g4,g4'] at this
    split at this<;>split at this
    ·omega
    ·rename_i n1 n2; exact absurd this.symm (g5' n2)
    ·rename_i n1 n2; exact absurd this (g5 n1)
    ·exact this)
  refine ⟨E',?_,?_,hn⟩
  ·show (E++[e]).take n0=_
   rw [List.take_append_of_le_length (by rw [hR.len]; exact vR)]
  ·have:Gx r j q m el sz n get l s={ s with rs:=fx++[ae.arr el sz n get] }:=by
    simp only [Gx,fx,bm]
   rw [this]
   exact hR2
end
section
variable {P:Program} {T:dn} {N:Nat} {b:Frame} {cs:List Frame} {ro:Option Nat} {n0:Nat} {fF:Option Code→VS→Prop} {todo:List Item} {s s':VS} {aw:Nat→Prop} {w0:Kp} {sp:List (D×Value)} {a:Act} {w:World} {E:Env}
def G7 (x y:Fc):Prop:=∀ (E:Env) (av:Nat→Prop) (base:Nat) (w:World) (K:Nat→Prop) (v:Value),ja E av base w x K v→ja E av base w y K v
theorem G7.refl (x:Fc):G7 x x:=fun _ _ _ _ _ _ h=>h
theorem G7.im {x y:I} (h:dP x y):G7 (.o (.im x)) (.o (.im y)):=fun _ av _ w _ v q=>h av w v q
theorem IG {el sz n:Nat} {get get':Nat→Nat→O} {dK jw:Option (Nat×List Fc)} (hf:∀ x,jw=some x→x.1<n∧x.2.length=sz) (h:∀ i,i<n→∀ j,j<sz→∀ c,iL get dK i j=some c→∃ c',iL get' jw i j=some c'∧G7 c c')
  {E:Env} {av:Nat→Prop} {base:Nat} {w:World} {e:gr} (hr:aM E av base w e (.gy el sz n get dK)):aM E av base w e (.gy el sz n get' jw):=by
 obtain ⟨p1,p2,xs,p3,Ks,p4,_,p5⟩:=hr
 refine ⟨p1,p2,xs,p3,Ks,p4,hf,fun i hi j hj=>?_⟩
 obtain ⟨x,c,q1,q2,q3⟩:=p5 i hi j hj
 obtain ⟨c',q4,q5⟩:=h i hi j hj c q2
 exact ⟨x,c',q1,q4,q5 _ _ _ _ _ _ q3⟩
theorem Goal.gy {r el sz n:Nat} {get get':Nat→Nat→O} {dK jw:Option (Nat×List Fc)} (hr:aY s.rs r=some (.gy el sz n get dK)) (hf:∀ x,jw=some x→x.1<n∧x.2.length=sz)
  (h:∀ i,i<n→∀ j,j<sz→∀ c,iL get dK i j=some c→∃ c',iL get' jw i j=some c'∧G7 c c')
  (g:Goal P T N b cs ro n0 fF todo { s with rs:=setAt s.rs r (.gy el sz n get' jw) }):Goal P T N b cs ro n0 fF todo s:=
 Goal.swap (x:=.gy el sz n get dK) hr (fun _=>trivial) (fun base E w e av q=>IG hf h q) g
def QK:O→ae
 | .im _=>.dead
 | .ar e sz n get=>.arr e sz n get
 | .ns e sz n get=>.gy e sz n get none
def Xp:O→Nat
 | .im _=>0
 | .ar _ _ n _=>n
 | .ns _ _ n _=>n
theorem je.root {av:Nat→Prop} {base:Nat} {w:World} {x:O} (hx:(QK x).live) {K:Nat→Prop} {v:Value} (h:je av base w x K v) :
  ∃ (a:Option Addr) (cap sz:Nat),v=.slice a (Xp x) cap∧(∀ b,v.ownBlock=some b→K b)∧∀ E:Env,aM E av base w (v.ownBlock,(v,fun b=>K b∧v.ownBlock≠some b),sz) (QK x):=by
 cases x with
 | im x=>exact hx.elim
 | ar el sz n get=>
   obtain ⟨h0,xs,h1,h2⟩:=h
   obtain ⟨ao,cap,rfl⟩:=gx h1
   exact ⟨ao,cap,sz,rfl,h0,fun E=>⟨rfl,rfl,xs,h1,h2⟩⟩
 | ns el sz n get=>
   obtain ⟨h0,xs,h1,Ks,hp,h2⟩:=h
   obtain ⟨ao,cap,rfl⟩:=gx h1
   refine ⟨ao,cap,sz,rfl,h0,fun E=>⟨rfl,rfl,xs,h1,Ks,⟨fun i j b q=>⟨hp.sub i j b q,hp.ne i j b q⟩,hp.ne,hp.inj⟩,fun x hx=>(by cases hx),fun i hi j hj=>?_⟩⟩
   obtain ⟨x,q1,q2⟩:=h2 i hi j hj
   exact ⟨x,_,q1,rfl,q2⟩
end
section
variable {P:Program} {T:dn} {N:Nat} {b:Frame} {cs:List Frame} {ro:Option Nat} {n0:Nat} {fF:Option Code→VS→Prop} {todo:List Item} {s s':VS} {aw:Nat→Prop} {w0:Kp} {sp:List (D×Value)} {a:Act} {w:World} {E:Env}
end
section
variable {P:Program} {T:dn} {N:Nat} {b:Frame} {cs:List Frame} {ro:Option Nat} {n0:Nat} {fF:Option Code→VS→Prop} {todo:List Item} {s s':VS} {aw:Nat→Prop} {w0:Kp} {sp:List (D×Value)} {a:Act} {w w':World} {E E':Env} {f:FuncId}
theorem Goal.Ap {t:Tmp} {sz:Nat} {get:Nat→Nat→I} (ht:eb s.sl t=some (.c (.im (.sl sz 0 get)))) (g:∀ (ad:Option Addr) (cap:Nat),Goal P T N b cs ro n0 fF todo ⟨(t,.c (.im (.v (.slice ad 0 cap))),[])::s.sl,s.rs,s.df⟩):Goal P T N b cs ro n0 fF todo s:=by
 intro aw w0 sp a w E vR dA Fy hR hn
 obtain ⟨q1,q2,q3⟩:=hR.slots t _ _ (fq hn ht)
 obtain ⟨ad,cap,hv,_⟩:=q2 fun p hp=>by cases hp
 refine g ad cap aw w0 sp a w E vR dA Fy ⟨hR.size,hR.defers,hR.spec,hR.below,hR.len,hR.outer,hR.roots,hR.cT,hR.eP,fun u d c hl=>?_,hR.fL⟩ (hn.cons t _)
 simp only [look] at hl
 split at hl
 ·rename_i he
  have he:=bs he
  subst he
  simp only [ak,a8] at hl
  obtain ⟨rfl,rfl⟩:=hl
  exact ⟨q1,fun _=>⟨hv,rfl⟩,fun q=>(q fun p hp=>by cases hp).elim⟩
 ·exact hR.slots u d c hl
theorem mv {ad:Option Addr} {cap sz:Nat} {get:Nat→Nat→I}:dP (.v (.slice ad 0 cap)) (.sl sz 0 get):=fun av w v ⟨h,_⟩=>⟨ad,cap,h,bB _,bB _,fun q=>absurd q (Nat.lt_irrefl 0)⟩
def nj (rs:List ae) (d:D) (aE:List ae) (d1:D) (fx:List ae):Prop:=
 gg rs d aE d1 fx∨(fx=rs∧d1=.c (.im (.v (.slice none 0 0)))∧d=.c (.sa rs.length 0)∧∃ el sz get,aE=rs++[.arr el sz 0 get])
theorem R.Un {rs aE fx:List ae} {d d1:D} {v:Value} (he:nj rs d aE d1 fx) (dA:∀ x∈sp,iR rs.length x.1=true) (h:R T N aw w0 sp ⟨[],rs,[]⟩ a w E) (h':R T N aw w0 sp ⟨[],fx,[]⟩ a w' E') (hk:Kept E E') (hv:aJ E' (AV aw fx E') w' d1 v) :
  ∃ qP,Kept E qP∧R T N aw w0 sp ⟨[],aE,[]⟩ a w' qP∧aJ qP (AV aw aE qP) w' d v:=by
 rcases he with he|⟨rfl,rfl,rfl,el,sz,get,rfl⟩
 ·exact R.QI he dA h h' hk hv
 ·have h1:=h'.Dd el sz get
  obtain ⟨hv,_⟩:=hv
  refine ⟨_,hk.trans ⟨Env.eo E' _,fun q hq=>by rw [dQ (List.getElem?_eq_some_iff.1 hq).1]; exact hq⟩,h1,?_⟩
  rw [hv]
  exact ⟨(Option.none,lS (.slice Option.none 0 0),sz),Option.none,0,0,by show (E'++[_])[fx.length]?=_; rw [show fx.length=E'.length from h'.len.symm]; simp,rfl,bf _,rfl⟩
theorem Kw (bz:dk P T) {fn:Func} (hf:P.funcs[f]?=some fn) (mR:(fn.name == "runtime.NumGoroutine")=false) {c:Code} (hc:fn.body=some c) {ds:List D} {rs:List ae} {d:D} {aE:List ae} (hlen:ds.length≤fn.ntmps)
  (hg:∀ (b:Frame) (cs:List Frame),b.fn=f→Goal P T fn.ntmps b cs none rs.length (qu T fn.results.toList (nj rs d aE)) [.code c] ⟨cH 0 ds,rs,[]⟩):cl T P f ds rs d aE:=
 uS bz hf mR hc hlen (fun hq dA h h' hk hv=>R.Un hq dA h h' hk hv) hg
end
end
end Go.V
