/- What is gathered is enough: runs. -/
import Derived.Test.YtghfgcfabbbbbaaDoorP3
set_option linter.unusedSimpArgs false
set_option linter.unusedVariables false
namespace Go.V
open Go.RowKit
noncomputable section
section
variable {P:Program} {T:dY} {X:hX} {hi:Hint} {N:Nat} {f:FuncId}
theorem ux (p:Nat×ah) (ws:List (Nat×ah)) (rs:List ah):writes (p::ws) rs=writes ws (rs.set p.1 p.2):=by
 show writes ws (setAt rs p.1 p.2)=_
 rw [aQ]
theorem ny {q:Nat}:∀ {ws:List (Nat×ah)} {rs:List ah},(∀ p∈ws,p.1≠q)→(writes ws rs)[q]?=rs[q]?
 | [],rs,_=>rfl
 | p::ws,rs,h=>by
   rw [ux,ny fun y hy=>h y (fe _ hy),dP,if_neg (h p (eS ..))]
theorem uc {q:Nat} {x:ah}:∀ {ws:List (Nat×ah)} {rs:List ah},q<rs.length→(∀ p∈ws,p.1=q→p.2=x)→((∃ p∈ws,p.1=q)∨rs[q]?=some x)→(writes ws rs)[q]?=some x
 | [],rs,hq,h,k=>by
   rcases k with ⟨p,hp,_⟩|k
   ·cases hp
   ·exact k
 | p::ws,rs,hq,h,k=>by
   rw [ux]
   refine uc (by simpa using hq) (fun y hy=>h y (fe _ hy)) ?_
   by_cases hp:p.1=q
   ·right
    rw [dP,if_pos hp,hp,if_pos hq,h p (eS ..) hp]
   ·rcases k with ⟨y,hy,hyq⟩|k
    ·rcases List.mem_cons.1 hy with rfl|hy
     ·exact (hp hyq).elim
     ·exact .inl ⟨y,hy,hyq⟩
    ·right
     rw [dP,if_neg hp]; exact k
theorem xh {S:List Nat}:∀ {ws:List (Nat×ah)},C6 S ws=true→∀ p∈ws,p.1∈S
 | [],_,p,hp=>by cases hp
 | y::ws,h,p,hp=>by
   obtain ⟨h1,h2⟩:=Bool.gH (show (Bool.rec false (C6 S ws) (oS y.1 S):Bool)=true from h)
   rcases List.mem_cons.1 hp with rfl|hp
   ·exact jI.1 h1
   ·exact xh h2 p hp
theorem Aa {n:Nat}:∀ {ws:List (Nat×ah)},N1 n ws=true→∀ p∈ws,lC n p.2=true
 | [],_,p,hp=>by cases hp
 | y::ws,h,p,hp=>by
   obtain ⟨h1,h2⟩:=Bool.gH (show (Bool.rec false (N1 n ws) (lC n y.2):Bool)=true from h)
   rcases List.mem_cons.1 hp with rfl|hp
   ·exact h1
   ·exact Aa h2 p hp
theorem FI (q:Nat) (S:List Nat) (aG:List ah):kg (q::S) aG=(match aG[q]? with
 | some x=>(q,x)::kg S aG
 | none=>kg S aG):=by
 show (match aV aG q with
  | some x=>(q,x)::kg S aG
  | none=>kg S aG)=_
 rw [bT]
theorem mU {aG:List ah}:∀ {S:List Nat} {p:Nat×ah},p∈kg S aG↔p.1∈S∧aG[p.1]?=some p.2
 | [],p=>by simp [kg]
 | q::S,p=>by
   rw [FI]
   split
   ·rename_i x hx
    rw [List.mem_cons,mU,List.mem_cons]
    constructor
    ·rintro (rfl|⟨h1,h2⟩)
     ·exact ⟨.inl rfl,hx⟩
     ·exact ⟨.inr h1,h2⟩
    ·rintro ⟨h1|h1,h2⟩
     ·left
      obtain ⟨a,b⟩:=p
      have h1:a=q:=h1
      subst h1
      rw [hx] at h2
      simp only [aq] at h2
      rw [h2]
     ·exact .inr ⟨h1,h2⟩
   ·rename_i hx
    rw [mU,List.mem_cons]
    constructor
    ·rintro ⟨h1,h2⟩; exact ⟨.inr h1,h2⟩
    ·rintro ⟨h1|h1,h2⟩
     ·rw [h1,hx] at h2; simp at h2
     ·exact ⟨h1,h2⟩
theorem Nk (S:List Nat):∀ rs aG,Grown S rs aG→N1 rs.length (kg S aG)=true→∀ (q:Nat) (x:ah),(writes (kg S aG) rs)[q]?=some x→aG[q]?=some x∧(rs[q]?=some x∨lC rs.length x=true):=by
 rintro rs aG ⟨ws,ex,hk,rfl⟩ hl q x hx
 have hq:q<rs.length:=by
  have:=(List.getElem?_eq_some_iff.1 hx).1
  rwa [iu] at this
 have tp:(writes ws rs++ex)[q]?=(writes ws rs)[q]?:=dH (by rw [iu]; exact hq)
 have dD:q<(writes ws rs).length:=by rw [iu]; exact hq
 by_cases hS:q∈S
 ·have hy:=eY dD
  generalize (writes ws rs)[q]=y at hy
  have hm:(q,y)∈kg S (writes ws rs++ex):=mU.2 ⟨hS,by rw [tp]; exact hy⟩
  have hs:=uc (ws:=kg S (writes ws rs++ex)) (x:=y) hq (fun p hp hpq=>by
   obtain ⟨_,h2⟩:=mU.1 hp
   rw [hpq,tp,hy] at h2
   simp only [aq] at h2
   exact h2.symm) (.inl ⟨_,hm,rfl⟩)
  rw [hx] at hs
  simp only [aq] at hs
  subst hs
  exact ⟨by rw [tp]; exact hy,.inr (Aa hl _ hm)⟩
 ·have h1:(writes (kg S (writes ws rs++ex)) rs)[q]?=rs[q]?:=ny fun p hp e=>hS (e▸(mU.1 hp).1)
  have h2:(writes ws rs)[q]?=rs[q]?:=ny fun p hp e=>hS (e▸xh hk p hp)
  rw [h1] at hx
  exact ⟨by rw [tp,h2]; exact hx,.inl hx⟩
theorem wy {rs pQ:List ah} (hle:∀ (q:Nat) (x:ah),aV rs q=some x→x.live→aV pQ q=some x):∀ (r:Rd) {o:D×Nat×ah},xU rs r=some o→xU pQ r=some o
 | .no,o,h=>by cases h
 | .ret _,_,h=>h
 | .get q k,o,h=>by
   have h:(match aV rs q with
    | some x=>match x with
      | .dead=>none
      | x=>xU rs (k x)
    | none=>none)=some o:=h
   show (match aV pQ q with
    | some x=>match x with
      | .dead=>none
      | x=>xU pQ (k x)
    | none=>none)=some o
   cases hx:aV rs q with
   | none=>rw [hx] at h; simp at h
   | some x=>
     rw [hx] at h
     cases x with
     | dead=>simp at h
     | _=>
       rw [hle _ _ hx trivial]
       exact wy hle _ h
theorem v8 (T:dY) (P:Program) (X:hX):ib T P (cH T P X) where
 call f ds rs d aG e:=by
  unfold cH at e
  dsimp only at e
  split at e
  ·rename_i hk
   simp only [aq,bs] at e
   obtain ⟨rfl,rfl⟩:=e
   exact hk.out
  ·simp at e
 Np r ds rs d aG e:=by
  unfold cH at e
  dsimp only at e
  split at e
  ·rename_i hk
   simp only [aq,bs] at e
   obtain ⟨rfl,rfl⟩:=e
   exact hk.out
  ·simp at e
 diff rs aG ws e:=by
  unfold cH at e
  dsimp only at e
  split at e
  ·rename_i hk
   simp only [aq] at e
   subst e
   exact Nk _ _ _ hk.1 hk.2
  ·simp at e
 wr f ds rs d q x e:=by
  unfold cH at e
  dsimp only at e
  split at e
  case h_2=>simp at e
  rename_i y hy
  split at e
  ·rename_i hk
   simp only [aq] at e
   have h:=hk.out rs rfl (fun _ _ q _=>q)
   rw [e] at h
   exact h.out
  ·simp at e
 mono f ds rs pQ r hlen hle e:=by
  unfold cH at e ⊢
  dsimp only at e ⊢
  split at e
  case h_2=>simp at e
  rename_i y hy
  split at e
  ·rename_i hk
   simp only [wy hle _ hy]
   rw [if_pos ⟨fun Ub h3 h4=>hk.out Ub (hlen.trans h3) fun k z hz hl=>h4 k z (hle k z hz hl) hl⟩]
   exact e
  ·simp at e
def Goal (P:Program) (T:dY) (N:Nat) (b:Frame) (cs:List Frame) (ro:Option Nat) (n0:Nat) (eX:Option Code→VS→Prop) (todo:List Item) (s:VS):Prop:=
 ∀ (ay:Nat→Prop) (w0:Kp) (sp:List (D×Value)) (a:Act) (w:World) (E:Env),n0≤s.rs.length→(∀ x∈sp,j3 n0 x.1=true)→jm (E.take n0) b ro→R T N ay w0 sp s a w E→bN s.sl→
  ∃ j s' a' w' E' dB,Kept (E.take n0) E'∧R T N ay w0 sp s' a' w' E'∧bN s'.sl∧uB j dB∧eX j s'∧Steps P (lone (b.atR a todo) cs w) (lone (b.atR a' dB) cs w')
theorem KC {ro:Option Nat} {g:Operand} {ps:List Tmp} {as bd:Code} {s:VS} {k:Option Code→VS→Prop} (h:Cm T P X N f ro g ps as bd s k):∃ lo j s',ib T P lo∧oP lo N f ro g ps as bd s=some (j,s')∧k j s':=by
 unfold Cm at h
 split at h
 ·exact h.elim
 split at h
 case h_2=>exact h.elim
 rename_i c hc
 split at h
 case h_2=>exact h.elim
 rename_i hf eJ yf
 have fin:∀ (lo:Lo) (d:D) (aG:List ah),ib T P lo→lo.call hf (.c (.yl (s.rs.length+1))::eJ) (s.rs++[.nZ,.loop f N s.sl ps as bd .ready none])=some (d,aG)→AP s.rs.length s aG k→∃ lo j s',ib T P lo∧oP lo N f none g ps as bd s=some (j,s')∧k j s':=by
  intro lo d aG H6 uD hk
  unfold AP at hk
  split at hk
  ·rename_i hr
   exact ⟨lo,_,_,H6,by simp only [oP,hc,yf,uD,hr],hk⟩
  ·rename_i hr
   exact ⟨lo,_,_,H6,by simp only [oP,hc,yf,uD,hr],hk⟩
  ·exact hk.elim
 unfold PR at h
 rcases xQ h with ⟨_,h1,h2⟩|⟨_,h1,h2⟩
 ·exact fin (cH T P { X with F:=X.R1 }) _ _ (v8 _ _ _) (by simp only [cH]; rw [if_pos h1]) h2
 ·exact fin (cH T P { X with F:=X.R2 }) _ _ (v8 _ _ _) (by simp only [cH]; rw [if_pos h1]) h2
theorem jm.take {E E':Env} {b:Frame} {ro:Option Nat} {n:Nat} (hk:Kept E E') (h:jm (E.take n) b ro):jm (E'.take n) b ro:=h.mono (hk.take n).le
theorem B5 (bQ:dV P T) (C5:P.follows .mixedOrders=true) {b:Frame} (Gv:b.fn=f) {cs:List Frame} {ro:Option Nat} {n0:Nat} {eX:Option Code→VS→Prop} {stop:Nat→Bool} {L:List Item→VS→Prop} {Q:Option Code→VS→Prop}
  (hL:∀ todo s,L todo s→Goal P T N b cs ro n0 eX todo s) (hQ:∀ j s,Q j s→eX j s) :
  ∀ (n:Nat) {go:Bool} {todo:List Item} {s:VS},uT T P X hi N f ro stop L Q n go todo s→Goal P T N b cs ro n0 eX todo s
 | 0,go,todo,s,e=>(show False from e).elim
 | n+1,go,todo,s,e=>by
   intro ay w0 sp a w E uu ec Iv h hn
   have hl:=v8 T P X
   have run:∀ {KS:Bool} {gf:List Item} {s1:VS} {a1:Act} {w1:World} {E1:Env},uT T P X hi N f ro stop L Q n KS gf s1→Kept E E1→R T N ay w0 sp s1 a1 w1 E1→bN s1.sl→Steps P (lone (b.atR a todo) cs w) (lone (b.atR a1 gf) cs w1)→
     ∃ j s' a' w' E' dB,Kept (E.take n0) E'∧R T N ay w0 sp s' a' w' E'∧bN s'.sl∧uB j dB∧eX j s'∧Steps P (lone (b.atR a todo) cs w) (lone (b.atR a' dB) cs w'):=by
    intro KS gf s1 a1 w1 E1 e1 hk h1 Uh om
    have hlen:n0≤s1.rs.length:=by
     have:=hk.len
     rw [h.len,h1.len] at this
     omega
    obtain ⟨j,s',a',w',E',dB,q1,q2,q3,q4,q5,q6⟩:=B5 bQ C5 Gv hL hQ n e1 ay w0 sp a1 w1 E1 hlen ec (Iv.take hk) h1 Uh
    exact ⟨j,s',a',w',E',dB,(hk.take n0).trans q1,q2,q3,q4,q5,om.trans q6⟩
   have iT:∀ {c:Option Code},Q c s→uB c todo→∃ j s' a' w' E' dB,Kept (E.take n0) E'∧R T N ay w0 sp s' a' w' E'∧bN s'.sl∧uB j dB∧eX j s'∧Steps P (lone (b.atR a todo) cs w) (lone (b.atR a' dB) cs w'):=
    fun hq he=>⟨_,s,a,w,E,todo,Kept.lK E n0,h,hn,he,hQ _ _ hq,Steps.refl _ _⟩
   have hroE:jm E b ro:=Iv.mono (Kept.lK E n0).le
   cases todo with
   | nil=>exact iT (c:=none) e rfl
   | cons x k=>
     cases x with
     | inBlock id=>exact run (gf:=k) (s1:=s) e (Kept.refl E) h hn (.one stepR_inBlock)
     | inLoop c=>exact run (gf:=.code c::.inLoop c::k) (s1:=s) e (Kept.refl E) h hn (.one stepR_inLoop)
     | beginRound=>
       obtain ⟨s1,hs1,e⟩:=cL (show cV (tJ ro s) (fun s'=>uT T P X hi N f ro stop L Q n go k s') from e)
       obtain ⟨w',h1,h2,h3⟩:=Ev h hroE hs1
       exact run e (Kept.refl E) h1 (by rw [h2]; exact hn) h3
     | code c=>
       cases c with
       | skip=>exact run (gf:=k) (s1:=s) e (Kept.refl E) h hn (.one stepR_skip)
       | label l=>exact run (gf:=k) (s1:=s) e (Kept.refl E) h hn (.one stepR_label)
       | ret=>exact iT (c:=some .ret) e (.inl ⟨k,rfl,rfl⟩)
       | seq x y=>exact run (gf:=.code x::.code y::k) (s1:=s) e (Kept.refl E) h hn (.one stepR_seq)
       | cond c x y=>
         have e:(match ju (cA s.sl c) with
          | some p=>I7 s c p (uT T P X hi N f ro stop L Q n go (.code x::k)) (uT T P X hi N f ro stop L Q n go (.code y::k))
          | none=>False):=e
         split at e
         case h_2=>exact e.elim
         rename_i p hp
         have hv:a.eval c=.bool p:=(h.cA hn (fi hp)).1
         have om:=Steps.one (stepR_cond (P:=P) (b:=b) (k:=k) (cs:=cs) (w:=w) (x:=x) (y:=y) hv)
         rcases LU hp e with ⟨rfl,e'⟩|⟨rfl,e'⟩
         ·exact run e' (Kept.refl E) h hn om
         ·exact run e' (Kept.refl E) h hn om
       | block id c=>exact run (gf:=.code c::.inBlock id::k) (s1:=s) e (Kept.refl E) h hn (.one stepR_block)
       | loop c=>exact run (gf:=.code c::.inLoop c::k) (s1:=s) e (Kept.refl E) h hn (.one stepR_loop)
       | exit id=>
         have e:(match exitTo id k with
          | some k'=>uT T P X hi N f ro stop L Q n go k' s
          | none=>Q (some (.exit id)) s):=e
         split at e
         ·rename_i k' kZ
          exact run e (Kept.refl E) h hn (.one (stepR_exit kZ))
         ·rename_i kZ
          exact iT e (.inr ⟨id,k,rfl,rfl,kZ⟩)
       | region id ops draw=>
         have e0:Bool.rec (vp T P X hi N f ro id ops.toList draw s fun s'=>uT T P X hi N f ro stop L Q n false k s') (L (.code (.region id ops draw)::k) s) (!go&&stop id):=e
         clear e
         cases hgo:(!go&&stop id) with
         | true=>
           rw [hgo] at e0
           exact hL _ _ e0 ay w0 sp a w E uu ec Iv h hn
         | false=>
           rw [hgo] at e0
           obtain ⟨s1,hs1,e⟩:=Ha e0
           cases draw with
           | false=>
             obtain ⟨a',w',E',q1,q2,q3,q4⟩:=xW (b:=b) (k:=k) (cs:=cs) bQ hl h hn hs1
             exact run e q1 q2 q3 q4
           | true=>
             obtain ⟨a',w',E',q1,q2,q3,q4⟩:=Em (b:=b) (k:=k) (cs:=cs) bQ hl C5 h hn hs1
             exact run e q1 q2 q3 q4
       | rangeFunc g ps as bd=>
         obtain ⟨lo,j1,s1,H6,hs1,e⟩:=KC (show Cm T P X N f ro g ps.toList as bd s (fun j s'=>uT T P X hi N f ro stop L Q n false (zj j k) s') from e)
         obtain ⟨a',w',E',q1,q2,q3,q4⟩:=Fq (k:=k) (cs:=cs) H6 h hn Gv hroE hs1
         exact run e q1 q2 (by rw [q3]; exact hn) q4
       | _=>exact (show False from e).elim
     | _=>exact (show False from e).elim
end
open Go.RowKit
section
variable {P:Program} {T:dY} {N:Nat} {ay:Nat→Prop} {w0:Kp} {sp:List (D×Value)} {s:VS} {a:Act} {w w':World} {E E':Env} {f:FuncId}
def aX (d d':D):Prop:=∀ (E:Env) (av:Nat→Prop) (w:World) (v:Value),a7 E av w d v→a7 E av w d' v
theorem aX.refl (d:D):aX d d:=fun _ _ _ _ h=>h
def jf (n:Nat) (x:ah):Prop:=lC n x=true∨∃ f N sl ps as bd st fW,x=.loop f N sl ps as bd st fW∧∀ t d c,look sl t=some (d,c)→j3 n d=true
theorem Hk {n m:Nat} (h:n≤m) {l:List Nat} (e:vQ n l=true):vQ m l=true:=xF fun r hr=>Nat.lt_of_lt_of_le (rj e r hr) h
theorem tq {n m:Nat} (h:n≤m) {x:C} (e:uN n x=true):uN m x=true:=by
 cases x with
 | im x=>rfl
 | rt r i j=>exact iK (Nat.lt_of_lt_of_le (aK e) h)
 | sa r k=>exact iK (Nat.lt_of_lt_of_le (aK e) h)
 | mp r=>exact iK (Nat.lt_of_lt_of_le (aK e) h)
 | yl r=>exact iK (Nat.lt_of_lt_of_le (aK e) h)
 | ow r j=>exact iK (Nat.lt_of_lt_of_le (aK e) h)
 | mc f l=>exact Hk h e
theorem nE {n m:Nat} (h:n≤m) {l:List C} (e:iL n l=true):iL m l=true:=rV fun x hx=>tq h (iE e x hx)
theorem ze {n m:Nat} (h:n≤m):∀ {l:List (Bool×List C)},Bp n l=true→Bp m l=true
 | [],_=>rfl
 | y::l,e=>by
   obtain ⟨h1,h2⟩:=Bool.gH (show (Bool.rec false (Bp n l) (iL n y.2):Bool)=true from e)
   show (Bool.rec false (Bp m l) (iL m y.2):Bool)=true
   rw [nE h h1]
   exact ze h h2
theorem pS {n m:Nat} (h:n≤m) {d:D} (e:j3 n d=true):j3 m d=true:=by
 cases d with
 | c x=>exact tq h e
 | a l=>exact nE h e
 | t l=>exact ze h e
theorem ya {n:Nat}:∀ {l:List Fc},(∀ x∈l,wv n x=true)→ud n l=true
 | [],_=>rfl
 | y::l,h=>by
   show (Bool.rec false (ud n l) (wv n y):Bool)=true
   rw [h y (eS ..)]
   exact ya fun x hx=>h x (fe _ hx)
theorem LI {n m:Nat} (h:n≤m) {x:Fc} (e:wv n x=true):wv m x=true:=by
 cases x with
 | c x=>exact tq h e
 | o x=>rfl
theorem G3 {n m:Nat} (h:n≤m) {l:List Fc} (e:ud n l=true):ud m l=true:=ya fun x hx=>LI h (qu e x hx)
theorem KZ {n m:Nat} (h:n≤m) {x:ah} (e:lC n x=true):lC m x=true:=by
 cases x with
 | box l=>exact nE h e
 | row el sz k l=>exact nE h e
 | cR el sz k get eG=>
   cases eG with
   | none=>rfl
   | some x=>exact G3 h e
 | loop f N sl ps as bd st fW=>simp [lC] at e
 | _=>rfl
theorem jf.mono {n m:Nat} (h:n≤m) {x:ah}:jf n x→jf m x
 | .inl e=>.inl (KZ h e)
 | .inr ⟨f,N,sl,ps,as,bd,st,fW,e,k⟩=>.inr ⟨f,N,sl,ps,as,bd,st,fW,e,fun t d c q=>pS h (k t d c q)⟩
theorem aM.low {av:Nat→Prop} {base:Nat} {e:fQ} {x:ah} (h:aM E av base w e x):jf E.length x:=by
 cases x with
 | dead=>exact .inl rfl
 | box l=>obtain ⟨_,_,_,_,_,_,p⟩:=h; exact .inl (L.low p)
 | arr el sz n get=>exact .inl rfl
 | row el sz n l=>obtain ⟨_,_,_,_,p⟩:=h; exact .inl (L.low p)
 | cR el sz n get eG=>
   obtain ⟨_,_,xs,_,Ks,_,hf,p⟩:=h
   cases eG with
   | none=>exact .inl rfl
   | some x=>
     obtain ⟨h1,h2⟩:=hf x rfl
     refine .inl (ya fun c hc=>?_)
     obtain ⟨j,hj,hjc⟩:=List.getElem_of_mem hc
     obtain ⟨v,c',_,q2,q3⟩:=p x.1 h1 j (by rw [← h2]; exact hj)
     have e:c'=c:=by
      unfold gg at q2
      simp only [cf,bp,eY hj,aq] at q2
      rw [← q2,hjc]
     subst e
     exact iU.low q3
 | own l=>exact .inl rfl
 | set l=>exact .inl rfl
 | nZ=>exact .inl rfl
 | loop f N sl ps as bd st fW=>
   obtain ⟨b,db,tm,p1,p2,p3,p4,p5⟩:=h
   refine .inr ⟨f,N,sl,ps,as,bd,st,fW,rfl,fun t d c q=>?_⟩
   have hcn:c=[]:=p5 _ (iN q)
   subst hcn
   exact a7.low ((p4 t d [] q).2.1 fun p hp=>by cases hp)
theorem R.cut {sl:aN} {rs:List ah} {df:List Nat} (h:R T N ay w0 sp ⟨sl,rs,df⟩ a w E) {n:Nat} (hn:n≤rs.length) (hsp:∀ x∈sp,j3 n x.1=true) (Fx:∀ t d,look sl t=some (d,[])→j3 n d=true) (qy:∀ t d c,look sl t=some (d,c)→c=[])
  (LN:∀ r∈df,r<n) (E8:∀ (q:Nat) (x:ah),(rs.take n)[q]?=some x→jf n x):R T N ay w0 sp ⟨sl,rs.take n,df⟩ a w (E.take n):=by
 have hk:=Kept.lK E n
 have hEl:(E.take n).length=n:=by rw [List.length_take,h.len]; exact Nat.min_eq_left hn
 have jr:∀ {r b sz:Nat},di (E.take n) r b sz→di E r b sz:=fun ⟨hh,q,q2⟩=>⟨hh,by
  rw [dy] at q
  split at q
  ·exact q
  ·simp at q,q2⟩
 have hr:∀ {q:Nat} {x:ah},(rs.take n)[q]?=some x→rs[q]?=some x:=fun q=>by
  rw [dy] at q
  split at q
  ·exact q
  ·simp at q
 have eP:∀ b,AV ay (rs.take n) (E.take n) b→AV ay rs E b:=by
  rintro b (q|⟨r,x,sz,h1,h2,h3⟩)
  ·exact .inl q
  ·exact .inr ⟨r,x,sz,hr h1,h2,jr h3⟩
 have hD:∀ {d:D} {v:Value},j3 n d=true→a7 E (AV ay rs E) w d v→a7 (E.take n) (AV ay (rs.take n) (E.take n)) w d v:=fun hl q=>a7.shrink hk eP (by rw [hEl]; exact hl) q
 have hC:∀ {l:List C} {cs:List Value},iL n l=true→aB (bh E (AV ay rs E) w) l cs→aB (bh (E.take n) (AV ay (rs.take n) (E.take n)) w) l cs:=fun hl q=>q.shrink fun x hx y p=>bh.shrink hk eP (by rw [hEl]; exact iE hl x hx) p
 have hdef:∀ {df:List Nat} {ds:List Deferred},(∀ r∈df,r<n)→aB (fun r (d:Deferred)=>∃ b sz,bq E r b sz∧d={ target:=.collected b,args := #[] }) df ds→aB (fun r (d:Deferred)=>∃ b sz,bq (E.take n) r b sz∧d={ target:=.collected b,args := #[] }) df ds:=by
  intro df ds h1 h2
  refine h2.shrink fun r Qw d ⟨b,sz,⟨hh,q⟩,e⟩=>⟨b,sz,⟨hh,?_⟩,e⟩
  rw [dy,if_pos (h1 r Qw)]; exact q
 refine ⟨h.size,hdef LN h.defers,fun x hx=>hD (hsp x hx) (h.spec x hx),h.below,by rw [hEl]; simp [Nat.min_eq_left hn],h.outer,?_,fun r x b sz h1 h2 h3=>h.dh r x b sz (hr h1) h2 (jr h3),fun r r' x x' b sz cQ h1 kH h2 gU h3 lE=>h.dQ r r' x x' b sz cQ (hr h1) (hr kH) h2 gU (jr h3) (jr lE),?_,h.gM.mono (ba.refl _ w) (fun b _ q=>eP b q)⟩
 ·intro r x e h1 h2
  have hE:E[r]?=some e:=by
   rw [dy] at h2
   split at h2
   ·exact h2
   ·simp at h2
  have hrel:=h.roots r x e (hr h1) hE
  have ec:=E8 r x h1
  cases x with
  | dead=>trivial
  | box l=>
    obtain ⟨b,cs,Tc,p1,p2,p3,p4⟩:=hrel
    rcases ec with ec|⟨_,_,_,_,_,_,_,_,e,_⟩
    ·exact ⟨b,cs,Tc,p1,p2,p3,hC ec p4⟩
    ·cases e
  | row el sz k l=>
    obtain ⟨p1,p2,xs,p3,p4⟩:=hrel
    rcases ec with ec|⟨_,_,_,_,_,_,_,_,e,_⟩
    ·exact ⟨p1,p2,xs,p3,hC ec p4⟩
    ·cases e
  | arr el sz k get=>
    obtain ⟨p1,p2,xs,p3,p4⟩:=hrel
    refine ⟨p1,p2,xs,p3,fun i hi j hj=>?_⟩
    obtain ⟨x,p5,p6⟩:=p4 i hi j hj
    exact ⟨x,p5,dm.mono (ba.refl _ w) (fun b _ q=>eP b q) p6⟩
  | cR el sz k get eG=>
    obtain ⟨p1,p2,xs,p3,Ks,p4,pf,p5⟩:=hrel
    refine ⟨p1,p2,xs,p3,Ks,p4,pf,fun i hi j hj=>?_⟩
    obtain ⟨x,c,p6,p7,p8⟩:=p5 i hi j hj
    refine ⟨x,c,p6,p7,iU.shrink hk eP ?_ p8⟩
    rw [hEl]
    rcases ec with ec|⟨_,_,_,_,_,_,_,_,e,_⟩
    ·exact Et ec p7
    ·cases e
  | own l=>
    obtain ⟨p1,p2,vs,p3,p4,Ks,p5,p6,p7⟩:=hrel
    refine ⟨p1,p2,vs,p3,p4,Ks,p5,p6,fun i o ho=>?_⟩
    obtain ⟨v,g1,g2⟩:=p7 i o ho
    exact ⟨v,g1,fC.mono (ba.refl _ w) (fun b _ q=>eP b q) (fun _ _=>rfl) g2⟩
  | set l=>exact hrel
  | nZ=>exact hrel
  | loop f M gy ps as bd st fW=>
    obtain ⟨b,db,tm,p1,p2,p3,p4,p5⟩:=hrel
    rcases ec with ec|⟨_,_,_,_,_,_,_,_,e,ec⟩
    ·simp [lC] at ec
    ·simp only [ah.loop.injEq] at e
     obtain ⟨rfl,rfl,rfl,rfl,rfl,rfl,rfl,rfl⟩:=e
     exact ⟨b,db,tm,p1,p2,p3,fun t d c hl=>by
      obtain ⟨s1,s2,s3⟩:=p4 t d c hl
      exact ⟨s1,fun q=>hD (ec t d c hl) (s2 q),s3⟩,p5⟩
 ·intro t d c hl
  have hcn:=qy t d c hl
  subst hcn
  obtain ⟨s1,s2,s3⟩:=h.slots t d [] hl
  exact ⟨s1,fun q=>hD (Fx t d hl) (s2 q),s3⟩
def I5 (x y:ah):Prop:=y=x∨∃ f N sl ps a b st pd Yj pd',x=.loop f N sl ps a b st pd∧y=.loop f N sl ps a b Yj pd'
theorem I5.low {n:Nat} {x y:ah} (h:I5 x y) (hx:jf n x):jf n y:=by
 rcases h with rfl|⟨f,N,sl,ps,a,b,st,pd,Yj,pd',rfl,rfl⟩
 ·exact hx
 ·rcases hx with h|⟨_,_,_,_,_,_,_,_,e,k⟩
  ·simp [lC] at h
  ·simp only [ah.loop.injEq] at e
   obtain ⟨rfl,rfl,rfl,rfl,rfl,rfl,rfl,rfl⟩:=e
   exact .inr ⟨_,_,_,_,_,_,_,_,rfl,k⟩
def E6 (n:Nat):List ah→List ah→Prop
 | _,[]=>True
 | [],y::l=>lC n y=true∧E6 n [] l
 | x::k,y::l=>(I5 x y∨lC n y=true)∧E6 n k l
theorem tW {n:Nat}:∀ {k l:List ah},E6 n k l→∀ (q:Nat) (x:ah),l[q]?=some x→(∃ z,k[q]?=some z∧I5 z x)∨lC n x=true
 | _,[],_,q,x,e=>by simp at e
 | [],y::l,h,0,x,e=>by simp at e; subst e; exact .inr h.1
 | [],y::l,h,q+1,x,e=>by
   rcases tW h.2 q x (by simpa using e) with h1|h1
   ·simp at h1
   ·exact .inr h1
 | z::k,y::l,h,0,x,e=>by
   simp at e; subst e
   exact h.1.imp (fun e=>⟨z,rfl,e⟩) id
 | z::k,y::l,h,q+1,x,e=>by simpa using tW h.2 q x (by simpa using e)
theorem bz (n:Nat):∀ l,E6 n l l
 | []=>trivial
 | _::l=>⟨.inl (.inl rfl),bz n l⟩
def Ends (rs:List ah) (d:D) (aG:List ah) (d1:D) (fT:List ah):Prop:=∃ n,rs.length≤n∧n≤fT.length∧fT.take n=aG∧j3 n d1=true∧aX d1 d∧E6 n rs aG
theorem R.ends {sl:aN} {rs fT aG:List ah} {df:List Nat} (h:R T N ay w0 sp ⟨sl,rs,df⟩ a w E) (qy:∀ t d c,look sl t=some (d,c)→c=[]) (h':R T N ay w0 sp ⟨sl,fT,df⟩ a w' E') (hk:Kept E E') {d d1:D} (he:Ends rs d aG d1 fT) {v:Value} (hv:a7 E' (AV ay fT E') w' d1 v) :
  ∃ xc,Kept E xc∧R T N ay w0 sp ⟨sl,aG,df⟩ a w' xc∧a7 xc (AV ay aG xc) w' d v:=by
 obtain ⟨n,h1,h2,rfl,h4,h5,h6⟩:=he
 have hlE:E.length=rs.length:=h.len
 have hlE':E'.length=fT.length:=h'.len
 have hcut:=h'.cut h2 (fun x hx=>pS (by omega) (a7.low (h.spec x hx))) (fun t d hl=>pS (by omega) (a7.low ((h.slots t d [] hl).2.1 fun p hp=>by cases hp))) qy (fun r hr=>by
   obtain ⟨dd,b,sz,q,_⟩:=h.defers.left r hr
   have:=oL q
   omega) (fun q x hx=>by
   rcases tW h6 q x hx with ⟨z,hq,hz⟩|hq
   ·have dD:q<E.length:=by rw [hlE]; exact (List.getElem?_eq_some_iff.1 hq).1
    exact hz.low ((aM.low (h.roots q z _ hq (eY dD))).mono (by omega))
   ·exact .inl hq)
 have hk2:Kept E (E'.take n):=by
  have hEt:E.take n=E:=List.take_of_length_le (by omega)
  have:=hk.take n
  rwa [hEt] at this
 refine ⟨E'.take n,hk2,hcut,h5 _ _ _ _ (a7.shrink (Kept.lK E' n) (fun b q=>?_) (by rw [List.length_take,hlE',Nat.min_eq_left h2]; exact h4) hv)⟩
 rcases q with q|⟨r,x,sz,q1,q2,⟨hh,q3⟩⟩
 ·exact .inl q
 ·rw [dy] at q1 q3
  split at q1
  ·rename_i dD
   rw [if_pos dD] at q3
   exact .inr ⟨r,x,sz,q1,q2,hh,q3⟩
  ·simp at q1
theorem JD {fn:Func} {c:Code} (hf:P.funcs[f]?=some fn) (hc:fn.body=some c) {ds:List D} (hlen:ds.length≤fn.ntmps) {sl:aN} {rs:List ah} {df:List Nat} (h:R T N ay w0 sp ⟨sl,rs,df⟩ a w E) {vs:List Value} (hv:aB (a7 E (AV ay rs E) w) ds vs) :
  ∃ (b:Frame) (tm:Array Value),b.fn=f∧b.roundOf=none∧b.kind=.normal∧Frame.enter P f vs.toArray .normal=b.atR { tmps:=tm,defers:=[] } [.code c]∧R T fn.ntmps ay w0 (nX sl a++sp) ⟨dN 0 ds,rs,[]⟩ { tmps:=tm,defers:=[] } w E:=by
 let b:Frame:={ (default:Frame) with fn:=f,kind:=.normal,roundOf:=none }
 let tm:=vs.toArray++Array.replicate (fn.ntmps-vs.toArray.size) undef
 have hvl:=hv.length
 have henter:Frame.enter P f vs.toArray .normal=b.atR { tmps:=tm,defers:=[] } [.code c]:=by
  simp [Frame.enter,Frame.atR,hf,hc,b,tm]
 have htm:tm.size=fn.ntmps:=by simp only [tm,Array.size_append,Array.size_replicate,List.size_toArray]; omega
 refine ⟨b,tm,rfl,rfl,rfl,henter,h.Ax (M:=fn.ntmps) (Jt:=dN 0 ds) (tm:=tm) htm (fun t d' c' hl=>?_)⟩
 obtain ⟨rfl,_,h2⟩:=lZ hl
 simp only [Nat.sub_zero] at h2
 have ht:t<ds.length:=(List.getElem?_eq_some_iff.1 h2).1
 obtain ⟨v,h3,h4⟩:=hv.nth (i:=t) (x:=d') (by rw [bp]; exact h2)
 refine ⟨Nat.lt_of_lt_of_le ht hlen,fun _=>?_,fun q=>(q fun p hp=>by cases hp).elim⟩
 have hg:tm.getD t undef=v:=by
  have htv:t<vs.length:=by rw [← hvl]; exact ht
  have:vs[t]?=some v:=h3
  simp only [tm]
  rw [Array.getD_eq_getD_getElem?,Array.getElem?_append_left (by simpa using htv)]
  simp [this]
 rw [hg]
 exact h4
theorem D8 (bQ:dV P T) {fn:Func} (hf:P.funcs[f]?=some fn) (sP:(fn.name == "runtime.NumGoroutine")=false) {c:Code} (hc:fn.body=some c) {ds:List D} {rs:List ah} {d:D} {aG:List ah} (hlen:ds.length≤fn.ntmps) {Q:D→List ah→Prop} (hQ:∀ {ay:Nat→Prop} {w0:Kp} {sp:List (D×Value)} {a:Act} {w w':World} {E E':Env} {d1:D} {fT:List ah} {v:Value},Q d1 fT→(∀ x∈sp,j3 rs.length x.1=true)→R T fn.ntmps ay w0 sp ⟨[],rs,[]⟩ a w E→R T fn.ntmps ay w0 sp ⟨[],fT,[]⟩ a w' E'→Kept E E'→a7 E' (AV ay fT E') w' d1 v→∃ xc,Kept E xc∧R T fn.ntmps ay w0 sp ⟨[],aG,[]⟩ a w' xc∧a7 xc (AV ay aG xc) w' d v)
  (hg:∀ (b:Frame) (cs:List Frame),b.fn=f→Goal P T fn.ntmps b cs none rs.length (uo T fn.results.toList Q) [.code c] ⟨dN 0 ds,rs,[]⟩):cu T P f ds rs d aG:=by
 refine ⟨⟨fn,hf,sP,by simp [hc]⟩,?_⟩
 intro N ay w0 sp sl df a w E vs h0 hv cs
 obtain ⟨b,tm,Gv,hbr,hbk,henter,hR⟩:=JD (P:=P) (f:=f) hf hc hlen h0 hv
 have ec:∀ x∈nX sl a++sp,j3 rs.length x.1=true:=fun x hx=>by
  have:=a7.low (hR.spec x hx)
  rwa [hR.len] at this
 obtain ⟨j,s,a',w1,E',dB,hk,tT,xY,hend,hpost,hsteps⟩:=hg b cs Gv _ _ _ _ _ _ (bk _) ec hbr hR kC
 have hEt:E.take rs.length=E:=List.take_of_length_le (Nat.le_of_eq h0.len)
 rw [hEt] at hk
 obtain ⟨hret,hpost⟩:=bW.1 hpost
 obtain ⟨x,hres0,hpost⟩:=cL hpost
 obtain ⟨d1,fT⟩:=x
 unfold NB at hres0
 split at hres0
 case h_2=>simp at hres0
 rename_i pQ htake
 split at hres0
 case h_2=>simp at hres0
 rename_i d2 yG
 simp only [aq,bs] at hres0
 obtain ⟨rfl,rfl⟩:=hres0
 have hback:Steps P (lone (b.atR a' dB) cs w1) (lone { b.atR a' dB with mode:=.returning } cs w1):=by
  cases j with
  | none=>
    have hend:dB=[]:=hend
    subst hend
    exact .one (stepR_end hbr)
  | some c' =>
    rcases hend with ⟨k,rfl,rfl⟩|⟨id,k,rfl,_,_⟩
    ·exact .one (stepR_ret hbr)
    ·simp [MS] at hret
 have hR'':R T fn.ntmps ay w0 (nX sl a++sp) ⟨s.sl,s.rs,s.df⟩ a' w1 E':=tT
 obtain ⟨w2,hR2,hst2⟩:=su (P:=P) (cs:=cs) s.df (fr:={ b.atR a' dB with mode:=.returning }) htake hR'' rfl rfl
 obtain ⟨pr,hpr1,hpr2⟩:=Ho (s:=⟨s.sl,pQ,[]⟩) xY yG
 obtain ⟨v,hrv,hdv⟩:=me bQ hR2 hpr1 hpr2
 have hR3:R T fn.ntmps ay w0 (nX sl a++sp) ⟨[],pQ,[]⟩ { a' with defers:=[] } w2 E':=⟨hR2.size,hR2.defers,hR2.spec,hR2.below,hR2.len,hR2.outer,hR2.roots,hR2.dh,hR2.dQ,fun t d c q=>by simp [look] at q,hR2.gM⟩
 have hR0:R T fn.ntmps ay w0 (nX sl a++sp) ⟨[],rs,[]⟩ { tmps:=a'.tmps,defers:=[] } w E:=⟨hR2.size,.nil,hR.spec,hR.below,hR.len,hR.outer,hR.roots,hR.dh,hR.dQ,fun t d c q=>by simp [look] at q,hR.gM⟩
 obtain ⟨xc,hk2,hR4,hd4⟩:=hQ hpost ec hR0 hR3 hk hdv
 refine ⟨.returned v,w2,{ { b.atR a' dB with mode:=.returning } with defers:=[] },⟨v,xc,rfl,hk2,h0.back (s':=⟨[],aG,[]⟩) hR4 hk2.le,hd4⟩,?_,?_,?_,?_,?_,fn,?_,hrv⟩
 ·rw [henter]
  exact (hsteps.trans hback).trans hst2
 all_goals first|rfl|exact Gv|exact hbk|exact hbr|exact (show P.funcs[b.fn]?=some fn from Gv▸hf)
theorem SS (bQ:dV P T) {fn:Func} (hf:P.funcs[f]?=some fn) (sP:(fn.name == "runtime.NumGoroutine")=false) {c:Code} (hc:fn.body=some c) {ds:List D} {rs:List ah} {d:D} {aG:List ah} (hlen:ds.length≤fn.ntmps)
  (hg:∀ (b:Frame) (cs:List Frame),b.fn=f→Goal P T fn.ntmps b cs none rs.length (uo T fn.results.toList (Ends rs d aG)) [.code c] ⟨dN 0 ds,rs,[]⟩):cu T P f ds rs d aG:=
 D8 bQ hf sP hc hlen (fun hq _ h h' hk hv=>h.ends (fun t d c q=>by simp [look] at q) h' hk hq hv) hg
theorem K7 (bQ:dV P T) {r M:Nat} {g:FuncId} {QX Jt:aN} {ps:List Tmp} {as bd:Code} {ds:List D} {rs:List ah} {d:D} {aG:List ah} (hr:rs[r]?=some (.loop g M QX ps as bd .ready none)) (NQ:Mc M ps ds QX=some Jt)
  (hg:∀ (b:Frame) (cs:List Frame),b.fn=g→Goal P T M b cs (some r) rs.length (Un r (Ends rs d aG)) [.code as,.beginRound,.code bd] ⟨Jt,rs,[]⟩):ti T P r ds rs d aG:=by
 constructor
 intro N ay w0 sp sl df a w E vs h hv
 obtain ⟨l,hd,sz,db,tm,h1,h2,h3,h4,h5⟩:=h.loop hr
 have hR:=h.Ax (M:=M) (Jt:=QX) (tm:=tm) h3 h4
 obtain ⟨hlen,hR1,Uh⟩:=GZ (tms:=id) NQ hR h5 hv
 have hy:=run_yield (P:=P) (args:=vs.toArray) h2 (by simp [hlen])
 refine ⟨l,sz,g,_,as,bd,⟨hd,h1⟩,hy,?_⟩
 have htm:(Array.foldl (fun tmps x=>match x with
   | (t,a)=>tmps.setIfInBounds t a) tm (ps.toArray.zip vs.toArray))=(ps.zip vs).foldl (fun tmps x=>tmps.setIfInBounds x.1 x.2) tm:=by
  simp
 intro c cs
 simp only at htm ⊢
 rw [htm]
 let b:Frame:={ (default:Frame) with fn:=g,kind:=.normal,roundOf:=some l }
 have hb0:∀ tm,Frame.round l g tm as bd .normal=b.atR { tmps:=tm,defers:=[] } [.code as,.beginRound,.code bd]:=fun tm=>by
  simp [Frame.round,Frame.atR,b]
 rw [hb0]
 have ec:∀ x∈nX sl a++sp,j3 rs.length x.1=true:=fun x hx=>by
  have:=a7.low (hR.spec x hx)
  rwa [hR.len] at this
 have hEt:E.take rs.length=E:=List.take_of_length_le (Nat.le_of_eq h.len)
 obtain ⟨j,s,a',w1,E',dB,hk,tT,xY,hend,hpost,hsteps⟩:=hg b (c::cs) rfl _ _ _ _ _ _ (bk _) ec (by rw [hEt]; exact ⟨l,sz,rfl,hd,h1⟩) hR1 Uh
 rw [hEt] at hk
 obtain ⟨x,e,hpost⟩:=cL hpost
 obtain ⟨d1,fT⟩:=x
 unfold CZ at e
 split at e
 case h_2=>simp at e
 rename_i LN
 split at e
 case h_2=>simp at e
 rename_i g' M' gy TJ Te Re Qw
 rw [bT] at Qw
 obtain ⟨l',qk,cQ,db',tm',q1,q2,q3,q4,q5⟩:=tT.loop Qw
 obtain ⟨K,hE',_⟩:=hk.le r _ h1 (fQ.Je rfl)
 rw [hE'] at q1
 simp only [fQ.wk,aq,bs] at q1
 obtain ⟨rfl,rfl,rfl⟩:=q1
 have fin:∀ (st:LoopState) (fW:Option Code) (bv:Bool),d1=bool bv→fT=setAt s.rs r (.loop g' M' gy TJ Te Re st fW)→
   ∃ xc,Kept E xc∧R T N ay w0 sp ⟨sl,aG,df⟩ a (w1.putObj l (.loop { state:=st,pending:=fW,fn:=g',tmps:=tm',params:=TJ.toArray,assign:=Te,body:=Re,defers:=db' })) xc∧a7 xc (AV ay aG xc) (w1.putObj l (.loop { state:=st,pending:=fW,fn:=g',tmps:=tm',params:=TJ.toArray,assign:=Te,body:=Re,defers:=db' })) d (.bool bv):=by
  intro st fW bv hd1 am7
  have hT:=tT.sS Qw hE' q2 q3 q4 q5 st fW
  rw [← am7] at hT
  have hsd:s.df=[]:=LN
  have hR3:R T M ay w0 (nX sl a++sp) ⟨[],fT,[]⟩ { a' with defers:=[] } (w1.putObj l (.loop { state:=st,pending:=fW,fn:=g',tmps:=tm',params:=TJ.toArray,assign:=Te,body:=Re,defers:=db' })) E':=⟨hT.size,.nil,hT.spec,hT.below,hT.len,hT.outer,hT.roots,hT.dh,hT.dQ,fun t d c q=>by simp [look] at q,hT.gM⟩
  have hR0:R T M ay w0 (nX sl a++sp) ⟨[],rs,[]⟩ { tmps:=a'.tmps,defers:=[] } w E:=⟨hT.size,.nil,hR1.spec,hR1.below,hR1.len,hR1.outer,hR1.roots,hR1.dh,hR1.dQ,fun t d c q=>by simp [look] at q,hR1.gM⟩
  obtain ⟨xc,hk2,hR4,hd4⟩:=hR0.ends (fun t d c q=>by simp [look] at q) hR3 hk hpost (v:=.bool bv) (by rw [hd1]; exact ⟨rfl,rfl⟩)
  exact ⟨xc,hk2,h.back (s':=⟨[],aG,[]⟩) hR4 hk2.le,hd4⟩
 cases j with
 | none=>
   simp only [aq,bs] at e
   have hend:dB=[]:=hend
   subst hend
   exact ⟨.bool true,_,fin .ready none true e.1.symm e.2.symm,hsteps.trans (.one (stepR_round_end rfl rfl (run_endRound none q2)))⟩
 | some c' =>
   simp only [aq,bs] at e
   refine ⟨.bool false,_,fin .done (some c') false e.1.symm e.2.symm,hsteps.trans (.one ?_)⟩
   rcases hend with ⟨k,rfl,rfl⟩|⟨id,k,rfl,rfl,hx⟩
   ·exact stepR_round_ret rfl rfl (run_endRound (some .ret) q2)
   ·exact stepR_round_exit rfl rfl hx (run_endRound (some (.exit id)) q2)
end
open Go.RowKit
section
variable {P:Program} {T:dY} {N:Nat} {ay:Nat→Prop} {w0:Kp} {sp:List (D×Value)} {s s':VS} {a:Act} {w w':World} {E E':Env} {f:FuncId} {b:Frame} {cs:List Frame} {ro:Option Nat} {n0:Nat} {eX:Option Code→VS→Prop} {todo:List Item}
def aW (d:D) (d1:D) (fT:List ah):Prop:=cV (bj fT d1) fun d2=>aX d2 d
theorem Pu (bQ:dV P T) {fn:Func} (hf:P.funcs[f]?=some fn) (sP:(fn.name == "runtime.NumGoroutine")=false) {c:Code} (hc:fn.body=some c) {ds:List D} {d:D} (hlen:ds.length≤fn.ntmps)
  (hg:∀ (b:Frame) (cs:List Frame),b.fn=f→Goal P T fn.ntmps b cs none 0 (uo T fn.results.toList (aW d)) [.code c] ⟨dN 0 ds,[],[]⟩):cu T P f ds [] d []:=by
 refine ⟨⟨fn,hf,sP,by simp [hc]⟩,?_⟩
 intro N ay w0 sp sl df a w E vs h0 hv cs
 obtain ⟨b,tm,Gv,hbr,hbk,henter,hR⟩:=JD (P:=P) (f:=f) hf hc hlen h0 hv
 have hE0:E=[]:=List.eq_nil_of_length_eq_zero h0.len
 subst hE0
 have ec:∀ x∈nX sl a++sp,j3 0 x.1=true:=fun x hx=>a7.low (hR.spec x hx)
 obtain ⟨j,s,a',w1,E',dB,hk,tT,xY,hend,hpost,hsteps⟩:=hg b cs Gv _ _ _ _ _ _ (bk _) ec hbr hR kC
 obtain ⟨hret,hpost⟩:=bW.1 hpost
 obtain ⟨x,hres0,hpost⟩:=cL hpost
 obtain ⟨d2,hreify,hle⟩:=cL hpost
 obtain ⟨d1,fT⟩:=x
 unfold NB at hres0
 split at hres0
 case h_2=>simp at hres0
 rename_i pQ htake
 split at hres0
 case h_2=>simp at hres0
 rename_i d3 yG
 simp only [aq,bs] at hres0
 obtain ⟨rfl,rfl⟩:=hres0
 have hback:Steps P (lone (b.atR a' dB) cs w1) (lone { b.atR a' dB with mode:=.returning } cs w1):=by
  cases j with
  | none=>
    have hend:dB=[]:=hend
    subst hend
    exact .one (stepR_end hbr)
  | some c' =>
    rcases hend with ⟨k,rfl,rfl⟩|⟨id,k,rfl,_,_⟩
    ·exact .one (stepR_ret hbr)
    ·simp [MS] at hret
 have hR'':R T fn.ntmps ay w0 (nX sl a++sp) ⟨s.sl,s.rs,s.df⟩ a' w1 E':=tT
 obtain ⟨w2,hR2,hst2⟩:=su (P:=P) (cs:=cs) s.df (fr:={ b.atR a' dB with mode:=.returning }) htake hR'' rfl rfl
 obtain ⟨pr,hpr1,hpr2⟩:=Ho (s:=⟨s.sl,pQ,[]⟩) xY yG
 obtain ⟨v,hrv,hdv⟩:=me bQ hR2 hpr1 hpr2
 have hR3:R T fn.ntmps ay w0 (nX sl a++sp) ⟨[],pQ,[]⟩ { a' with defers:=[] } w2 E':=⟨hR2.size,hR2.defers,hR2.spec,hR2.below,hR2.len,hR2.outer,hR2.roots,hR2.dh,hR2.dQ,fun t d c q=>by simp [look] at q,hR2.gM⟩
 have hcut:=hR3.cut (n:=0) (bu _) ec (fun t d q=>by simp [look] at q) (fun t d c q=>by simp [look] at q) (fun r hr=>by cases hr) (fun q x hx=>by simp at hx)
 have hd2:a7 [] ay w2 d2 v:=qY hR2 (kj.outer hR2) hreify hdv
 refine ⟨.returned v,w2,{ { b.atR a' dB with mode:=.returning } with defers:=[] },⟨v,[],rfl,Kept.refl _,h0.back (s':=⟨[],[],[]⟩) hcut (Env.le_refl _),?_⟩,?_,?_,?_,?_,?_,fn,?_,hrv⟩
 ·refine hle _ _ _ _ (a7.mono (Env.le_refl _) (ba.refl _ w2) (fun b _ q=>(tu b).1 q) hd2)
 ·rw [henter]
  exact (hsteps.trans hback).trans hst2
 all_goals first|rfl|exact Gv|exact hbk|exact hbr|exact (show P.funcs[b.fn]?=some fn from Gv▸hf)
theorem Goal.ghost (g:Goal P T N b cs ro n0 eX todo s') (h:∀ ay w0 sp a w E,(∀ x∈sp,j3 n0 x.1=true)→n0≤s.rs.length→R T N ay w0 sp s a w E→bN s.sl→∃ E',E'.take n0=E.take n0∧R T N ay w0 sp s' a w E'∧bN s'.sl):Goal P T N b cs ro n0 eX todo s:=by
 intro ay w0 sp a w E uu ec Iv hR hn
 obtain ⟨E',h1,h2,h3⟩:=h ay w0 sp a w E ec uu hR hn
 have hl:n0≤s'.rs.length:=by
  have e:=congrArg List.length h1
  rw [List.length_take,List.length_take,hR.len,h2.len] at e
  omega
 have:=g ay w0 sp a w E' hl ec (by rw [h1]; exact Iv) h2 h3
 rw [h1] at this
 exact this
theorem Goal.swap {r:Nat} {x y:ah} (hr:aV s.rs r=some x) (hl:y.live→x.live) (hx:∀ (base:Nat) (E:Env) (w:World) e av,aM E av base w e x→aM E av base w e y)
  (g:Goal P T N b cs ro n0 eX todo { s with rs:=setAt s.rs r y }):Goal P T N b cs ro n0 eX todo s:=
 g.ghost fun ay w0 sp a w E ec uu hR hn=>⟨E,rfl,by
  rw [bT] at hr
  rw [aQ]
  exact hR.swap hr hl fun e av q _=>hx _ _ _ _ _ q,hn⟩
def dr (x y:I):Prop:=∀ av w v,dm av w x v→dm av w y v
theorem dr.refl (x:I):dr x x:=fun _ _ _ h=>h
theorem dr.nil (sz:Nat) (get:Nat→Nat→I):dr (.v (.slice none 0 0)) (.sl sz 0 get):=by
 rintro av w v ⟨rfl,_⟩
 exact ⟨none,0,rfl,bk _,bu _,fun h=>by omega⟩
theorem Goal.arr {r el sz n:Nat} {get get':Nat→Nat→I} (hr:aV s.rs r=some (.arr el sz n get)) (h:∀ i,i<n→∀ j,j<sz→dr (get i j) (get' i j))
  (g:Goal P T N b cs ro n0 eX todo { s with rs:=setAt s.rs r (.arr el sz n get') }):Goal P T N b cs ro n0 eX todo s:=
 Goal.swap (x:=.arr el sz n get) hr (fun _=>trivial) (fun base E w e av q=>by
  obtain ⟨p1,p2,xs,p3,p4⟩:=q
  exact ⟨p1,p2,xs,p3,fun i hi j hj=>by
   obtain ⟨x,p5,p6⟩:=p4 i hi j hj
   exact ⟨x,p5,h i hi j hj _ _ _ p6⟩⟩) g
theorem Goal.freeze {r:Nat} (h:Go.V.freeze r s=some s') (g:Goal P T N b cs ro n0 eX todo s'):Goal P T N b cs ro n0 eX todo s:=
 g.ghost fun ay w0 sp a w E ec uu hR hn=>⟨E,rfl,(hR.freeze h).1,(hR.freeze h).2 hn⟩
def TY (sl:aN):aN→Prop
 | []=>True
 | x::l=>(x.2.2=[]∧∃ d0,fc sl x.1=some d0∧aX d0 x.2.1)∧TY sl l
theorem sC {sl:aN}:∀ {l:aN},TY sl l→∀ x∈l,x.2.2=[]∧∃ d0,fc sl x.1=some d0∧aX d0 x.2.1
 | [],_,x,hx=>by cases hx
 | y::l,h,x,hx=>by
   rcases List.mem_cons.1 hx with rfl|hx
   ·exact h.1
   ·exact sC h.2 x hx
theorem Goal.slots {gy:aN} (h:TY s.sl gy) (g:Goal P T N b cs ro n0 eX todo { s with sl:=gy }):Goal P T N b cs ro n0 eX todo s:=
 g.ghost fun ay w0 sp a w E ec uu hR hn=>⟨E,rfl,⟨hR.size,hR.defers,hR.spec,hR.below,hR.len,hR.outer,hR.roots,hR.dh,hR.dQ,fun t d c hl=>by
  obtain ⟨h1,d0,h2,h3⟩:=sC h _ (iN hl)
  have h1:c=[]:=h1
  subst h1
  have h4:=gK hn h2
  obtain ⟨q1,q2,q3⟩:=hR.slots t d0 [] h4
  exact ⟨q1,fun q=>h3 _ _ _ _ (q2 q),q3⟩,hR.gM⟩,fun x hx=>(sC h x hx).1⟩
theorem R.OT (h:R T N ay w0 sp s a w E) (el sz:Nat) (get:Nat→Nat→I):R T N ay w0 sp { s with rs:=s.rs++[.arr el sz 0 get] } a w (E++[(Option.none,nW (.slice Option.none 0 0),sz)]):=by
 have hE:=Env.eK E [(Option.none,nW (.slice Option.none 0 0),sz)]
 have jr:∀ {r b z:Nat},di (E++[(Option.none,nW (.slice Option.none 0 0),sz)]) r b z→di E r b z:=by
  rintro r b z ⟨hh,q,q2⟩
  rcases Nat.lt_or_ge r E.length with hr|hr
  ·rw [dH hr] at q; exact ⟨hh,q,q2⟩
  ·rw [gC hr] at q
   rcases Nat.eq_zero_or_pos (r-E.length) with e|e
   ·rw [e] at q; simp at q; subst q; rcases q2 with ⟨_,q2|q2⟩<;>simp at q2
   ·rw [List.getElem?_eq_none (by simp; omega)] at q; simp at q
 have key:∀ (r:Nat) (y:ah) (b z:Nat),(s.rs++[ah.arr el sz 0 get])[r]?=some y→y.live→di (E++[(Option.none,nW (.slice Option.none 0 0),sz)]) r b z→s.rs[r]?=some y:=by
  intro r y b z h1 h2 h3
  have dD:r<E.length:=by obtain ⟨_,q,_⟩:=jr h3; exact (List.getElem?_eq_some_iff.1 q).1
  rw [h.len] at dD
  rwa [dH dD] at h1
 have eP:∀ b,AV ay (s.rs++[.arr el sz 0 get]) (E++[(Option.none,nW (.slice Option.none 0 0),sz)]) b→AV ay s.rs E b:=by
  rintro b (q|⟨r,x,z,h1,h2,h3⟩)
  ·exact .inl q
  ·exact .inr ⟨r,x,z,key r x b z h1 h2 h3,h2,jr h3⟩
 refine h.wE (aG:=s.rs++[.arr el sz 0 get]) hE (ba.refl _ w) h.below (fun b _ q=>eP b q) (by simp [h.len]) ?_ ?_ ?_
 ·intro r x e h1 h2
  rcases Nat.lt_or_ge r s.rs.length with hr|hr
  ·rw [dH hr] at h1
   rw [dH (by rw [h.len]; exact hr)] at h2
   exact aM.mono hE (ba.refl _ w) (fun b _ q=>eP b q) (fun _ _ _=>rfl) (h.roots r x e h1 h2)
  ·have hr2:r<s.rs.length+1:=by simpa using (List.getElem?_eq_some_iff.1 h1).1
   have e0:r=s.rs.length:=by omega
   subst e0
   rw [gC (bk _)] at h1
   rw [gC (by rw [h.len]; exact bk _)] at h2
   simp at h1
   rw [h.len] at h2
   simp at h2
   subst h1 h2
   exact ⟨rfl,rfl,[],w.ownsRow_nil _ _ _,fun i hi=>by omega⟩
 ·intro r x b z h1 h2 h3
  exact h.dh r x b z (key r x b z h1 h2 h3) h2 (jr h3)
 ·intro r r' x x' b z z' h1 kH h2 gU h3 lE
  exact h.dQ r r' x x' b z z' (key r x b z h1 h2 h3) (key r' x' b z' kH gU lE) h2 gU (jr h3) (jr lE)
def Xo:Nat→Nat→I:=fun _ _=>.v (.bool false)
def Hz (t:Tmp) (el sz:Nat) (s:VS):VS:={ s with sl:=(t,.c (.sa s.rs.length 0),[])::s.sl,rs:=s.rs++[.arr el sz 0 Xo] }
theorem Goal.xJ {t:Tmp} {el sz:Nat} (ht:fc s.sl t=some (.c (.im (.v (.slice none 0 0))))) (g:Goal P T N b cs ro n0 eX todo (Hz t el sz s)):Goal P T N b cs ro n0 eX todo s:=
 g.ghost fun ay w0 sp a w E ec uu hR hn=>by
  have h1:=hR.OT el sz Xo
  refine ⟨_,?_,⟨h1.size,h1.defers,h1.spec,h1.below,h1.len,h1.outer,h1.roots,h1.dh,h1.dQ,fun u d c hl=>?_,h1.gM⟩,hn.cons t _⟩
  ·rw [List.take_append_of_le_length (by rw [hR.len]; exact uu)]
  ·simp only [Hz,look] at hl
   split at hl
   ·rename_i he
    have he:=bL he
    subst he
    simp only [aq,bs] at hl
    obtain ⟨rfl,rfl⟩:=hl
    obtain ⟨q1,q2,q3⟩:=hR.slots t _ _ (gK hn ht)
    refine ⟨q1,fun q=>?_,q3⟩
    obtain ⟨hv,_⟩:=q2 q
    rw [hv]
    exact ⟨(none,nW (.slice none 0 0),sz),none,0,0,by rw [← hR.len]; simp,rfl,bk _,rfl⟩
   ·exact h1.slots u d c hl
def M5 (r j el sz:Nat) (l:List C) (s:VS):VS:={ s with rs:=setAt s.rs r (.box (setAt l j (.sa s.rs.length 0)))++[.arr el sz 0 Xo] }
theorem Goal.iz {r j el sz:Nat} {l:List C} (hr:aV s.rs r=some (.box l)) (hj:aV l j=some (.im (.v (.slice none 0 0)))) (g:Goal P T N b cs ro n0 eX todo (M5 r j el sz l s)):Goal P T N b cs ro n0 eX todo s:=
 g.ghost fun ay w0 sp a w E ec uu hR hn=>by
  rw [bT] at hr hj
  have h1:=hR.OT el sz Xo
  have hrl:r<s.rs.length:=(List.getElem?_eq_some_iff.1 hr).1
  have h2:=h1.swap (r:=r) (x:=.box l) (y:=.box (setAt l j (.sa s.rs.length 0))) (by
   show (s.rs++[_])[r]?=_
   rw [dH hrl]; exact hr) (fun _=>trivial) (fun e av ⟨bb,vs,Tc,p1,p2,p3,p4⟩ _=>⟨bb,vs,Tc,p1,by rw [aQ]; simpa using p2,p3,by
    rw [aQ]
    refine aB.tD (by simpa using p4.length) fun i x v hx hv=>?_
    rw [dP] at hx
    split at hx
    ·rename_i hji
     subst hji
     split at hx
     ·simp only [aq] at hx
      subst hx
      obtain ⟨hv2,_⟩:=p4.get hj hv
      rw [hv2]
      exact ⟨(none,nW (.slice none 0 0),sz),none,0,0,by rw [← hR.len]; simp,rfl,bk _,rfl⟩
     ·simp at hx
    ·exact p4.get hx hv⟩)
  refine ⟨E++[(none,nW (.slice none 0 0),sz)],?_,?_,hn⟩
  rotate_left
  ·have e:(s.rs++[ah.arr el sz 0 Xo]).set r (.box (setAt l j (.sa s.rs.length 0)))=setAt s.rs r (.box (setAt l j (.sa s.rs.length 0)))++[.arr el sz 0 Xo]:=by
    rw [aQ,aQ,List.set_append,if_pos hrl]
   have h2:R T N ay w0 sp { s with rs:=(s.rs++[ah.arr el sz 0 Xo]).set r (.box (setAt l j (.sa s.rs.length 0))) } a w (E++[(none,nW (.slice none 0 0),sz)]):=h2
   rw [e] at h2
   exact h2
  ·rw [List.take_append_of_le_length (by rw [hR.len]; exact uu)]
def uO (q:Nat) (l:List Nat):Option Nat:=List.rec none (fun x _ ih=>Bool.rec (match ih with
 | some k=>some (k+1)
 | none=>none) (some 0) (Nat.beq x q)) l
def Ly (π:List Nat) (l:List Nat):Option (List Nat):=List.rec (some []) (fun x _ ih=>match uO x π,ih with
 | some y,some r=>some (y::r)
 | _,_=>none) l
def Lf (π:List Nat) (c:C):Option C:=match c with
 | .im x=>some (.im x)
 | .rt r i j=>match uO r π with
   | some k=>some (.rt k i j)
   | none=>none
 | .sa r m=>match uO r π with
   | some k=>some (.sa k m)
   | none=>none
 | .mp r=>match uO r π with
   | some k=>some (.mp k)
   | none=>none
 | .yl r=>match uO r π with
   | some k=>some (.yl k)
   | none=>none
 | .ow r j=>match uO r π with
   | some k=>some (.ow k j)
   | none=>none
 | .mc f l=>match Ly π l with
   | some l'=>some (.mc f l')
   | none=>none
def DC (π:List Nat) (l:List C):Option (List C):=List.rec (some []) (fun x _ ih=>match Lf π x,ih with
 | some y,some r=>some (y::r)
 | _,_=>none) l
def Ky (π:List Nat) (d:D):Option D:=match d with
 | .c x=>match Lf π x with
   | some y=>some (.c y)
   | none=>none
 | .a l=>match DC π l with
   | some m=>some (.a m)
   | none=>none
 | .t []=>some (.t [])
 | .t _=>none
def zO (π:List Nat) (l:aN):Option aN:=List.rec (some []) (fun x _ ih=>match Ky π x.2.1,ih with
 | some y,some r=>some ((x.1,y,x.2.2)::r)
 | _,_=>none) l
def Mu (π:List Nat) (x:Fc):Option Fc:=match x with
 | .c c=>match Lf π c with
   | some d=>some (.c d)
   | none=>none
 | .o x=>some (.o x)
def L5 (π:List Nat) (l:List Fc):Option (List Fc):=List.rec (some []) (fun x _ ih=>match Mu π x,ih with
 | some y,some r=>some (y::r)
 | _,_=>none) l
def GD (π:List Nat) (x:ah):Option ah:=match x with
 | .cR el sz n get (some x)=>match L5 π x.2 with
   | some m=>some (.cR el sz n get (some (x.1,m)))
   | none=>none
 | .box l=>match DC π l with
   | some m=>some (.box m)
   | none=>none
 | .row el sz n l=>match DC π l with
   | some m=>some (.row el sz n m)
   | none=>none
 | .loop f N sl ps as bd st fW=>match zO π sl with
   | some gy=>some (.loop f N gy ps as bd st fW)
   | none=>none
 | x=>some x
def Oj (π:List Nat) (rs:List ah) (l:List Nat):Option (List ah):=List.rec (some []) (fun q _ ih=>match aV rs q with
 | some x=>match GD π x,ih with
   | some y,some r=>some (y::r)
   | _,_=>none
 | none=>none) l
def iF (l:List Nat):Bool:=List.rec true (fun x l ih=>Bool.rec ih false (oS x l)) l
def Pn (n:Nat) (k:Nat):List Nat→Bool:=Nat.rec (fun _ _=>true) (fun _ ih k l=>match l with
 | x::l=>Bool.rec false (ih (k+1) l) (Nat.beq x k)
 | []=>false) n k
def N6 (n0:Nat) (π:List Nat) (s:VS):Option VS:=match zO π s.sl,Oj π s.rs π,Ly π s.df with
 | some sl,some rs,some df=>Bool.rec none (some ⟨sl,rs,df⟩) (iF π&&Pn n0 0 π)
 | _,_,_=>none
theorem pV:∀ {l:List Nat} {q k:Nat},uO q l=some k→l[k]?=some q
 | [],q,k,h=>by simp [uO] at h
 | x::l,q,k,h=>by
   have h:(Bool.rec (match uO q l with
    | some k=>some (k+1)
    | none=>none) (some 0) (Nat.beq x q):Option Nat)=some k:=h
   cases hb:Nat.beq x q with
   | true=>
     rw [hb] at h
     simp only [aq] at h
     subst h
     rw [bL hb]; rfl
   | false=>
     rw [hb] at h
     simp only at h
     split at h
     ·rename_i k' hk
      simp only [aq] at h
      subst h
      simpa using pV hk
     ·simp at h
def lj (π:List Nat) (E:Env):Env:=π.map fun q=>E.getD q hole
theorem mz {π:List Nat} {k q:Nat} (h:π[k]?=some q) {e:fQ} (he:E[q]?=some e):(lj π E)[k]?=some e:=by
 unfold lj
 rw [List.getElem?_map,h]
 simp [List.getD,he]
theorem PK {π:List Nat} {k:Nat} {e:fQ} (he:(lj π E)[k]?=some e) (rA:e≠hole):∃ q,π[k]?=some q∧E[q]?=some e:=by
 unfold lj at he
 rw [List.getElem?_map] at he
 cases hq:π[k]? with
 | none=>rw [hq] at he; simp at he
 | some q=>
   rw [hq] at he
   simp only [Option.map_some,aq] at he
   refine ⟨q,rfl,?_⟩
   cases hE:E[q]? with
   | none=>rw [List.getD,hE] at he; simp at he; exact (rA he.symm).elim
   | some e'=>rw [List.getD,hE] at he; simp at he; rw [he]
theorem rB {π:List Nat} {k q b sz:Nat} (h:uO q π=some k):bq E q b sz→bq (lj π E) k b sz:=fun ⟨hh,q1⟩=>⟨hh,mz (pV h) q1⟩
section
variable {π:List Nat} {av dp:Nat→Prop}
theorem C9 {E:Env}:∀ {l l':List Nat} {vs:List Value},Ly π l=some l'→aB (fun r x=>∃ b sz,bq E r b sz∧x=.pointer (some ⟨b,0,none⟩)) l vs→aB (fun r x=>∃ b sz,bq (lj π E) r b sz∧x=.pointer (some ⟨b,0,none⟩)) l' vs
 | [],l',_,h,.nil=>by
   have h:some []=some l':=h
   simp only [aq] at h
   subst h; exact .nil
 | x::l,l',_,h,.cons q k=>by
   have h:(match uO x π,Ly π l with
    | some y,some r=>some (y::r)
    | _,_=>none)=some l':=h
   split at h
   case h_2=>simp at h
   rename_i h1 h2
   simp only [aq] at h
   subst h
   obtain ⟨b,sz,q1,q2⟩:=q
   exact .cons ⟨b,sz,rB h1 q1,q2⟩ (C9 h2 k)
theorem J6 {E:Env}:∀ {l l':List Nat} {ds:List Deferred},Ly π l=some l'→aB (fun r (d:Deferred)=>∃ b sz,bq E r b sz∧d={ target:=.collected b,args := #[] }) l ds→aB (fun r (d:Deferred)=>∃ b sz,bq (lj π E) r b sz∧d={ target:=.collected b,args := #[] }) l' ds
 | [],l',_,h,.nil=>by
   have h:some []=some l':=h
   simp only [aq] at h
   subst h; exact .nil
 | x::l,l',_,h,.cons q k=>by
   have h:(match uO x π,Ly π l with
    | some y,some r=>some (y::r)
    | _,_=>none)=some l':=h
   split at h
   case h_2=>simp at h
   rename_i h1 h2
   simp only [aq] at h
   subst h
   obtain ⟨b,sz,q1,q2⟩:=q
   exact .cons ⟨b,sz,rB h1 q1,q2⟩ (J6 h2 k)
theorem vO (ha:∀ b,dp b→av b) {c c':C} {v:Value} (h:Lf π c=some c') (hv:bh E av w c v):bh (lj π E) dp w c' v:=by
 unfold Lf at h
 split at h
 ·simp only [aq] at h; subst h; exact dm.mono (ba.refl _ w) (fun b _ q=>ha b q) hv
 ·split at h
  case h_2=>simp at h
  rename_i hk
  simp only [aq] at h; subst h
  obtain ⟨b,sz,h1,h2⟩:=hv
  exact ⟨b,sz,rB hk h1,h2⟩
 ·split at h
  case h_2=>simp at h
  rename_i hk
  simp only [aq] at h; subst h
  obtain ⟨e,ao,n,cap,h1,h2⟩:=hv
  exact ⟨e,ao,n,cap,mz (pV hk) h1,h2⟩
 ·split at h
  case h_2=>simp at h
  rename_i hk
  simp only [aq] at h; subst h
  obtain ⟨b,sz,h1,h2⟩:=hv
  exact ⟨b,sz,rB hk h1,h2⟩
 ·split at h
  case h_2=>simp at h
  rename_i hk
  simp only [aq] at h; subst h
  obtain ⟨b,sz,h1,h2⟩:=hv
  exact ⟨b,sz,rB hk h1,h2⟩
 ·split at h
  case h_2=>simp at h
  rename_i hk
  simp only [aq] at h; subst h
  obtain ⟨e,vs,h1,h2⟩:=hv
  exact ⟨e,vs,mz (pV hk) h1,h2⟩
 ·split at h
  case h_2=>simp at h
  rename_i hk
  simp only [aq] at h; subst h
  obtain ⟨vs,h1,h2⟩:=hv
  exact ⟨vs,h1,C9 hk h2⟩
theorem pG (ha:∀ b,dp b→av b):∀ {l l':List C} {vs:List Value},DC π l=some l'→aB (bh E av w) l vs→aB (bh (lj π E) dp w) l' vs
 | [],l',_,h,.nil=>by
   have h:some []=some l':=h
   simp only [aq] at h
   subst h; exact .nil
 | x::l,l',_,h,.cons q k=>by
   have h:(match Lf π x,DC π l with
    | some y,some r=>some (y::r)
    | _,_=>none)=some l':=h
   split at h
   case h_2=>simp at h
   rename_i h1 h2
   simp only [aq] at h
   subst h
   exact .cons (vO ha h1 q) (pG ha h2 k)
theorem DF (ha:∀ b,dp b→av b) {d d':D} {v:Value} (h:Ky π d=some d') (hv:a7 E av w d v):a7 (lj π E) dp w d' v:=by
 unfold Ky at h
 split at h
 ·split at h
  case h_2=>simp at h
  rename_i hk
  simp only [aq] at h; subst h
  exact vO ha hk hv
 ·split at h
  case h_2=>simp at h
  rename_i hk
  simp only [aq] at h; subst h
  obtain ⟨vs,h1,h2⟩:=hv
  exact ⟨vs,h1,pG ha hk h2⟩
 ·simp only [aq] at h; subst h
  obtain ⟨vs,h1,h2⟩:=hv
  cases h3:vs.toList with
  | nil=>exact ⟨vs,h1,by rw [h3]; exact .nil⟩
  | cons y l=>rw [h3] at h2; cases h2
 ·simp at h
theorem ru:∀ {sl gy:aN},zO π sl=some gy→∀ t d c,look gy t=some (d,c)→∃ d0,Ky π d0=some d∧look sl t=some (d0,c)
 | [],gy,h,t,d,c,hl=>by
   have h:some []=some gy:=h
   simp only [aq] at h
   subst h; simp [look] at hl
 | x::sl,gy,h,t,d,c,hl=>by
   have h:(match Ky π x.2.1,zO π sl with
    | some y,some r=>some ((x.1,y,x.2.2)::r)
    | _,_=>none)=some gy:=h
   split at h
   case h_2=>simp at h
   rename_i h1 h2
   simp only [aq] at h
   subst h
   obtain ⟨k,d1,c1⟩:=x
   simp only [look] at hl ⊢
   split at hl
   ·rename_i hb
    simp only [aq,bs] at hl
    obtain ⟨rfl,rfl⟩:=hl
    exact ⟨d1,h1,rfl⟩
   ·rename_i hb
    exact ru h2 t d c hl
theorem sV:∀ {sl gy:aN},zO π sl=some gy→bN sl→bN gy
 | [],gy,h,_=>by
   have h:some []=some gy:=h
   simp only [aq] at h
   subst h; exact fun x hx=>by cases hx
 | x::sl,gy,h,hn=>by
   have h:(match Ky π x.2.1,zO π sl with
    | some y,some r=>some ((x.1,y,x.2.2)::r)
    | _,_=>none)=some gy:=h
   split at h
   case h_2=>simp at h
   rename_i h1 h2
   simp only [aq] at h
   subst h
   intro z hz
   rcases List.mem_cons.1 hz with rfl|hz
   ·exact hn x (eS ..)
   ·exact sV h2 (fun y hy=>hn y (fe _ hy)) z hz
theorem aM.Yp {E E':Env} {av dp:Nat→Prop} {base:Nat} {w:World} {e:fQ} {x:ah} (ha:∀ b,dp b→av b) (hx:match x with
  | .cR _ _ _ _ none=>True
  | _=>False) (h:aM E av base w e x):aM E' dp base w e x:=by
 cases x with
 | cR el sz n get eG=>
   cases eG with
   | some y=>exact hx.elim
   | none=>
     obtain ⟨p1,p2,xs,p3,Ks,p4,pf,p5⟩:=h
     refine ⟨p1,p2,xs,p3,Ks,p4,pf,fun i hi j hj=>?_⟩
     obtain ⟨v,c,g1,g2,g3⟩:=p5 i hi j hj
     simp only [gg,aq] at g2
     subst g2
     exact ⟨v,_,g1,rfl,fC.mono (ba.refl _ w) (fun b _ q=>ha b q) (fun _ _=>rfl) g3⟩
 | _=>exact hx.elim
theorem zA:∀ {l m:List Fc},L5 π l=some m→m.length=l.length∧∀ (j:Nat) (c:Fc),l[j]?=some c→∃ c',m[j]?=some c'∧Mu π c=some c'
 | [],m,h=>by
   have h:some []=some m:=h
   simp only [aq] at h
   subst h
   exact ⟨rfl,fun j c hc=>by simp at hc⟩
 | x::l,m,h=>by
   have h:(match Mu π x,L5 π l with
    | some y,some r=>some (y::r)
    | _,_=>none)=some m:=h
   split at h
   case h_2=>simp at h
   rename_i y r h1 h2
   simp only [aq] at h
   subst h
   obtain ⟨h3,h4⟩:=zA h2
   refine ⟨by simp [h3],fun j c hc=>?_⟩
   cases j with
   | zero=>simp at hc; subst hc; exact ⟨y,by simp,h1⟩
   | succ j=>simpa using h4 j c (by simpa using hc)
theorem Mh (ha:∀ b,dp b→av b) {base:Nat} {c c':Fc} {K:Nat→Prop} {v:Value} (h:Mu π c=some c') (hv:iU E av base w c K v):iU (lj π E) dp base w c' K v:=by
 unfold Mu at h
 split at h
 ·split at h
  case h_2=>simp at h
  rename_i h1
  simp only [aq] at h; subst h
  exact vO ha h1 hv
 ·simp only [aq] at h; subst h
  exact fC.mono (ba.refl _ w) (fun b _ q=>ha b q) (fun _ _=>rfl) hv
theorem Ng (ha:∀ b,dp b→av b) {x y:ah} {base:Nat} {e:fQ} (h:GD π x=some y) (hx:aM E av base w e x):aM (lj π E) dp base w e y:=by
 unfold GD at h
 split at h
 ·split at h
  case h_2=>simp at h
  rename_i x0 _ m hk
  simp only [aq] at h; subst h
  obtain ⟨h1,h2⟩:=zA hk
  obtain ⟨p1,p2,xs,p3,Ks,p4,pf,p5⟩:=hx
  obtain ⟨f1,f2⟩:=pf _ rfl
  refine ⟨p1,p2,xs,p3,Ks,p4,fun x hx=>?_,fun i hi j hj=>?_⟩
  ·simp only [aq] at hx; subst hx; exact ⟨f1,h1.trans f2⟩
  ·obtain ⟨v,c,g1,g2,g3⟩:=p5 i hi j hj
   unfold gg at g2 ⊢
   cases hb:Nat.beq i x0.1 with
   | true=>
     simp only [hb,bp] at g2 ⊢
     obtain ⟨c',g4,g5⟩:=h2 j c g2
     exact ⟨v,c',g1,g4,Mh ha g5 g3⟩
   | false=>
     simp only [hb,aq] at g2 ⊢
     subst g2
     exact ⟨v,_,g1,rfl,fC.mono (ba.refl _ w) (fun b _ q=>ha b q) (fun _ _=>rfl) g3⟩
 ·split at h
  case h_2=>simp at h
  rename_i hk
  simp only [aq] at h; subst h
  obtain ⟨b,cs,Tc,p1,p2,p3,p4⟩:=hx
  have h4:=pG ha hk p4
  exact ⟨b,cs,Tc,p1,by rw [p2,p4.length,h4.length],p3,h4⟩
 ·split at h
  case h_2=>simp at h
  rename_i hk
  simp only [aq] at h; subst h
  obtain ⟨p1,p2,xs,p3,p4⟩:=hx
  exact ⟨p1,p2,xs,p3,pG ha hk p4⟩
 ·split at h
  case h_2=>simp at h
  rename_i hk
  simp only [aq] at h; subst h
  obtain ⟨b,db,tm,p1,p2,p3,p4,p5⟩:=hx
  refine ⟨b,db,tm,p1,p2,p3,fun t d c hl=>?_,sV hk p5⟩
  obtain ⟨d0,q1,q2⟩:=ru hk t d c hl
  obtain ⟨s1,s2,s3⟩:=p4 t d0 c q2
  exact ⟨s1,fun q=>DF ha q1 (s2 q),s3⟩
 ·rename_i n0 n1 n2 n3
  simp only [aq] at h; subst h
  cases x with
  | dead=>trivial
  | box l=>exact (n1 _ rfl).elim
  | row el sz n l=>exact (n2 _ _ _ _ rfl).elim
  | loop f N sl ps as bd st fW=>exact (n3 _ _ _ _ _ _ _ _ rfl).elim
  | cR el sz n get eG=>
    cases eG with
    | some x=>exact (n0 _ _ _ _ _ rfl).elim
    | none=>exact aM.Yp (x:=.cR el sz n get none) ha trivial hx
  | arr el sz n get=>
    obtain ⟨p1,p2,xs,p3,p4⟩:=hx
    refine ⟨p1,p2,xs,p3,fun i hi j hj=>?_⟩
    obtain ⟨x,p5,p6⟩:=p4 i hi j hj
    exact ⟨x,p5,dm.mono (ba.refl _ w) (fun b _ q=>ha b q) p6⟩
  | own l=>
    obtain ⟨p1,p2,vs,p3,p4,Ks,p5,p6,p7⟩:=hx
    refine ⟨p1,p2,vs,p3,p4,Ks,p5,p6,fun i o ho=>?_⟩
    obtain ⟨v,g1,g2⟩:=p7 i o ho
    exact ⟨v,g1,fC.mono (ba.refl _ w) (fun b _ q=>ha b q) (fun _ _=>rfl) g2⟩
  | set l=>exact hx
  | nZ=>exact hx
theorem z6 {rs:List ah}:∀ {l:List Nat} {aG:List ah},Oj π rs l=some aG→aG.length=l.length∧∀ (k:Nat) (y:ah),aG[k]?=some y→∃ q x,l[k]?=some q∧rs[q]?=some x∧GD π x=some y
 | [],aG,h=>by
   have h:some []=some aG:=h
   simp only [aq] at h
   subst h
   exact ⟨rfl,fun k y hy=>by simp at hy⟩
 | q::l,aG,h=>by
   have h:(match aV rs q with
    | some x=>match GD π x,Oj π rs l with
      | some y,some r=>some (y::r)
      | _,_=>none
    | none=>none)=some aG:=h
   split at h
   case h_2=>simp at h
   rename_i x hx
   split at h
   case h_2=>simp at h
   rename_i y r h1 h2
   simp only [aq] at h
   subst h
   obtain ⟨h3,h4⟩:=z6 h2
   refine ⟨by simp [h3],fun k z hz=>?_⟩
   cases k with
   | zero=>
     simp at hz
     subst hz
     rw [bT] at hx
     exact ⟨q,x,rfl,hx,h1⟩
   | succ k=>simpa using h4 k z (by simpa using hz)
theorem KQ {x y:ah} (h:GD π x=some y):y.live→x.live:=by
 unfold GD at h
 split at h
 ·exact fun _=>trivial
 ·exact fun _=>trivial
 ·exact fun _=>trivial
 ·exact fun _=>trivial
 ·simp only [aq] at h; subst h; exact id
theorem lT:∀ {l:List Nat},iF l=true→∀ (i j:Nat) (q:Nat),l[i]?=some q→l[j]?=some q→i=j
 | [],_,i,j,q,h,_=>by simp at h
 | x::l,h,i,j,q,h1,h2=>by
   have h:(Bool.rec (iF l) false (oS x l):Bool)=true:=h
   cases hb:oS x l with
   | true=>rw [hb] at h; simp at h
   | false=>
     rw [hb] at h
     have hx:x ∉ l:=fun q=>by rw [jI.2 q] at hb; simp at hb
     cases i with
     | zero=>
       cases j with
       | zero=>rfl
       | succ j=>
         simp at h1 h2
         subst h1
         exact (hx (List.mem_of_getElem? h2)).elim
     | succ i=>
       cases j with
       | zero=>
         simp at h1 h2
         subst h2
         exact (hx (List.mem_of_getElem? h1)).elim
       | succ j=>rw [lT h i j q (by simpa using h1) (by simpa using h2)]
theorem xH:∀ {n k:Nat} {l:List Nat},Pn n k l=true→∀ i,i<n→l[i]?=some (k+i)
 | 0,k,l,_,i,hi=>by omega
 | n+1,k,[],h,i,hi=>by
   have h:(false:Bool)=true:=h
   simp at h
 | n+1,k,x::l,h,i,hi=>by
   obtain ⟨h1,h2⟩:=Bool.gH (show (Bool.rec false (Pn n (k+1) l) (Nat.beq x k):Bool)=true from h)
   cases i with
   | zero=>simp [bL h1]
   | succ i=>
     have:=xH h2 i (by omega)
     rw [show k+(i+1)=k+1+i by omega]
     simpa using this
end
theorem R.renamed {π:List Nat} (h:N6 n0 π s=some s') (ec:∀ x∈sp,j3 n0 x.1=true) (uu:n0≤s.rs.length) (hR:R T N ay w0 sp s a w E) (hn:bN s.sl):∃ E',E'.take n0=E.take n0∧R T N ay w0 sp s' a w E'∧bN s'.sl:=by
  unfold N6 at h
  split at h
  case h_2=>simp at h
  rename_i sl rs df Fx E8 LN
  obtain ⟨hb,h⟩:=Bool.au h
  simp only [dz] at hb
  simp only [aq] at h
  subst h
  obtain ⟨hlen,hget⟩:=z6 E8
  have rz:=lT hb.1
  have hhead:=xH hb.2
  simp only [Nat.zero_add] at hhead
  have htake:(lj π E).take n0=E.take n0:=by
   apply List.ext_getElem?
   intro i
   rw [dy,dy]
   split
   ·rename_i hi
    have dD:i<E.length:=by rw [hR.len]; omega
    rw [mz (hhead i hi) (eY dD),eY dD]
   ·rfl
  have hinv:∀ {k b sz:Nat},di (lj π E) k b sz→∃ q,π[k]?=some q∧di E q b sz:=fun ⟨hh,q,g2,g3⟩=>by
   obtain ⟨q,h1,h2⟩:=PK q (by rintro rfl; exact JG g3)
   exact ⟨q,h1,hh,h2,g2,g3⟩
  have key:∀ (k:Nat) (y:ah) (b sz:Nat),rs[k]?=some y→y.live→di (lj π E) k b sz→∃ q x,π[k]?=some q∧s.rs[q]?=some x∧x.live∧di E q b sz:=by
   intro k y b sz h1 h2 h3
   obtain ⟨q,x,h4,h5,h6⟩:=hget k y h1
   obtain ⟨q',h7,h8⟩:=hinv h3
   rw [h4] at h7
   simp only [aq] at h7
   subst h7
   exact ⟨q,x,h4,h5,KQ h6 h2,h8⟩
  have eP:∀ b,AV ay rs (lj π E) b→AV ay s.rs E b:=by
   rintro b (q|⟨k,y,sz,h1,h2,h3⟩)
   ·exact .inl q
   ·obtain ⟨q,x,_,h5,h6,h7⟩:=key k y b sz h1 h2 h3
    exact .inr ⟨q,x,sz,h5,h6,h7⟩
  refine ⟨lj π E,htake,⟨hR.size,?_,fun x hx=>?_,hR.below,by simp [lj,hlen],hR.outer,?_,?_,?_,?_,hR.gM.mono (ba.refl _ w) (fun b _ q=>eP b q)⟩,sV Fx hn⟩
  ·exact J6 LN hR.defers
  ·have h1:=a7.shrink (Kept.lK E n0) (Fz:=AV ay rs (lj π E)) (fun b q=>eP b q) (by rw [List.length_take,hR.len,Nat.min_eq_left uu]; exact ec x hx) (hR.spec x hx)
   rw [← htake] at h1
   exact a7.mono (Kept.lK (lj π E) n0).le (ba.refl _ w) (fun b _ q=>q) h1
  ·intro k y e h1 h2
   obtain ⟨q,x,h4,h5,h6⟩:=hget k y h1
   have dD:q<E.length:=by rw [hR.len]; exact (List.getElem?_eq_some_iff.1 h5).1
   have hE:=eY dD
   rw [mz h4 hE] at h2
   simp only [aq] at h2
   subst h2
   exact Ng eP h6 (hR.roots q x _ h5 hE)
  ·intro k y b sz h1 h2 h3
   obtain ⟨q,x,_,h5,h6,h7⟩:=key k y b sz h1 h2 h3
   exact hR.dh q x b sz h5 h6 h7
  ·intro k k' y y' b sz cQ h1 kH h2 gU h3 lE
   obtain ⟨q,x,h4,h5,h6,h7⟩:=key k y b sz h1 h2 h3
   obtain ⟨q',x',h4',h5',h6',h7'⟩:=key k' y' b cQ kH gU lE
   have:=hR.dQ q q' x x' b sz cQ h5 h5' h6 h6' h7 h7'
   subst this
   exact rz k k' q h4 h4'
  ·intro t d c hl
   obtain ⟨d0,q1,q2⟩:=ru Fx t d c hl
   obtain ⟨s1,s2,s3⟩:=hR.slots t d0 c q2
   exact ⟨s1,fun q=>DF eP q1 (s2 q),s3⟩
theorem Goal.rename (π:List Nat) (h:N6 n0 π s=some s') (g:Goal P T N b cs ro n0 eX todo s'):Goal P T N b cs ro n0 eX todo s:=
 g.ghost fun ay w0 sp a w E ec uu hR hn=>R.renamed h ec uu hR hn
end
section
variable {P:Program} {T:dY} {N:Nat} {ay:Nat→Prop} {w0:Kp} {sp:List (D×Value)} {s s':VS} {a:Act} {w w':World} {E E':Env} {f:FuncId} {b:Frame} {cs:List Frame} {ro:Option Nat} {n0:Nat} {eX:Option Code→VS→Prop} {todo:List Item}
def aJ (x y:ah):Prop:=(y.live→x.live)∧∀ (base:Nat) (E:Env) (w:World) e av,aM E av base w e x→aM E av base w e y
theorem aJ.refl (x:ah):aJ x x:=⟨id,fun _ _ _ _ _ h=>h⟩
def ei (c c':C):Prop:=∀ (E:Env) (av:Nat→Prop) (w:World) (v:Value),bh E av w c v→bh E av w c' v
theorem ei.refl (c:C):ei c c:=fun _ _ _ _ h=>h
theorem ei.im {x y:I} (h:dr x y):ei (.im x) (.im y):=fun _ av w v q=>h av w v q
theorem ei.nil (sz:Nat) (get:Nat→Nat→I):ei (.im (.v (.slice none 0 0))) (.im (.sl sz 0 get)):=ei.im (dr.nil sz get)
theorem aB.cle {E:Env} {av:Nat→Prop} {w:World}:∀ {l l':List C} {vs:List Value},aB ei l l'→aB (bh E av w) l vs→aB (bh E av w) l' vs
 | _,_,_,.nil,.nil=>.nil
 | _,_,_,.cons q k,.cons q' k'=>.cons (q _ _ _ _ q') (aB.cle k k')
theorem aJ.box {l l':List C} (h:aB ei l l'):aJ (.box l) (.box l'):=⟨fun _=>trivial,fun base E w e av q=>by
 obtain ⟨b,vs,Tc,p1,p2,p3,p4⟩:=q
 have h4:=aB.cle h p4
 exact ⟨b,vs,Tc,p1,by rw [p2,p4.length,h4.length],p3,h4⟩⟩
theorem aJ.arr {el sz n:Nat} {get get':Nat→Nat→I} (h:∀ i,i<n→∀ j,j<sz→dr (get i j) (get' i j)):aJ (.arr el sz n get) (.arr el sz n get'):=⟨fun _=>trivial,fun base E w e av q=>by
 obtain ⟨p1,p2,xs,p3,p4⟩:=q
 exact ⟨p1,p2,xs,p3,fun i hi j hj=>by
  obtain ⟨x,p5,p6⟩:=p4 i hi j hj
  exact ⟨x,p5,h i hi j hj _ _ _ p6⟩⟩⟩
theorem aJ.dead (x:ah):aJ x .dead:=⟨fun h=>h.elim,fun _ _ _ _ _ _=>trivial⟩
theorem aJ.row {el sz n:Nat} {l:List C} {get:Nat→Nat→I} (h:∀ i,i<n→∀ j,j<sz→l[i*sz+j]?=some (.im (get i j))):aJ (.row el sz n l) (.arr el sz n get):=⟨fun _=>trivial,fun base E w e av q=>Tl q h⟩
theorem aB.at_ {α β:Type} {Ra:α→β→Prop} {l:List α} {m:List β} (h:aB Ra l m) {i:Nat} {y:β} (e:m[i]?=some y):∃ x,l[i]?=some x∧Ra x y:=by
 induction h generalizing i with
 | nil=>simp at e
 | cons q _ ih=>
   cases i with
   | zero=>simp at e; subst e; exact ⟨_,rfl,q⟩
   | succ i=>exact ih (by simpa using e)
theorem R.le (h:R T N ay w0 sp s a w E) (hn:bN s.sl) (h1:TY s.sl s'.sl) (h2:aB aJ s.rs s'.rs) (h3:s'.df=s.df):R T N ay w0 sp s' a w E:=by
 have key:∀ (q:Nat) (y:ah),s'.rs[q]?=some y→∃ x,s.rs[q]?=some x∧aJ x y:=fun q y e=>h2.at_ e
 have eP:∀ b,AV ay s'.rs E b→AV ay s.rs E b:=by
  rintro b (q|⟨q,y,sz,g1,g2,g3⟩)
  ·exact .inl q
  ·obtain ⟨x,g4,g5⟩:=key q y g1
   exact .inr ⟨q,x,sz,g4,g5.1 g2,g3⟩
 have h':=h.wE (aG:=s'.rs) (Env.le_refl E) (ba.refl _ w) h.below (fun b _ q=>eP b q) (by rw [h.len,h2.length]) (fun q y e g1 g2=>by
   obtain ⟨x,g4,g5⟩:=key q y g1
   exact g5.2 _ _ _ _ _ (aM.mono (Env.le_refl E) (ba.refl _ w) (fun b _ q=>eP b q) (fun _ _ _=>rfl) (h.roots q x e g4 g2))) (fun q y b sz g1 g2 g3=>by
   obtain ⟨x,g4,g5⟩:=key q y g1
   exact h.dh q x b sz g4 (g5.1 g2) g3) (fun q q' y y' b sz cQ g1 Qu g2 LA g3 Xx=>by
   obtain ⟨x,g4,g5⟩:=key q y g1
   obtain ⟨x',g4',g5'⟩:=key q' y' Qu
   exact h.dQ q q' x x' b sz cQ g4 g4' (g5.1 g2) (g5'.1 LA) g3 Xx)
 exact ⟨h'.size,by rw [h3]; exact h'.defers,h'.spec,h'.below,h'.len,h'.outer,h'.roots,h'.dh,h'.dQ,fun t d c hl=>by
  obtain ⟨g1,d0,g2,g3⟩:=sC h1 _ (iN hl)
  have g1:c=[]:=g1
  subst g1
  obtain ⟨q1,q2,q3⟩:=h'.slots t d0 [] (gK hn g2)
  exact ⟨q1,fun q=>g3 _ _ _ _ (q2 q),q3⟩,h'.gM⟩
theorem Goal.le (h1:TY s.sl s'.sl) (h2:aB aJ s.rs s'.rs) (h3:s'.df=s.df) (g:Goal P T N b cs ro n0 eX todo s'):Goal P T N b cs ro n0 eX todo s:=
 Goal.ghost g fun ay w0 sp a w E ec uu hR hn=>⟨E,rfl,hR.le hn h1 h2 h3,fun x hx=>(sC h1 x hx).1⟩
end
open Go.RowKit
section
def pe {α β:Type} (f:α→β) (l:List α):List β:=List.rec [] (fun x _ ih=>f x::ih) l
theorem iy {α β:Type} (f:α→β) (l:List α):pe f l=l.map f:=by
 induction l with
 | nil=>rfl
 | cons x l ih=>exact congrArg (f x::·) ih
def nV (π:List Nat) (n i:Nat):Nat:=match aV π i with
 | some q=>q
 | none=>n+(i-π.length)
def Fw (ρ:Nat→Nat) (c:C):C:=match c with
 | .im x=>.im x
 | .rt r i j=>.rt (ρ r) i j
 | .sa r m=>.sa (ρ r) m
 | .mp r=>.mp (ρ r)
 | .mc f l=>.mc f (pe ρ l)
 | .yl r=>.yl (ρ r)
 | .ow r j=>.ow (ρ r) j
def JL (ρ:Nat→Nat) (d:D):D:=match d with
 | .c x=>.c (Fw ρ x)
 | .a l=>.a (pe (Fw ρ) l)
 | .t l=>.t (pe (fun x=>(x.1,pe (Fw ρ) x.2)) l)
def Kx (ρ:Nat→Nat) (l:aN):aN:=pe (fun x=>(x.1,JL ρ x.2.1,x.2.2)) l
def mvF (ρ:Nat→Nat) (x:Fc):Fc:=match x with
 | .c x=>.c (Fw ρ x)
 | .o x=>.o x
def yH (ρ:Nat→Nat) (x:ah):ah:=match x with
 | .box l=>.box (pe (Fw ρ) l)
 | .row el sz n l=>.row el sz n (pe (Fw ρ) l)
 | .loop f N sl ps as bd st fW=>.loop f N (Kx ρ sl) ps as bd st fW
 | .dead=>.dead
 | .arr el sz n get=>.arr el sz n get
 | .cR el sz n get none=>.cR el sz n get none
 | .cR el sz n get (some x)=>.cR el sz n get (some (x.1,pe (mvF ρ) x.2))
 | .own l=>.own l
 | .set l=>.set l
 | .nZ=>.nZ
def tb (ρ:Nat→Nat) (π:List Nat):List ah→List ah→List ah→List ah:=List.rec (fun _ aG RS=>RS++pe (yH ρ) aG) (fun q _ ih rs aG RS=>match rs,aG with
 | x::rs,y::aG=>match x with
   | .dead=>ih rs aG RS
   | _=>ih rs aG (setAt RS q (yH ρ y))
 | _,_=>[]) π
def YT (ρ:Nat→Nat) (RS:List ah) (q:Nat) (x y:ah):Prop:=match x with
 | .dead=>y=.dead
 | x=>aV RS q=some (yH ρ x)
def Il (ρ:Nat→Nat) (RS:List ah) (π:List Nat):List ah→List ah→Prop:=List.rec (fun rs _=>rs=[]) (fun q _ ih rs aG=>match rs,aG with
 | x::rs,y::aG=>YT ρ RS q x y∧q<RS.length∧ih rs aG
 | _,_=>False) π
end
section
variable {e E:Env} {av:Nat→Prop} {w:World} {ρ:Nat→Nat}
theorem aB.mH {α β γ:Type} {S:β→γ→Prop} {f:α→β}:∀ {l:List α} {m:List γ},aB S (l.map f) m↔aB (fun x y=>S (f x) y) l m
 | [],m=>⟨fun h=>by cases h; exact .nil,fun h=>by cases h; exact .nil⟩
 | x::l,m=>⟨fun h=>by cases h with|cons a b=>exact .cons a (aB.mH.1 b),fun h=>by cases h with|cons a b=>exact .cons a (aB.mH.2 b)⟩
theorem aB.iff {α β:Type} {R S:α→β→Prop} (h:∀ x y,R x y↔S x y) {l:List α} {m:List β}:aB R l m↔aB S l m:=⟨fun k=>k.mono fun x y=>(h x y).1,fun k=>k.mono fun x y=>(h x y).2⟩
def ko (e E:Env) (ρ:Nat→Nat):Prop:=∀ i,(e[i]?).map (fun x:fQ=>x.wk fun _=>False)=(E[ρ i]?).map fun x:fQ=>x.wk fun _=>False
theorem ko.of {e E:Env} {ρ:Nat→Nat} (h:∀ i,e[i]?=E[ρ i]?):ko e E ρ:=fun i=>by rw [h i]
theorem IX {x y:fQ} {o:Option fQ} (h:o=some x) {p:Option fQ} (hp:o.map (fun x:fQ=>x.wk fun _=>False)=p.map fun x:fQ=>x.wk fun _=>False):∃ K,p=some (x.wk K):=by
 subst h
 cases p with
 | none=>simp at hp
 | some y=>
   simp only [Option.map_some,aq] at hp
   obtain ⟨y1,⟨y2,y3⟩,y4⟩:=y
   simp only [fQ.wk,bs] at hp
   obtain ⟨h1,⟨h2,_⟩,h3⟩:=hp
   exact ⟨y3,by simp only [fQ.wk,h1,h2,h3]⟩
theorem ko.to {e E:Env} {ρ:Nat→Nat} (he:ko e E ρ) {r:Nat} {x:fQ} (h:e[r]?=some x):∃ K,E[ρ r]?=some (x.wk K):=IX (y:=x) h (he r)
theorem ko.back {e E:Env} {ρ:Nat→Nat} (he:ko e E ρ) {r:Nat} {x:fQ} (h:E[ρ r]?=some x):∃ K,e[r]?=some (x.wk K):=IX (y:=x) h (he r).symm
theorem Io (he:ko e E ρ) {r b sz:Nat}:bq e r b sz↔bq E (ρ r) b sz:=by
 constructor
 ·rintro ⟨h,q⟩
  obtain ⟨K,q⟩:=he.to q
  exact ⟨(h.1,K),q⟩
 ·rintro ⟨h,q⟩
  obtain ⟨K,q⟩:=he.back q
  exact ⟨(h.1,K),q⟩
theorem Xh (he:∀ i,e[i]?=E[ρ i]?) {r b sz:Nat}:di e r b sz↔di E (ρ r) b sz:=by
 unfold di; rw [he]
theorem sg (he:ko e E ρ) {c:C} {v:Value}:bh e av w c v↔bh E av w (Fw ρ c) v:=by
 cases c with
 | im x=>exact Iff.rfl
 | rt r i j=>simp only [bh,Fw,Io he]
 | sa r m=>
   simp only [bh,Fw]
   constructor
   ·rintro ⟨x,a,n,cap,h1,h2,h3⟩
    obtain ⟨K,h1⟩:=he.to h1
    exact ⟨_,a,n,cap,h1,h2,h3⟩
   ·rintro ⟨x,a,n,cap,h1,h2,h3⟩
    obtain ⟨K,h1⟩:=he.back h1
    exact ⟨_,a,n,cap,h1,h2,h3⟩
 | mp r=>simp only [bh,Fw,Io he]
 | yl r=>simp only [bh,Fw,Io he]
 | ow r j=>
   simp only [bh,Fw]
   constructor
   ·rintro ⟨x,vs,h1,h2,h3⟩
    obtain ⟨K,h1⟩:=he.to h1
    exact ⟨_,vs,h1,h2,h3⟩
   ·rintro ⟨x,vs,h1,h2,h3⟩
    obtain ⟨K,h1⟩:=he.back h1
    exact ⟨_,vs,h1,h2,h3⟩
 | mc f l=>simp only [bh,Fw,iy,aB.mH,Io he]
theorem rZ (he:ko e E ρ) {l:List C} {m:List Value}:aB (bh e av w) l m↔aB (bh E av w) (pe (Fw ρ) l) m:=by
 rw [iy,aB.mH]
 exact aB.iff fun x y=>sg he
theorem vi (he:ko e E ρ) {d:D} {v:Value}:a7 e av w d v↔a7 E av w (JL ρ d) v:=by
 cases d with
 | c x=>exact sg he
 | a l=>simp only [a7,JL,rZ he]
 | t l=>
   simp only [a7,JL,iy (fun x:Bool×List C=>(x.1,pe (Fw ρ) x.2)),aB.mH]
   refine exists_congr fun vs=>and_congr Iff.rfl (aB.iff fun x y=>?_)
   obtain ⟨b,l⟩:=x
   cases b with
   | true=>simp only [rZ he]
   | false=>
     simp only
     constructor
     ·rintro ⟨c,rfl,h⟩
      exact ⟨Fw ρ c,rfl,(sg he).1 h⟩
     ·rintro ⟨c,h1,h⟩
      rw [iy] at h1
      match l,h1 with
      | [c0],h1=>
        simp only [List.map_cons,List.map_nil,List.cons.injEq,and_true] at h1
        subst h1
        exact ⟨c0,rfl,(sg he).2 h⟩
      | [],h1=>simp at h1
      | _::_::_,h1=>simp at h1
theorem Qe (he:ko e E ρ) {l:List D} {m:List Value}:aB (a7 e av w) l m↔aB (a7 E av w) (pe (JL ρ) l) m:=by
 rw [iy,aB.mH]
 exact aB.iff fun x y=>vi he
theorem CC:∀ {sl:aN} {t:Tmp},look (Kx ρ sl) t=(look sl t).map fun x=>(JL ρ x.1,x.2)
 | [],t=>rfl
 | (k,d,c)::sl,t=>by
   show look ((k,JL ρ d,c)::Kx ρ sl) t=_
   simp only [look]
   split
   ·rfl
   ·exact CC
theorem Qc {sl:aN}:(∀ x∈Kx ρ sl,x.2.2=[])↔∀ x∈sl,x.2.2=[]:=by
 unfold Kx
 rw [iy]
 refine ⟨fun h x hx=>?_,fun h y hy=>?_⟩
 ·have:=h _ (List.mem_map.2 ⟨x,hx,rfl⟩)
  exact this
 ·obtain ⟨x,hx,rfl⟩:=List.mem_map.1 hy
  exact h x hx
theorem EH (he:ko e E ρ) {N:Nat} {sl:aN} {tm:Array Value}:ik e av w N sl tm↔ik E av w N (Kx ρ sl) tm:=by
 constructor
 ·intro h t d c hl
  rw [CC] at hl
  cases hx:look sl t with
  | none=>rw [hx] at hl; simp at hl
  | some x=>
    rw [hx] at hl
    simp only [Option.map_some,aq,bs] at hl
    obtain ⟨rfl,rfl⟩:=hl
    obtain ⟨q1,q2,q3⟩:=h t x.1 x.2 hx
    exact ⟨q1,fun q=>(vi he).1 (q2 q),q3⟩
 ·intro h t d c hl
  obtain ⟨q1,q2,q3⟩:=h t (JL ρ d) c (by rw [CC,hl]; rfl)
  exact ⟨q1,fun q=>(vi he).2 (q2 q),q3⟩
theorem wI {α β:Type} (f:α→β) (l:List α):(pe f l).length=l.length:=by rw [iy]; simp
theorem wC (he:ko e E ρ) {base:Nat} {nU:fQ} {x:ah}:aM e av base w nU x↔aM E av base w nU (yH ρ x):=by
 cases x with
 | dead=>exact Iff.rfl
 | box l=>simp only [aM,yH,wI,rZ he]
 | arr el sz n get=>exact Iff.rfl
 | row el sz n l=>simp only [aM,yH,rZ he]
 | cR el sz n get eG=>
   have hF:∀ {c:Fc} {K:Nat→Prop} {v:Value},iU e av base w c K v↔iU E av base w (mvF ρ c) K v:=fun {c K v}=>by
    cases c with
    | c x=>exact sg he
    | o x=>exact Iff.rfl
   cases eG with
   | none=>
     constructor<;>rintro ⟨p1,p2,xs,p3,Ks,p4,pf,p5⟩<;>refine ⟨p1,p2,xs,p3,Ks,p4,pf,fun i hi j hj=>?_⟩<;>obtain ⟨v,c,g1,g2,g3⟩:=p5 i hi j hj<;>(simp only [gg,aq] at g2; subst g2; exact ⟨v,_,g1,rfl,g3⟩)
   | some x=>
     constructor
     ·rintro ⟨p1,p2,xs,p3,Ks,p4,pf,p5⟩
      obtain ⟨f1,f2⟩:=pf _ rfl
      refine ⟨p1,p2,xs,p3,Ks,p4,fun y hy=>?_,fun i hi j hj=>?_⟩
      ·simp only [aq] at hy; subst hy; exact ⟨f1,by rw [wI]; exact f2⟩
      ·obtain ⟨v,c,g1,g2,g3⟩:=p5 i hi j hj
       unfold gg at g2 ⊢
       cases hb:Nat.beq i x.1 with
       | true=>
         simp only [hb,bp] at g2 ⊢
         exact ⟨v,mvF ρ c,g1,by rw [iy,List.getElem?_map,g2]; rfl,hF.1 g3⟩
       | false=>
         simp only [hb,aq] at g2 ⊢
         subst g2
         exact ⟨v,_,g1,rfl,g3⟩
     ·rintro ⟨p1,p2,xs,p3,Ks,p4,pf,p5⟩
      obtain ⟨f1,f2⟩:=pf _ rfl
      refine ⟨p1,p2,xs,p3,Ks,p4,fun y hy=>?_,fun i hi j hj=>?_⟩
      ·simp only [aq] at hy; subst hy; exact ⟨f1,by rw [wI] at f2; exact f2⟩
      ·obtain ⟨v,c,g1,g2,g3⟩:=p5 i hi j hj
       unfold gg at g2 ⊢
       cases hb:Nat.beq i x.1 with
       | true=>
         simp only [hb,bp,iy,List.getElem?_map] at g2 ⊢
         cases hc:x.2[j]? with
         | none=>rw [hc] at g2; simp at g2
         | some c0=>
           rw [hc] at g2
           simp only [Option.map_some,aq] at g2
           subst g2
           exact ⟨v,c0,g1,rfl,hF.2 g3⟩
       | false=>
         simp only [hb,aq] at g2 ⊢
         subst g2
         exact ⟨v,_,g1,rfl,g3⟩
 | own l=>exact Iff.rfl
 | set l=>exact Iff.rfl
 | nZ=>exact Iff.rfl
 | loop f N sl ps as bd st fW=>
   simp only [aM,yH,EH he,Qc]
theorem jZ {x:ah}:(yH ρ x).live↔x.live:=by
 cases x with
 | cR el sz n get eG=>cases eG<;>exact Iff.rfl
 | _=>exact Iff.rfl
end
structure Frm (ρ:Nat→Nat) (π:List Nat) (rs aG RS Pl:List ah):Prop where
 yE:π.length=rs.length
 lt:∀ q∈π,q<RS.length
 len:rs.length≤aG.length
 len':Pl.length=RS.length+(aG.length-rs.length)
 X6:∀ (i:Nat) (x:ah),rs[i]?=some x→x.live→∃ q y,π[i]?=some q∧RS[q]?=some (yH ρ x)∧aG[i]?=some y∧Pl[q]?=some (yH ρ y)
 out:∀ q:Nat,q<RS.length→(∀ (i:Nat) (x:ah),rs[i]?=some x→x.live→π[i]?≠some q)→Pl[q]?=RS[q]?
 new:∀ j:Nat,Pl[RS.length+j]?=(aG[rs.length+j]?).map (yH ρ)
 dead:∀ i:Nat,rs[i]?=some .dead→aG[i]?=some .dead
theorem pT {ρ:Nat→Nat}:∀ {π:List Nat} {rs aG RS Kz:List ah},iF π=true→RS.length=Kz.length→(∀ q∈π,RS[q]?=Kz[q]?)→Il ρ Kz π rs aG→
  Frm ρ π rs aG RS (tb ρ π rs aG RS)
 | [],rs,aG,RS,Kz,_,_,_,h=>by
   have h:rs=[]:=h
   subst h
   have e:tb ρ [] [] aG RS=RS++aG.map (yH ρ):=by rw [← iy]; rfl
   rw [e]
   refine ⟨rfl,fun q hq=>(by cases hq),bu _,(by simp),fun i x hx=>(by simp at hx),fun q hq _=>dH hq,fun j=>?_,fun i hi=>(by simp at hi)⟩
   rw [gC (Nat.le_add_right _ _)]
   simp
 | q::π,rs,aG,RS,Kz,rz,hl,xI,h=>by
   have hnd0:iF (q::π)=true:=rz
   have hnd1:(Bool.rec (iF π) false (oS q π):Bool)=true:=rz
   have hq:q ∉ π:=fun hm=>by rw [jI.2 hm] at hnd1; simp at hnd1
   have hnd2:iF π=true:=by
    cases hb:oS q π with
    | true=>exact (hq (jI.1 hb)).elim
    | false=>rw [hb] at hnd1; exact hnd1
   match rs,aG,h with
   | x::rs,y::aG,h=>
     obtain ⟨h1,h2,h3⟩:YT ρ Kz q x y∧q<Kz.length∧Il ρ Kz π rs aG:=h
     by_cases hx:x.live
     ·have e:tb ρ (q::π) (x::rs) (y::aG) RS=tb ρ π rs aG (RS.set q (yH ρ y)):=by
       rw [← aQ]
       cases x<;>first|exact hx.elim|rfl
      have h1:Kz[q]?=some (yH ρ x):=by
       rw [← bT]
       cases x<;>first|exact hx.elim|exact h1
      have ih:=pT (RS:=RS.set q (yH ρ y)) (Kz:=Kz) hnd2 (by simpa using hl) (fun k hk=>by
       have:k≠q:=fun e=>hq (e▸hk)
       rw [dP,if_neg (fun e=>this e.symm)]
       exact xI k (fe _ hk)) h3
      rw [e]
      have hqout:∀ (i:Nat) (z:ah),rs[i]?=some z→z.live→π[i]?≠some q:=fun i z _ _ hp=>hq (List.mem_of_getElem? hp)
      have hql:q<RS.length:=by rw [hl]; exact h2
      refine ⟨by simp [ih.yE],fun k hk=>?_,by simpa using ih.len,?_,fun i z hz vE=>?_,fun k hk hout=>?_,fun j=>?_,fun i hi=>?_⟩
      ·rcases List.mem_cons.1 hk with rfl|hk
       ·exact hql
       ·simpa using ih.lt k hk
      ·rw [ih.len']; simp
      ·cases i with
       | zero=>
         simp at hz
         subst hz
         refine ⟨q,y,rfl,by rw [xI q (eS ..)]; exact h1,rfl,?_⟩
         rw [ih.out q (by simpa using hql) hqout,dP,if_pos rfl,if_pos hql]
       | succ i=>
         obtain ⟨k,z',p1,p2,p3,p4⟩:=ih.X6 i z (by simpa using hz) vE
         refine ⟨k,z',by simpa using p1,?_,by simpa using p3,p4⟩
         have:q≠k:=fun e=>hq (e▸List.mem_of_getElem? p1)
         rwa [dP,if_neg this] at p2
      ·have rA:q≠k:=fun e=>hout 0 x rfl hx (by simp [e])
       rw [ih.out k (by simpa using hk) (fun i z hz vE hp=>hout (i+1) z (by simpa using hz) vE (by simpa using hp)),dP,if_neg rA]
      ·have:=ih.new j
       simp only [List.length_set] at this
       rw [this,show (x::rs).length+j=(rs.length+j)+1 by simp; omega]
       simp
      ·cases i with
       | zero=>simp at hi; subst hi; exact hx.elim
       | succ i=>simpa using ih.dead i (by simpa using hi)
     ·have hx:x=.dead:=by cases x<;>first|rfl|exact (hx trivial).elim
      subst hx
      have h1:y=.dead:=h1
      subst h1
      have ih:=pT (RS:=RS) (Kz:=Kz) hnd2 hl (fun k hk=>xI k (fe _ hk)) h3
      show Frm ρ (q::π) (.dead::rs) (.dead::aG) RS (tb ρ π rs aG RS)
      refine ⟨by simp [ih.yE],fun k hk=>?_,by simpa using ih.len,?_,fun i z hz vE=>?_,fun k hk hout=>?_,fun j=>?_,fun i hi=>?_⟩
      ·rcases List.mem_cons.1 hk with rfl|hk
       ·rw [hl]; exact h2
       ·exact ih.lt k hk
      ·rw [ih.len']; simp
      ·cases i with
       | zero=>simp at hz; subst hz; exact vE.elim
       | succ i=>
         obtain ⟨k,z',p1,p2,p3,p4⟩:=ih.X6 i z (by simpa using hz) vE
         exact ⟨k,z',by simpa using p1,p2,by simpa using p3,p4⟩
      ·exact ih.out k hk fun i z hz vE hp=>hout (i+1) z (by simpa using hz) vE (by simpa using hp)
      ·rw [ih.new j,show (ah.dead::rs).length+j=(rs.length+j)+1 by simp; omega]
       simp
      ·cases i with
       | zero=>rfl
       | succ i=>simpa using ih.dead i (by simpa using hi)
   | [],_,h=>exact h.elim
   | _::_,[],h=>exact h.elim
section
variable {P:Program} {T:dY} {f:FuncId} {ds:List D} {rs aG RS Pl:List ah} {d:D}
theorem cu.frm {π:List Nat} (h:cu T P f ds rs d aG) (rz:iF π=true) (hF:Frm (nV π RS.length) π rs aG RS Pl):cu T P f (pe (JL (nV π RS.length)) ds) RS (JL (nV π RS.length) d) Pl:=by
 refine ⟨h.out.1,?_⟩
 intro N ay w0 sp sl df a w E VS hR hv
 have hndp:=lT rz
 let ρ:=nV π RS.length
 have hEl:E.length=RS.length:=hR.len
 have rho_in:∀ {i q:Nat},π[i]?=some q→ρ i=q:=fun {i q} hi=>by
  show nV π RS.length i=q
  unfold nV; rw [bT,hi]
 have rho_out:∀ {i:Nat},π.length≤i→ρ i=RS.length+(i-π.length):=fun {i} hi=>by
  show nV π RS.length i=_
  unfold nV; rw [bT,List.getElem?_eq_none hi]
 let e:=lj π E
 have hel:e.length=rs.length:=by show (lj π E).length=_; unfold lj; simp [hF.yE]
 have he:∀ i,e[i]?=E[ρ i]?:=by
  intro i
  rcases Nat.lt_or_ge i π.length with hi|hi
  ·have hq:=eY hi
   have dD:π[i]<E.length:=by rw [hEl]; exact hF.lt _ (List.getElem_mem hi)
   rw [rho_in hq,eY dD]
   exact mz hq (eY dD)
  ·rw [rho_out hi,List.getElem?_eq_none (by rw [hel,← hF.yE]; exact hi),List.getElem?_eq_none (by omega)]
 let own:Nat→Prop:=fun b=>∃ i x sz,rs[i]?=some x∧x.live∧di e i b sz
 let k0:Kp:=⟨w,w0.base,own⟩
 let av1:Nat→Prop:=fun b=>AV ay RS E b∧¬ own b
 have He:∀ {i:Nat} {x:ah} {b sz:Nat},rs[i]?=some x→x.live→di e i b sz→∃ q,π[i]?=some q∧RS[q]?=some (yH ρ x)∧(yH ρ x).live∧di E q b sz:=by
  intro i x b sz h1 h2 h3
  obtain ⟨q,y,p1,p2,_⟩:=hF.X6 i x h1 h2
  refine ⟨q,p1,p2,jZ.2 h2,?_⟩
  have:=(Xh he).1 h3
  rwa [rho_in p1] at this
 have hownAV:∀ {b:Nat},own b→AV ay RS E b∧w0.In b∧b<w.heap.size:=by
  rintro b ⟨i,x,sz,h1,h2,h3⟩
  obtain ⟨q,_,p2,p3,p4⟩:=He h1 h2 h3
  exact ⟨.inr ⟨q,_,sz,p2,p3,p4⟩,hR.dh q _ b sz p2 p3 p4⟩
 have hAVlt:∀ {b:Nat},AV ay RS E b→b<w.heap.size:=by
  rintro b (q|⟨q,x,sz,h1,h2,h3⟩)
  ·exact hR.jT q
  ·exact (hR.dh q x b sz h1 h2 h3).2
 have hav0:∀ {b:Nat},ay b→¬ own b:=fun {b} q ho=>(hR.outer b q).2 ((hownAV ho).2.1.own (hR.outer b q).1)
 have avEq:AV av1 rs e=AV ay RS E:=by
  funext b
  refine propext ⟨?_,fun q=>?_⟩
  ·rintro (q|⟨i,x,sz,h1,h2,h3⟩)
   ·exact q.1
   ·exact (hownAV ⟨i,x,sz,h1,h2,h3⟩).1
  ·by_cases ho:own b
   ·obtain ⟨i,x,sz,h1,h2,h3⟩:=ho
    exact .inr ⟨i,x,sz,h1,h2,h3⟩
   ·exact .inl ⟨q,ho⟩
 have hsmall:R T 0 av1 k0 [] ⟨[],rs,[]⟩ { tmps := #[],defers:=[] } w e:=by
  refine ⟨rfl,.nil,fun _ hx=>(by cases hx),⟨rfl,rfl,rfl,bk _,hR.below.base,fun _ _ _=>rfl⟩,hel,fun b q=>⟨hAVlt q.1,q.2⟩,?_,?_,?_,fun t d c h1=>(by simp [look] at h1),?_⟩
  ·intro i x nU h1 h2
   by_cases hx:x.live
   ·obtain ⟨q,y,p1,p2,_⟩:=hF.X6 i x h1 hx
    have h2:e[i]?=some nU:=h2
    rw [he,rho_in p1] at h2
    show aM e (AV av1 rs e) w0.base w nU x
    rw [avEq]
    exact (wC (ko.of he)).2 (hR.roots q _ nU p2 h2)
   ·have hx:x=.dead:=by cases x<;>first|rfl|exact (hx trivial).elim
    subst hx; trivial
  ·intro i x b sz h1 h2 h3
   obtain ⟨_,q1,q2⟩:=hownAV ⟨i,x,sz,h1,h2,h3⟩
   exact ⟨⟨q1.base,fun _=>⟨i,x,sz,h1,h2,h3⟩⟩,q2⟩
  ·intro i j x y b sz cQ h1 kH h2 gU h3 lE
   obtain ⟨q,p1,p2,p3,p4⟩:=He h1 h2 h3
   obtain ⟨q',p1',p2',p3',p4'⟩:=He kH gU lE
   have:=hR.dQ q q' _ _ b sz cQ p2 p2' p3 p3' p4 p4'
   subst this
   exact hndp i j q p1 p1'
  ·show ov T (AV av1 rs e) w
   rw [avEq]; exact hR.gM
 have qa:aB (a7 e (AV av1 rs e) w) ds VS:=by
  rw [avEq]
  exact (Qe (ko.of he)).2 hv
 refine (h.out.2 0 av1 k0 [] [] [] _ w e VS hsmall qa).mono ?_
 rintro en w' ⟨v,e',rfl,hk,tT,hd⟩
 have hel':e'.length=aG.length:=tT.len
 have hge:rs.length≤e'.length:=by rw [← hel]; exact hk.len
 let live:Nat→Nat→Prop:=fun i q=>(∃ x:ah,rs[i]?=some x∧x.live)∧π[i]?=some q
 have hlive:∀ {i j q:Nat},live i q→live j q→i=j:=fun {i j q} h1 h2=>hndp i j q h1.2 h2.2
 open Classical in
 let val:Nat→fQ→fQ:=fun q x=>if h:∃ i,live i q then e'.getD (Classical.choose h) x else x
 let E':Env:=E.mapIdx val++e'.drop rs.length
 have hE'q:∀ {q:Nat},q<RS.length→E'[q]?=(E[q]?).map (val q):=fun {q} hq=>by
  show (E.mapIdx val++e'.drop rs.length)[q]?=_
  rw [dH (by rw [List.length_mapIdx,hEl]; exact hq),List.getElem?_mapIdx]
 have hE'live:∀ {i q:Nat},live i q→E'[q]?=e'[i]?:=fun {i q} hq=>by
  obtain ⟨⟨x,h1,h2⟩,h3⟩:=hq
  have dD:q<RS.length:=hF.lt _ (List.mem_of_getElem? h3)
  have hex:∃ i,live i q:=⟨i,⟨x,h1,h2⟩,h3⟩
  have hi:i<e'.length:=Nat.lt_of_lt_of_le (List.getElem?_eq_some_iff.1 h1).1 hge
  rw [hE'q dD,eY (by rw [hEl]; exact dD)]
  simp only [Option.map_some,val]
  rw [dif_pos hex,hlive (Classical.choose_spec hex) ⟨⟨x,h1,h2⟩,h3⟩,List.getD_eq_getElem?_getD,eY hi]
  rfl
 have hE'in:∀ {q:Nat},q<RS.length→(¬ ∃ i,live i q)→E'[q]?=E[q]?:=fun {q} hq hn=>by
  rw [hE'q hq,eY (by rw [hEl]; exact hq)]
  simp only [Option.map_some,val]
  rw [dif_neg hn]
 have hE'new:∀ j:Nat,E'[RS.length+j]?=e'[rs.length+j]?:=fun j=>by
  show (E.mapIdx val++e'.drop rs.length)[RS.length+j]?=_
  rw [gC (by rw [List.length_mapIdx]; omega),List.getElem?_drop,List.length_mapIdx]
  congr 1; omega
 have heq:∀ {i q:Nat},live i q→e[i]?=E[q]?:=fun {i q} hq=>by rw [he,rho_in hq.2]
 have hEle:Env.le E E':=fun q x h1 h2=>by
  have dD:q<RS.length:=by rw [← hEl]; exact (List.getElem?_eq_some_iff.1 h1).1
  by_cases hex:∃ i,live i q
  ·obtain ⟨i,hi⟩:=hex
   rw [hE'live hi]
   exact hk.le i x (by rw [heq hi]; exact h1) h2
  ·rw [hE'in dD hex]; exact ⟨x.2.1.2,h1,h2⟩
 have hkept:Kept E E':=⟨hEle,fun q h1=>by
  have dD:q<RS.length:=by rw [← hEl]; exact (List.getElem?_eq_some_iff.1 h1).1
  by_cases hex:∃ i,live i q
  ·obtain ⟨i,hi⟩:=hex
   rw [hE'live hi]
   exact hk.free i (by rw [heq hi]; exact h1)
  ·rw [hE'in dD hex]; exact h1⟩
 have hnk:∀ {F G:Env} {i:Nat},Kept F G→i<F.length→(G[i]?).map (fun x:fQ=>x.wk fun _=>False)=(F[i]?).map fun x:fQ=>x.wk fun _=>False:=fun {F G i} hFG hi=>by
  have h1:=eY hi
  by_cases h2:F[i]=hole
  ·rw [h2] at h1; rw [h1,hFG.free i h1]
  ·obtain ⟨K,h3,_⟩:=hFG.le i _ h1 h2
   rw [h3,h1]; rfl
 have he':ko e' E' ρ:=by
  intro i
  rcases Nat.lt_or_ge i π.length with hi|hi
  ·have hq:=eY hi
   have dD:π[i]<RS.length:=hF.lt _ (List.getElem_mem hi)
   rw [rho_in hq,hnk hk (by rw [hel,← hF.yE]; exact hi),hnk hkept (by rw [hEl]; exact dD),he,rho_in hq]
  ·rw [rho_out hi,hE'new,hF.yE]
   have e1:rs.length+(i-rs.length)=i:=by rw [hF.yE] at hi; omega
   rw [e1]
 have whr:∀ (q:Nat) (z:ah),Pl[q]?=some z→(∃ i y,ρ i=q∧aG[i]?=some y∧z=yH ρ y∧(∀ nU,E'[q]?=some nU→e'[i]?=some nU))∨(q<RS.length∧RS[q]?=some z∧∀ (i:Nat) (x:ah),rs[i]?=some x→x.live→π[i]?≠some q):=by
  intro q z hz
  rcases Nat.lt_or_ge q RS.length with hq|hq
  ·by_cases hex:∃ (i:Nat) (x:ah),rs[i]?=some x∧x.live∧π[i]?=some q
   ·obtain ⟨i,x,h1,h2,h3⟩:=hex
    obtain ⟨q',y,p1,p2,p3,p4⟩:=hF.X6 i x h1 h2
    rw [h3] at p1
    simp only [aq] at p1
    subst p1
    rw [hz] at p4
    simp only [aq] at p4
    exact .inl ⟨i,y,rho_in h3,p3,p4,fun nU RZ=>by rw [← hE'live ⟨⟨x,h1,h2⟩,h3⟩]; exact RZ⟩
   ·refine .inr ⟨hq,?_,fun i x h1 h2 h3=>hex ⟨i,x,h1,h2,h3⟩⟩
    rw [← hF.out q hq fun i x h1 h2 h3=>hex ⟨i,x,h1,h2,h3⟩]; exact hz
  ·have e1:q=RS.length+(q-RS.length):=by omega
   rw [e1,hF.new] at hz
   cases hy:aG[rs.length+(q-RS.length)]? with
   | none=>rw [hy] at hz; simp at hz
   | some y=>
     rw [hy] at hz
     simp only [Option.map_some,aq] at hz
     have hρ:ρ (rs.length+(q-RS.length))=q:=by
      rw [rho_out (by rw [hF.yE]; omega),hF.yE]; omega
     exact .inl ⟨_,y,hρ,hy,hz.symm,fun nU RZ=>by rw [← hE'new,← e1]; exact RZ⟩
 have nolive:∀ {q:Nat},(∀ (i:Nat) (x:ah),rs[i]?=some x→x.live→π[i]?≠some q)→¬ ∃ i,live i q:=fun hn ⟨i,⟨x,h1,h2⟩,h3⟩=>hn i x h1 h2 h3
 have hatE:∀ {q b sz:Nat},q<RS.length→(∀ (i:Nat) (x:ah),rs[i]?=some x→x.live→π[i]?≠some q)→di E' q b sz→di E q b sz:=fun hq hn ⟨hh,h1,h2⟩=>⟨hh,by rw [← hE'in hq (nolive hn)]; exact h1,h2⟩
 have notown:∀ {q b sz:Nat} {z:ah},RS[q]?=some z→z.live→(∀ (i:Nat) (x:ah),rs[i]?=some x→x.live→π[i]?≠some q)→di E q b sz→¬ own b:=by
  rintro q b sz z h1 h2 h3 h4 ⟨i,x,cQ,g1,g2,g3⟩
  obtain ⟨q',p1,p2,p3,p4⟩:=He g1 g2 g3
  have:=hR.dQ q q' _ _ b sz cQ h1 p2 h2 p3 h4 p4
  subst this
  exact h3 i x g1 g2 p1
 have hsub:∀ b,AV ay Pl E' b→AV av1 aG e' b:=by
  rintro b (q|⟨q,z,sz,h1,h2,h3⟩)
  ·exact .inl ⟨.inl q,hav0 q⟩
  ·rcases whr q z h1 with ⟨i,y,_,g2,rfl,g4⟩|⟨g1,g2,g3⟩
   ·obtain ⟨hh,h3⟩:=h3
    exact .inr ⟨i,y,sz,g2,jZ.1 h2,hh,g4 _ h3.1,h3.2⟩
   ·have h4:=hatE g1 g3 h3
    exact .inl ⟨.inr ⟨q,z,sz,g2,h2,h4⟩,notown g2 h2 g3 h4⟩
 have hold:∀ b,b<w.heap.size→¬ own b→w'.heap[b]?=w.heap[b]?:=tT.below.block
 have fF:w.heap.size≤w'.heap.size:=tT.below.size
 have hkeeps:ba (AV ay RS E) w w':=⟨fF,fun b hb hn=>hold b hb fun ho=>hn (hownAV ho).1⟩
 have eP:∀ b,b<w.heap.size→AV ay Pl E' b→AV ay RS E b:=by
  intro b hb q
  rcases hsub b q with q|⟨i,y,sz,h1,h2,h3⟩
  ·exact q.1
  ·exact (hownAV ((tT.dh i y b sz h1 h2 h3).1.own hb)).1
 have hbig2:=hR.wE (aG:=Pl) (E':=E') (w':=w') hEle hkeeps (hR.below.grown tT.below.os tT.below.tape tT.below.output fF fun k hk hn=>hold k hk fun ho=>hn (hownAV ho).2.1) eP
  (by show (E.mapIdx val++e'.drop rs.length).length=_; rw [List.length_append,List.length_mapIdx,List.length_drop,hel',hF.len',hEl])
  (by
   intro q z nU h1 h2
   rcases whr q z h1 with ⟨i,y,_,g2,rfl,g4⟩|⟨g1,g2,g3⟩
   ·have:=(wC he').1 (tT.roots i y nU g2 (g4 nU h2))
    exact aM.mono (Env.le_refl E') (ba.refl _ w') (fun b _ q=>hsub b q) (fun _ _ _=>rfl) this
   ·rw [hE'in g1 (nolive g3)] at h2
    refine aM.mono hEle hkeeps eP (fun hl b hb=>?_) (hR.roots q z nU g2 h2)
    have ho:di E q b nU.2.2:=⟨nU,h2,rfl,hb⟩
    exact hold b (hR.dh q z b _ g2 hl ho).2 (notown g2 hl g3 ho))
  (by
   intro q z b sz h1 h2 h3
   rcases whr q z h1 with ⟨i,y,_,g2,rfl,g4⟩|⟨g1,g2,g3⟩
   ·obtain ⟨hh,h3⟩:=h3
    have hb:=tT.dh i y b sz g2 (jZ.1 h2) ⟨hh,g4 _ h3.1,h3.2⟩
    exact ⟨⟨hb.1.base,fun dD=>(hownAV (hb.1.own (Nat.lt_of_lt_of_le dD hR.below.size))).2.1.own dD⟩,hb.2⟩
   ·have hb:=hR.dh q z b sz g2 h2 (hatE g1 g3 h3)
    exact ⟨hb.1,Nat.lt_of_lt_of_le hb.2 fF⟩)
  (by
   intro q q' z z' b sz cQ h1 kH h2 gU h3 lE
   rcases whr q z h1 with ⟨i,y,p,g2,rfl,g4⟩|⟨g1,g2,g3⟩<;>rcases whr q' z' kH with ⟨i',y',p',LA,rfl,g4'⟩|⟨Qu,LA,Xx⟩
   ·obtain ⟨hh,h3⟩:=h3
    obtain ⟨hh',lE⟩:=lE
    have:=tT.dQ i i' y y' b sz cQ g2 LA (jZ.1 h2) (jZ.1 gU) ⟨hh,g4 _ h3.1,h3.2⟩ ⟨hh',g4' _ lE.1,lE.2⟩
    rw [← p,← p',this]
   ·obtain ⟨hh,h3⟩:=h3
    have h4:=hatE Qu Xx lE
    have hb:=hR.dh q' z' b cQ LA gU h4
    exact ((notown LA gU Xx h4) ((tT.dh i y b sz g2 (jZ.1 h2) ⟨hh,g4 _ h3.1,h3.2⟩).1.own hb.2)).elim
   ·obtain ⟨hh',lE⟩:=lE
    have h4:=hatE g1 g3 h3
    have hb:=hR.dh q z b sz g2 h2 h4
    exact ((notown g2 h2 g3 h4) ((tT.dh i' y' b cQ LA (jZ.1 gU) ⟨hh',g4' _ lE.1,lE.2⟩).1.own hb.2)).elim
   ·exact hR.dQ q q' z z' b sz cQ g2 LA h2 gU (hatE g1 g3 h3) (hatE Qu Xx lE))
 exact ⟨v,E',rfl,hkept,hbig2,a7.mono (Env.le_refl E') (ba.refl _ w') (fun b _ q=>hsub b q) ((vi he').1 hd)⟩
theorem cu.E7 (h:cu T P f ds rs d aG) (π:List Nat) (RS:List ah) (rz:iF π=true) (ok:Il (nV π RS.length) RS π rs aG) :
  cu T P f (pe (JL (nV π RS.length)) ds) RS (JL (nV π RS.length) d) (tb (nV π RS.length) π rs aG RS):=
 h.frm rz (pT rz rfl (fun _ _=>rfl) ok)
end
section
variable {P:Program} {T:dY} {f:FuncId} {ds:List D} {rs:List ah} {d:D}
theorem Ku {q:Nat} {x:ah} {rs:List ah} (h:q<rs.length):place q x rs=rs.set q x:=by
 have e:Nat.beq q rs.length=false:=by
  cases hb:Nat.beq q rs.length with
  | true=>have:=bL hb; omega
  | false=>rfl
 unfold place
 rw [e]
 exact aQ _ _ _
theorem xa.E7 {i:Nat} {y:ah} (h:cu T P f ds rs d (rs.set i y)) (π:List Nat) (RS:List ah) (rz:iF π=true) (ok:Il (nV π RS.length) RS π rs (rs.set i y)) {q:Nat} (hi:π[i]?=some q) (hl:∃ x,rs[i]?=some x∧x.live) :
  xa T P f (pe (JL (nV π RS.length)) ds) RS (JL (nV π RS.length) d) q (yH (nV π RS.length) y):=by
 refine ⟨fun RS2 hlen hle=>?_⟩
 have F:=pT (RS:=RS) rz rfl (fun _ _=>rfl) ok
 have hndp:=lT rz
 have hq:q<RS2.length:=by rw [← hlen]; exact F.lt q (List.mem_of_getElem? hi)
 have hil:i<rs.length:=by obtain ⟨x,h1,_⟩:=hl; exact (List.getElem?_eq_some_iff.1 h1).1
 rw [Ku hq]
 rw [hlen]
 rw [hlen] at F
 refine h.frm rz ⟨F.yE,fun k hk=>by rw [← hlen]; exact F.lt k hk,by simp,by simp,fun j x h1 h2=>?_,fun k hk hout=>?_,fun j=>?_,fun j hj=>F.dead j hj⟩
 ·obtain ⟨k,z,p1,p2,p3,_⟩:=F.X6 j x h1 h2
  have p2':RS2[k]?=some (yH (nV π RS2.length) x):=by
   have:=hle k (yH (nV π RS2.length) x) (by rw [bT]; exact p2) (jZ.2 h2)
   rwa [bT] at this
  by_cases hji:j=i
  ·subst hji
   rw [hi] at p1
   simp only [aq] at p1
   subst p1
   exact ⟨q,y,hi,p2',by rw [dP,if_pos rfl,if_pos hil],by rw [dP,if_pos rfl,if_pos hq]⟩
  ·refine ⟨k,x,p1,p2',by rw [dP,if_neg (fun e=>hji e.symm)]; exact h1,?_⟩
   rw [dP,if_neg (fun e:q=k=>hji (hndp j i k p1 (e▸hi)))]
   exact p2'
 ·obtain ⟨x,h1,h2⟩:=hl
  have:q≠k:=fun e=>hout i x h1 h2 (e▸hi)
  rw [dP,if_neg this]
 ·rw [List.getElem?_eq_none (by simp),List.getElem?_eq_none (by simp)]; rfl
end
open Go.RowKit
section
variable {P:Program} {T:dY} {N:Nat} {ay:Nat→Prop} {w0:Kp} {sp:List (D×Value)} {s s':VS} {a:Act} {w w':World} {E E':Env} {f:FuncId} {b:Frame} {cs:List Frame} {ro:Option Nat} {n0:Nat} {eX:Option Code→VS→Prop} {todo:List Item}
def lF (rs:List ah) (d:D) (aG:List ah) (d1:D) (fT:List ah):Prop:=
 ∃ (π:List Nat) (d2:D) (pQ Ub:List ah),N6 rs.length π ⟨[(0,d1,[])],fT,[]⟩=some ⟨[(0,d2,[])],pQ,[]⟩∧aB aJ pQ Ub∧Ends rs d aG d2 Ub
theorem R.Y4 {rs aG fT:List ah} {d d1:D} {v:Value} (he:lF rs d aG d1 fT) (ec:∀ x∈sp,j3 rs.length x.1=true) (h:R T N ay w0 sp ⟨[],rs,[]⟩ a w E) (h':R T N ay w0 sp ⟨[],fT,[]⟩ a w' E') (hk:Kept E E') (hv:a7 E' (AV ay fT E') w' d1 v) :
  ∃ xc,Kept E xc∧R T N ay w0 sp ⟨[],aG,[]⟩ a w' xc∧a7 xc (AV ay aG xc) w' d v:=by
 obtain ⟨π,d2,pQ,Ub,h1,h2,h3⟩:=he
 have hlE:E.length=rs.length:=h.len
 have hlE':E'.length=fT.length:=h'.len
 have hle:rs.length≤fT.length:=by have:=hk.len; omega
 have hR1:R T 1 ay w0 sp ⟨[(0,d1,[])],fT,[]⟩ { tmps := #[v],defers:=[] } w' E':=⟨rfl,.nil,h'.spec,h'.below,h'.len,h'.outer,h'.roots,h'.dh,h'.dQ,fun t d c hl=>by
  simp only [look] at hl
  split at hl
  ·rename_i hb
   have hb:=bL hb
   subst hb
   simp only [aq,bs] at hl
   obtain ⟨rfl,rfl⟩:=hl
   exact ⟨Nat.lt_succ_self 0,fun _=>hv,fun q=>(q fun p hp=>by cases hp).elim⟩
  ·simp at hl,h'.gM⟩
 obtain ⟨E2,g1,g2,g3⟩:=R.renamed h1 ec hle hR1 (fun x hx=>by simp at hx; rw [hx])
 have hk2:Kept E E2:=by
  have q1:Kept E (E'.take rs.length):=by
   have:=hk.take rs.length
   rwa [List.take_of_length_le (Nat.le_of_eq hlE)] at this
  rw [← g1] at q1
  exact q1.trans (Kept.lK E2 _)
 have hR3:=g2.le (s':=⟨[(0,d2,[])],Ub,[]⟩) g3 ⟨⟨rfl,d2,rfl,aX.refl _⟩,trivial⟩ h2 rfl
 have hv3:a7 E2 (AV ay Ub E2) w' d2 v:=(hR3.slots 0 d2 [] rfl).2.1 fun p hp=>by cases hp
 have hR4:R T 1 ay w0 sp ⟨[],Ub,[]⟩ { tmps := #[v],defers:=[] } w' E2:=⟨rfl,.nil,hR3.spec,hR3.below,hR3.len,hR3.outer,hR3.roots,hR3.dh,hR3.dQ,fun t d c q=>by simp [look] at q,hR3.gM⟩
 have hR0:R T 1 ay w0 sp ⟨[],rs,[]⟩ { tmps := #[v],defers:=[] } w E:=⟨rfl,.nil,h.spec,h.below,h.len,h.outer,h.roots,h.dh,h.dQ,fun t d c q=>by simp [look] at q,h.gM⟩
 obtain ⟨E3,p1,p2,p3⟩:=hR0.ends (fun t d c q=>by simp [look] at q) hR4 hk2 h3 hv3
 have LN:aB (fun r (d:Deferred)=>∃ b sz,bq E3 r b sz∧d={ target:=.collected b,args := #[] }) [] a.defers:=by
  have:=h'.defers
  revert this
  cases a.defers with
  | nil=>exact fun _=>.nil
  | cons x l=>exact fun q=>by cases q
 exact ⟨E3,p1,⟨h'.size,LN,p2.spec,p2.below,p2.len,p2.outer,p2.roots,p2.dh,p2.dQ,fun t d c q=>by simp [look] at q,p2.gM⟩,p3⟩
theorem PY (bQ:dV P T) {fn:Func} (hf:P.funcs[f]?=some fn) (sP:(fn.name == "runtime.NumGoroutine")=false) {c:Code} (hc:fn.body=some c) {ds:List D} {rs:List ah} {d:D} {aG:List ah} (hlen:ds.length≤fn.ntmps)
  (hg:∀ (b:Frame) (cs:List Frame),b.fn=f→Goal P T fn.ntmps b cs none rs.length (uo T fn.results.toList (lF rs d aG)) [.code c] ⟨dN 0 ds,rs,[]⟩):cu T P f ds rs d aG:=
 D8 bQ hf sP hc hlen (fun hq ec h h' hk hv=>R.Y4 hq ec h h' hk hv) hg
def JK (r j q m el sz n:Nat) (get:Nat→Nat→I) (l:List C) (s:VS):VS:={ s with rs:=setAt (setAt s.rs q .dead) r (.box (setAt l j (.sa s.rs.length m)))++[.arr el sz n get] }
theorem Goal.AM {r j q m el sz n:Nat} {get:Nat→Nat→I} {l:List C} (hr:aV s.rs r=some (.box l)) (hj:aV l j=some (.sa q m)) (hq:aV s.rs q=some (.arr el sz n get)) (g:Goal P T N b cs ro n0 eX todo (JK r j q m el sz n get l s)):Goal P T N b cs ro n0 eX todo s:=
 g.ghost fun ay w0 sp a w E ec uu hR hn=>by
  rw [bT] at hr hj hq
  have hrl:r<s.rs.length:=(List.getElem?_eq_some_iff.1 hr).1
  have hql:q<s.rs.length:=(List.getElem?_eq_some_iff.1 hq).1
  have KN:r≠q:=by intro e; subst e; rw [hr] at hq; cases hq
  have hqE:q<E.length:=by rw [hR.len]; exact hql
  let e:=E[q]
  have he:E[q]?=some e:=eY hqE
  let E':Env:=E++[e]
  have hEle:=Env.eK E [e]
  let fT:=(s.rs.set q .dead).set r (.box (setAt l j (.sa s.rs.length m)))
  have hl1:fT.length=s.rs.length:=by simp [fT]
  have jr:∀ {k bb z:Nat},di E' k bb z→(k<s.rs.length∧di E k bb z)∨(k=s.rs.length∧di E q bb z):=by
   rintro k bb z ⟨hh,h1,h9⟩
   rcases Nat.lt_or_ge k E.length with hk|hk
   ·rw [dH hk] at h1
    exact .inl ⟨by rw [← hR.len]; exact hk,hh,h1,h9⟩
   ·rw [gC hk] at h1
    rcases Nat.eq_zero_or_pos (k-E.length) with e0|e0
    ·rw [e0] at h1
     simp at h1
     refine .inr ⟨by rw [← hR.len]; omega,hh,?_,h9⟩
     rw [he,h1]
    ·rw [List.getElem?_eq_none (by simp; omega)] at h1; simp at h1
  have key:∀ (k:Nat) (y:ah) (bb z:Nat),(fT++[ah.arr el sz n get])[k]?=some y→y.live→di E' k bb z→∃ k0 x,s.rs[k0]?=some x∧x.live∧di E k0 bb z∧k0=(if k=s.rs.length then q else k)∧(k≠s.rs.length→k≠q):=by
   intro k y bb z h1 h2 h3
   rcases jr h3 with ⟨hk,h4⟩|⟨hk,h4⟩
   ·rw [dH (by rw [hl1]; exact hk)] at h1
    have rA:k≠s.rs.length:=by omega
    have oC:k≠q:=by
     intro e0
     subst e0
     simp only [fT] at h1
     rw [dP,if_neg KN,dP,if_pos rfl,if_pos hql] at h1
     simp only [aq] at h1
     subst h1; exact h2
    refine ⟨k,?_⟩
    rw [if_neg rA]
    by_cases hkr:r=k
    ·subst hkr
     exact ⟨_,hr,trivial,h4,rfl,fun _=>oC⟩
    ·simp only [fT] at h1
     rw [dP,if_neg hkr,dP,if_neg (fun e0=>oC e0.symm)] at h1
     exact ⟨y,h1,h2,h4,rfl,fun _=>oC⟩
   ·subst hk
    exact ⟨q,_,hq,trivial,h4,by simp,fun hn=>(hn rfl).elim⟩
  have eP:∀ bb,AV ay (fT++[ah.arr el sz n get]) E' bb→AV ay s.rs E bb:=by
   rintro bb (h1|⟨k,y,z,h1,h2,h3⟩)
   ·exact .inl h1
   ·obtain ⟨k0,x,g1,g2,g3,_⟩:=key k y bb z h1 h2 h3
    exact .inr ⟨k0,x,z,g1,g2,g3⟩
  have hR2:=hR.wE (aG:=fT++[ah.arr el sz n get]) (E':=E') (w':=w) hEle (ba.refl _ w) hR.below (fun bb _ h1=>eP bb h1) (by simp [E',hl1,hR.len])
   (by
    intro k y nU h1 h2
    rcases Nat.lt_or_ge k s.rs.length with hk|hk
    ·rw [dH (by rw [hl1]; exact hk)] at h1
     have h2:(E++[e])[k]?=some nU:=h2
     rw [dH (by rw [hR.len]; exact hk)] at h2
     simp only [fT] at h1
     by_cases hkr:r=k
     ·subst hkr
      rw [dP,if_pos rfl,if_pos (by simpa using hrl)] at h1
      simp only [aq] at h1
      subst h1
      obtain ⟨bb,vs,Tc,p1,p2,p3,p4⟩:=aM.mono (dp:=AV ay (fT++[ah.arr el sz n get]) E') hEle (ba.refl _ w) (fun b _ h=>eP b h) (fun _ _ _=>rfl) (hR.roots r _ nU hr h2)
      refine ⟨bb,vs,Tc,p1,by rw [aQ]; simpa using p2,p3,?_⟩
      rw [aQ]
      refine aB.tD (by simpa using p4.length) fun i x v hx hv=>?_
      rw [dP] at hx
      split at hx
      ·rename_i hji
       subst hji
       split at hx
       ·simp only [aq] at hx
        subst hx
        obtain ⟨e',a',n',cap,q1,q2,q3,q4⟩:=p4.get hj hv
        have q1:(E++[e])[q]?=some e':=q1
        rw [dH hqE,he] at q1
        refine ⟨e,a',n',cap,?_,?_,q3,q4⟩
        ·show (E++[e])[s.rs.length]?=some e
         rw [← hR.len]; simp
        ·simp only [aq] at q1; rw [q1]; exact q2
       ·simp at hx
      ·exact p4.get hx hv
     ·rw [dP,if_neg hkr,dP] at h1
      split at h1
      ·first
       | (simp only [aq] at h1; subst h1; trivial)
       | (split at h1
          ·simp only [aq] at h1; subst h1; trivial
          ·simp at h1)
      ·exact aM.mono hEle (ba.refl _ w) (fun b _ h=>eP b h) (fun _ _ _=>rfl) (hR.roots k y nU h1 h2)
    ·rw [gC (by rw [hl1]; exact hk),hl1] at h1
     rcases Nat.eq_zero_or_pos (k-s.rs.length) with e0|e0
     ·rw [e0] at h1
      simp at h1
      have hk0:k=s.rs.length:=by omega
      subst hk0
      have h2:(E++[e])[s.rs.length]?=some nU:=h2
      rw [← hR.len] at h2
      simp at h2
      subst h1 h2
      exact aM.mono hEle (ba.refl _ w) (fun b _ h=>eP b h) (fun _ _ _=>rfl) (hR.roots q _ e hq he)
     ·rw [List.getElem?_eq_none (by simp; omega)] at h1; simp at h1)
   (by
    intro k y bb z h1 h2 h3
    obtain ⟨k0,x,g1,g2,g3,_⟩:=key k y bb z h1 h2 h3
    exact hR.dh k0 x bb z g1 g2 g3)
   (by
    intro k k' y y' bb z z' h1 kH h2 gU h3 lE
    obtain ⟨k0,x,g1,g2,g3,g4,g5⟩:=key k y bb z h1 h2 h3
    obtain ⟨k0',x',Qu,LA,Xx,g4',g5'⟩:=key k' y' bb z' kH gU lE
    have:=hR.dQ k0 k0' x x' bb z z' g1 Qu g2 LA g3 Xx
    rw [g4,g4'] at this
    split at this<;>split at this
    ·omega
    ·rename_i n1 n2; exact absurd this.symm (g5' n2)
    ·rename_i n1 n2; exact absurd this (g5 n1)
    ·exact this)
  refine ⟨E',?_,?_,hn⟩
  ·show (E++[e]).take n0=_
   rw [List.take_append_of_le_length (by rw [hR.len]; exact uu)]
  ·have:JK r j q m el sz n get l s={ s with rs:=fT++[ah.arr el sz n get] }:=by
    simp only [JK,fT,aQ]
   rw [this]
   exact hR2
end
section
variable {P:Program} {T:dY} {N:Nat} {b:Frame} {cs:List Frame} {ro:Option Nat} {n0:Nat} {eX:Option Code→VS→Prop} {todo:List Item} {s s':VS} {ay:Nat→Prop} {w0:Kp} {sp:List (D×Value)} {a:Act} {w:World} {E:Env}
theorem Goal.Ba (g:Goal P T N b cs ro n0 eX todo s') (h:∀ ay w0 sp a w E,(∀ x∈sp,j3 n0 x.1=true)→n0≤s.rs.length→R T N ay w0 sp s a w E→bN s.sl→∃ E',Kept (E.take n0) (E'.take n0)∧n0≤s'.rs.length∧R T N ay w0 sp s' a w E'∧bN s'.sl):Goal P T N b cs ro n0 eX todo s:=by
 intro ay w0 sp a w E uu ec Iv hR hn
 obtain ⟨E',h1,hl,h2,h3⟩:=h ay w0 sp a w E ec uu hR hn
 obtain ⟨j,s2,a2,w2,E2,t2,q1,q2⟩:=g ay w0 sp a w E' hl ec (Iv.mono h1.le) h2 h3
 exact ⟨j,s2,a2,w2,E2,t2,h1.trans q1,q2⟩
def bG (x y:Fc):Prop:=∀ (E:Env) (av:Nat→Prop) (base:Nat) (w:World) (K:Nat→Prop) (v:Value),iU E av base w x K v→iU E av base w y K v
theorem bG.refl (x:Fc):bG x x:=fun _ _ _ _ _ _ h=>h
theorem bG.aP (x:I):bG (.c (.im x)) (.o (.im x)):=fun _ _ _ _ _ _ h=>h
theorem bG.im {x y:I} (h:dr x y):bG (.o (.im x)) (.o (.im y)):=fun _ av _ w _ v q=>h av w v q
theorem AX {el sz n:Nat} {get get':Nat→Nat→O} {eG ky:Option (Nat×List Fc)} (hf:∀ x,ky=some x→x.1<n∧x.2.length=sz) (h:∀ i,i<n→∀ j,j<sz→∀ c,gg get eG i j=some c→∃ c',gg get' ky i j=some c'∧bG c c')
  {E:Env} {av:Nat→Prop} {base:Nat} {w:World} {e:fQ} (hr:aM E av base w e (.cR el sz n get eG)):aM E av base w e (.cR el sz n get' ky):=by
 obtain ⟨p1,p2,xs,p3,Ks,p4,_,p5⟩:=hr
 refine ⟨p1,p2,xs,p3,Ks,p4,hf,fun i hi j hj=>?_⟩
 obtain ⟨x,c,q1,q2,q3⟩:=p5 i hi j hj
 obtain ⟨c',q4,q5⟩:=h i hi j hj c q2
 exact ⟨x,c',q1,q4,q5 _ _ _ _ _ _ q3⟩
theorem Goal.cR {r el sz n:Nat} {get get':Nat→Nat→O} {eG ky:Option (Nat×List Fc)} (hr:aV s.rs r=some (.cR el sz n get eG)) (hf:∀ x,ky=some x→x.1<n∧x.2.length=sz)
  (h:∀ i,i<n→∀ j,j<sz→∀ c,gg get eG i j=some c→∃ c',gg get' ky i j=some c'∧bG c c')
  (g:Goal P T N b cs ro n0 eX todo { s with rs:=setAt s.rs r (.cR el sz n get' ky) }):Goal P T N b cs ro n0 eX todo s:=
 Goal.swap (x:=.cR el sz n get eG) hr (fun _=>trivial) (fun base E w e av q=>AX hf h q) g
theorem Ju {el sz n:Nat} {get:Nat→Nat→I} {get':Nat→Nat→O} (h:∀ i,i<n→∀ j,j<sz→get' i j=.im (get i j)) {E:Env} {av:Nat→Prop} {base:Nat} {w:World} {e:fQ} (hr:aM E av base w e (.arr el sz n get)):aM E av base w e (.cR el sz n get' none):=by
 obtain ⟨p1,p2,xs,p3,p4⟩:=hr
 refine ⟨p1,p2,xs,p3,fun _ _ _=>False,⟨fun _ _ _ q=>q.elim,fun _ _ _ q=>q.elim,fun _ _ _ _ _ q=>q.elim⟩,fun x hx=>(by cases hx),fun i hi j hj=>?_⟩
 obtain ⟨x,q1,q2⟩:=p4 i hi j hj
 refine ⟨x,_,q1,rfl,?_⟩
 rw [h i hi j hj]
 exact q2
theorem Goal.wm {r el sz n:Nat} {get:Nat→Nat→I} {get':Nat→Nat→O} (hr:aV s.rs r=some (.arr el sz n get)) (h:∀ i,i<n→∀ j,j<sz→get' i j=.im (get i j))
  (g:Goal P T N b cs ro n0 eX todo { s with rs:=setAt s.rs r (.cR el sz n get' none) }):Goal P T N b cs ro n0 eX todo s:=
 Goal.swap (x:=.arr el sz n get) hr (fun _=>trivial) (fun base E w e av q=>Ju h q) g
def Y1:O→Fc:=O.rec (fun x=>.c (.im x)) (fun e sz n get=>.o (.ar e sz n get)) (fun e sz n get _=>.o (.ns e sz n get))
def Cc (f:Nat→O) (n:Nat):Nat→List Fc:=Nat.rec (fun _=>[]) (fun _ ih j=>Y1 (f j)::ih (j+1)) n
theorem XL (x:O):bG (.o x) (Y1 x):=by cases x<;>exact fun _ _ _ _ _ _ h=>h
theorem D5 (f:Nat→O):∀ (n j:Nat),(Cc f n j).length=n
 | 0,_=>rfl
 | n+1,j=>by show (Y1 (f j)::Cc f n (j+1)).length=_; rw [List.length_cons,D5 f n]
theorem Fl (f:Nat→O):∀ (n j k:Nat),k<n→(Cc f n j)[k]?=some (Y1 (f (j+k)))
 | 0,_,_,h=>by omega
 | n+1,j,0,_=>rfl
 | n+1,j,k+1,h=>by
   show (Y1 (f j)::Cc f n (j+1))[k+1]?=_
   rw [List.getElem?_cons_succ,Fl f n (j+1) k (by omega),show j+1+k=j+(k+1) by omega]
theorem Goal.focus {r k el sz n:Nat} {get:Nat→Nat→O} (hr:aV s.rs r=some (.cR el sz n get none)) (hk:k<n)
  (g:Goal P T N b cs ro n0 eX todo { s with rs:=setAt s.rs r (.cR el sz n get (some (k,Cc (get k) sz 0))) }):Goal P T N b cs ro n0 eX todo s:=
 Goal.cR hr (fun x hx=>by simp only [aq] at hx; subst hx; exact ⟨hk,D5 _ _ _⟩) (fun i hi j hj c hc=>by
  simp only [gg,aq] at hc
  subst hc
  unfold gg
  cases hb:Nat.beq i k with
  | true=>
    have:=Nat.eq_of_beq_eq_true hb
    subst this
    simp only [hb,bp]
    exact ⟨_,Fl (get i) sz 0 j hj,by rw [Nat.zero_add]; exact XL _⟩
  | false=>simp only [hb]; exact ⟨_,rfl,bG.refl _⟩) g
theorem fC.RD {av:Nat→Prop} {base:Nat} {w:World} {x:O} {K K':Nat→Prop} {v:Value} (hK:∀ b,K b→K' b) (h:fC av base w x K v):fC av base w x K' v:=by
 cases x with
 | im x=>exact h
 | ar el sz n get=>exact ⟨fun b q=>hK b (h.1 b q),h.2⟩
 | ns el sz n get=>
   obtain ⟨h0,xs,h1,Ks,hp,h2⟩:=h
   exact ⟨fun b q=>hK b (h0 b q),xs,h1,Ks,⟨fun i j b q=>hK b (hp.sub i j b q),hp.ne,hp.inj⟩,h2⟩
theorem Bv {get:Nat→Nat→O} {k:Nat} {l:List Fc} {j:Nat}:gg get (some (k,l)) k j=l[j]?:=by
 unfold gg
 simp only [cf,bp]
theorem Da {get:Nat→Nat→O} {k:Nat} {l:List Fc} {j:Nat} {x:Fc} (hj:j<l.length) (i' j':Nat):(i'=k∧j'=j∧gg get (some (k,l.set j x)) i' j'=some x)∨(¬ (i'=k∧j'=j)∧gg get (some (k,l.set j x)) i' j'=gg get (some (k,l)) i' j'):=by
 by_cases h:i'=k∧j'=j
 ·obtain ⟨rfl,rfl⟩:=h
  exact .inl ⟨rfl,rfl,by rw [Bv,dP,if_pos rfl,if_pos hj]⟩
 ·refine .inr ⟨h,?_⟩
  unfold gg
  cases hb:Nat.beq i' k with
  | false=>simp only [hb]
  | true=>
    have:=Nat.eq_of_beq_eq_true hb
    subst this
    simp only [hb,bp]
    rw [dP,if_neg (fun e=>h ⟨rfl,e.symm⟩)]
def gG:O→ah
 | .im _=>.dead
 | .ar e sz n get=>.arr e sz n get
 | .ns e sz n get=>.cR e sz n get none
def kM:O→Nat
 | .im _=>0
 | .ar _ _ n _=>n
 | .ns _ _ n _=>n
theorem fC.root {av:Nat→Prop} {base:Nat} {w:World} {x:O} (hx:(gG x).live) {K:Nat→Prop} {v:Value} (h:fC av base w x K v) :
  ∃ (a:Option Addr) (cap sz:Nat),v=.slice a (kM x) cap∧(∀ b,v.ownBlock=some b→K b)∧∀ E:Env,aM E av base w (v.ownBlock,(v,fun b=>K b∧v.ownBlock≠some b),sz) (gG x):=by
 cases x with
 | im x=>exact hx.elim
 | ar el sz n get=>
   obtain ⟨h0,xs,h1,h2⟩:=h
   obtain ⟨ao,cap,rfl⟩:=cZ h1
   exact ⟨ao,cap,sz,rfl,h0,fun E=>⟨rfl,rfl,xs,h1,h2⟩⟩
 | ns el sz n get=>
   obtain ⟨h0,xs,h1,Ks,hp,h2⟩:=h
   obtain ⟨ao,cap,rfl⟩:=cZ h1
   refine ⟨ao,cap,sz,rfl,h0,fun E=>⟨rfl,rfl,xs,h1,Ks,⟨fun i j b q=>⟨hp.sub i j b q,hp.ne i j b q⟩,hp.ne,hp.inj⟩,fun x hx=>(by cases hx),fun i hi j hj=>?_⟩⟩
   obtain ⟨x,q1,q2⟩:=h2 i hi j hj
   exact ⟨x,_,q1,rfl,q2⟩
theorem R.open (h:R T N ay w0 sp s a w E) {r k j el sz n:Nat} {get:Nat→Nat→O} {l:List Fc} {x:O} (hr:s.rs[r]?=some (.cR el sz n get (some (k,l)))) (hj:l[j]?=some (.o x)) (hx:(gG x).live) :
  ∃ E',Kept E E'∧R T N ay w0 sp { s with rs:=s.rs.set r (.cR el sz n get (some (k,l.set j (.c (.sa s.rs.length (kM x))))))++[gG x] } a w E':=by
 have hrl:r<s.rs.length:=(List.getElem?_eq_some_iff.1 hr).1
 have hrE:r<E.length:=by rw [h.len]; exact hrl
 have he:=eY hrE
 generalize hee:E[r]=e at he
 obtain ⟨p1,p2,xs,p3,Ks,p4,pf,p5⟩:=h.roots r _ _ hr he
 obtain ⟨f1,f2⟩:=pf _ rfl
 have f1:k<n:=f1
 have f2:l.length=sz:=f2
 have hjl:j<l.length:=(List.getElem?_eq_some_iff.1 hj).1
 obtain ⟨v,c,g1,g2,g3⟩:=p5 k f1 j (by omega)
 rw [Bv,hj] at g2
 simp only [aq] at g2
 subst g2
 obtain ⟨ao,cap,QU,hv,eM,hroot⟩:=fC.root hx (show fC (AV ay s.rs E) w0.base w x (Ks k j) v from g3)
 have rA:e≠hole:=by
  obtain ⟨a2,c2,h2⟩:=cZ p3
  exact fQ.Jr h2
 let K1:Nat→Prop:=fun b=>e.2.1.2 b∧¬ Ks k j b
 let e1:fQ:=e.wk K1
 let e2:fQ:=(v.ownBlock,(v,fun b=>Ks k j b∧v.ownBlock≠some b),QU)
 let E':Env:=E.set r e1++[e2]
 have hEl:(E.set r e1).length=s.rs.length:=by rw [List.length_set,h.len]
 have hE'r:E'[r]?=some e1:=by
  show (E.set r e1++[e2])[r]?=_
  rw [dH (by rw [hEl]; exact hrl),dP,if_pos rfl,if_pos hrE]
 have hE'q:∀ {q:Nat},q<s.rs.length→q≠r→E'[q]?=E[q]?:=fun {q} hq hn=>by
  show (E.set r e1++[e2])[q]?=_
  rw [dH (by rw [hEl]; exact hq),dP,if_neg (fun e=>hn e.symm)]
 have hE'p:E'[s.rs.length]?=some e2:=by
  show (E.set r e1++[e2])[s.rs.length]?=_
  rw [← hEl]; simp
 have hE'o:∀ {q:Nat} {y:fQ},E'[q]?=some y→q≤s.rs.length:=fun {q y} hq=>by
  have:=(List.getElem?_eq_some_iff.1 hq).1
  have hl:E'.length=s.rs.length+1:=by show (E.set r e1++[e2]).length=_; rw [List.length_append,hEl]; rfl
  omega
 have hle:Env.le E E':=fun q y h1 h2=>by
  have hq:q<s.rs.length:=by rw [← h.len]; exact (List.getElem?_eq_some_iff.1 h1).1
  by_cases hqr:q=r
  ·subst hqr
   rw [he] at h1
   simp only [aq] at h1
   subst h1
   exact ⟨K1,hE'r,fun e3=>by
    have:=congrArg (fun z:fQ=>z.2.1.1) e3
    obtain ⟨a2,c2,h4⟩:=cZ p3
    have h5:e.2.1.1=undef:=this
    rw [h4] at h5
    simp [undef] at h5⟩
  ·exact ⟨y.2.1.2,by rw [hE'q hq hqr]; exact h1,h2⟩
 have hkept:Kept E E':=⟨hle,fun q h1=>by
  have hq:q<s.rs.length:=by rw [← h.len]; exact (List.getElem?_eq_some_iff.1 h1).1
  by_cases hqr:q=r
  ·subst hqr
   rw [he] at h1
   simp only [aq] at h1
   exact (rA h1).elim
  ·rw [hE'q hq hqr]; exact h1⟩
 refine ⟨E',hkept,?_⟩
 let y1:ah:=.cR el sz n get (some (k,l.set j (.c (.sa s.rs.length (kM x)))))
 have key:∀ (q:Nat) (y:ah) (bb z:Nat),(s.rs.set r y1++[gG x])[q]?=some y→y.live→di E' q bb z→
   (q≠r∧q<s.rs.length∧s.rs[q]?=some y∧di E q bb z)∨(q=r∧e.has bb∧¬ Ks k j bb)∨(q=s.rs.length∧Ks k j bb):=by
  rintro q y bb z h1 h2 ⟨nU,h3,h4,h5⟩
  rcases Nat.lt_trichotomy q s.rs.length with hq|hq|hq
  ·rw [dH (by rw [List.length_set]; exact hq),dP] at h1
   by_cases hqr:r=q
   ·subst hqr
    rw [hE'r] at h3
    simp only [aq] at h3
    subst h3
    refine .inr (.inl ⟨rfl,?_⟩)
    rcases h5 with h5|h5
    ·have h5:e.1=some bb:=h5
     exact ⟨.inl h5,fun q=>p4.ne k j bb q (p2.symm.trans h5)⟩
    ·exact ⟨.inr h5.1,h5.2⟩
   ·rw [if_neg hqr] at h1
    rw [hE'q hq (fun e=>hqr e.symm)] at h3
    exact .inl ⟨fun e=>hqr e.symm,hq,h1,nU,h3,h4,h5⟩
  ·subst hq
   rw [hE'p] at h3
   simp only [aq] at h3
   subst h3
   refine .inr (.inr ⟨rfl,?_⟩)
   rcases h5 with h5|h5
   ·exact eM bb h5
   ·exact h5.1
  ·have:=hE'o h3; omega
 have hKe:∀ {bb:Nat},Ks k j bb→e.has bb:=fun q=>.inr (p4.sub k j _ q)
 have hrown:∀ {bb:Nat},e.has bb→di E r bb e.2.2:=fun q=>⟨e,he,rfl,q⟩
 have eP:∀ bb,AV ay (s.rs.set r y1++[gG x]) E' bb→AV ay s.rs E bb:=by
  rintro bb (q|⟨q,y,z,h1,h2,h3⟩)
  ·exact .inl q
  ·rcases key q y bb z h1 h2 h3 with ⟨_,_,g5,g6⟩|⟨_,g5,_⟩|⟨_,g5⟩
   ·exact .inr ⟨q,y,z,g5,h2,g6⟩
   ·exact .inr ⟨r,_,_,hr,trivial,hrown g5⟩
   ·exact .inr ⟨r,_,_,hr,trivial,hrown (hKe g5)⟩
 refine h.wE (aG:=s.rs.set r y1++[gG x]) hle (ba.refl _ w) h.below (fun bb _ q=>eP bb q) (by show (E.set r e1++[e2]).length=_; rw [List.length_append,List.length_append,hEl,List.length_set]; rfl) ?_ ?_ ?_
 ·intro q y nU h1 h2
  rcases Nat.lt_trichotomy q s.rs.length with hq|hq|hq
  ·rw [dH (by rw [List.length_set]; exact hq),dP] at h1
   by_cases hqr:r=q
   ·subst hqr
    rw [if_pos rfl,if_pos hrl] at h1
    simp only [aq] at h1
    subst h1
    rw [hE'r] at h2
    simp only [aq] at h2
    subst h2
    refine ⟨p1,p2,xs,p3,fun i' j' bb=>Ks i' j' bb∧¬ (i'=k∧j'=j),⟨fun i' j' bb q=>⟨p4.sub _ _ _ q.1,fun q2=>q.2 (p4.inj _ _ _ _ _ q.1 q2)⟩,fun i' j' bb q=>p4.ne _ _ _ q.1,fun i1 j1 i2 j2 bb q1 q2=>p4.inj _ _ _ _ _ q1.1 q2.1⟩,fun z hz=>?_,fun i' jD j' hj'=>?_⟩
    ·simp only [aq] at hz; subst hz; exact ⟨f1,by simpa using f2⟩
    ·rcases Da (get:=get) (k:=k) (x:=.c (.sa s.rs.length (kM x))) hjl i' j' with ⟨rfl,rfl,q3⟩|⟨q2,q3⟩
     ·exact ⟨v,_,g1,q3,e2,ao,kM x,cap,hE'p,hv,bk _,hv⟩
     ·obtain ⟨v',c',r1,r2,r3⟩:=p5 i' jD j' hj'
      refine ⟨v',c',r1,by rw [q3]; exact r2,?_⟩
      have:=iU.mono (E':=E') (dp:=AV ay (s.rs.set r y1++[gG x]) E') hle (ba.refl _ w) (fun bb _ q=>eP bb q) (fun _ _=>rfl) r3
      cases c' with
      | c z=>exact this
      | o z=>exact fC.RD (fun bb q=>⟨q,q2⟩) this
   ·rw [if_neg hqr] at h1
    rw [hE'q hq (fun e=>hqr e.symm)] at h2
    exact aM.mono hle (ba.refl _ w) (fun bb _ q=>eP bb q) (fun _ _ _=>rfl) (h.roots q y nU h1 h2)
  ·subst hq
   rw [hE'p] at h2
   simp only [aq] at h2
   subst h2
   rw [gC (by rw [List.length_set]; exact bk _),List.length_set] at h1
   simp at h1
   subst h1
   exact aM.mono hle (ba.refl _ w) (fun bb _ q=>eP bb q) (fun _ _ _=>rfl) (hroot E)
  ·have:=hE'o h2; omega
 ·intro q y bb z h1 h2 h3
  rcases key q y bb z h1 h2 h3 with ⟨_,_,g5,g6⟩|⟨_,g5,_⟩|⟨_,g5⟩
  ·exact h.dh q y bb z g5 h2 g6
  ·exact h.dh r _ bb _ hr trivial (hrown g5)
  ·exact h.dh r _ bb _ hr trivial (hrown (hKe g5))
 ·intro q q' y y' bb z z' h1 kH h2 gU h3 lE
  rcases key q y bb z h1 h2 h3 with ⟨g4,_,g5,g6⟩|⟨g4,g5,g6⟩|⟨g4,g5⟩<;>rcases key q' y' bb z' kH gU lE with ⟨g4',_,g5',g6'⟩|⟨g4',g5',g6'⟩|⟨g4',g5'⟩
  ·exact h.dQ q q' y y' bb z z' g5 g5' h2 gU g6 g6'
  ·exact (g4 (h.dQ q r y _ bb z _ g5 hr h2 trivial g6 (hrown g5'))).elim
  ·exact (g4 (h.dQ q r y _ bb z _ g5 hr h2 trivial g6 (hrown (hKe g5')))).elim
  ·exact (g4' (h.dQ q' r y' _ bb z' _ g5' hr gU trivial g6' (hrown g5))).elim
  ·rw [g4,g4']
  ·exact (g6 g5').elim
  ·exact (g4' (h.dQ q' r y' _ bb z' _ g5' hr gU trivial g6' (hrown (hKe g5)))).elim
  ·exact (g6' g5).elim
  ·rw [g4,g4']
def K8:ah→Option O
 | .arr e sz n get=>some (.ar e sz n get)
 | .cR e sz n get none=>some (.ns e sz n get)
 | _=>none
theorem EE {x:ah} {o:O} (h:K8 x=some o):x.live:=by
 unfold K8 at h
 split at h<;>first|trivial|simp at h
theorem fC.Ib {E:Env} {av:Nat→Prop} {base:Nat} {w:World} {e:fQ} {x:ah} {o:O} (ho:K8 x=some o) (h:aM E av base w e x) {m:Nat} (hm:m=kM o) {v:Value} {ao:Option Addr} {n cap:Nat} (h2:e.2.1.1=.slice ao n cap) (hv:v=.slice ao m cap) :
  v=e.2.1.1∧fC av base w o e.has v:=by
 unfold K8 at ho
 split at ho
 ·simp only [aq] at ho
  subst ho
  obtain ⟨p1,p2,xs,p3,p4⟩:=h
  obtain ⟨a2,c2,h3⟩:=cZ p3
  have hve:v=e.2.1.1:=by
   rw [hv,h2]; rw [h2] at h3; simp only [dT] at h3; rw [h3.2.1,hm]; rfl
  subst hve
  exact ⟨rfl,fun b q=>.inl (p2.trans q),xs,p3,p4⟩
 ·simp only [aq] at ho
  subst ho
  obtain ⟨p1,p2,xs,p3,Ks,p4,_,p5⟩:=h
  obtain ⟨a2,c2,h3⟩:=cZ p3
  have hve:v=e.2.1.1:=by
   rw [hv,h2]; rw [h2] at h3; simp only [dT] at h3; rw [h3.2.1,hm]; rfl
  subst hve
  refine ⟨rfl,fun b q=>.inl (p2.trans q),xs,p3,Ks,⟨fun i j b q=>.inr (p4.sub i j b q),p4.ne,p4.inj⟩,fun i hi j hj=>?_⟩
  obtain ⟨x,c,q1,q2,q3⟩:=p5 i hi j hj
  simp only [gg,aq] at q2
  subst q2
  exact ⟨x,q1,q3⟩
 ·simp at ho
theorem R.close (h:R T N ay w0 sp s a w E) {r q m k j el sz n:Nat} {get:Nat→Nat→O} {l:List Fc} {x:ah} {o:O} (hr:s.rs[r]?=some (.cR el sz n get (some (k,l)))) (hj:l[j]?=some (.c (.sa q m))) (hq:s.rs[q]?=some x) (ho:K8 x=some o) (hm:m=kM o) (KN:r≠q) :
  ∃ E',E'.length=E.length∧(∀ i,i≠r→E'[i]?=E[i]?)∧Kept E E'∧R T N ay w0 sp { s with rs:=(s.rs.set q .dead).set r (.cR el sz n get (some (k,l.set j (.o o)))) } a w E':=by
 have hx:=EE ho
 have hrl:r<s.rs.length:=(List.getElem?_eq_some_iff.1 hr).1
 have hql:q<s.rs.length:=(List.getElem?_eq_some_iff.1 hq).1
 have hrE:r<E.length:=by rw [h.len]; exact hrl
 have hqE:q<E.length:=by rw [h.len]; exact hql
 have he:=eY hrE
 generalize hee:E[r]=e at he
 have heq:=eY hqE
 generalize heeq:E[q]=eq at heq
 obtain ⟨p1,p2,xs,p3,Ks,p4,pf,p5⟩:=h.roots r _ _ hr he
 obtain ⟨f1,f2⟩:=pf _ rfl
 have f1:k<n:=f1
 have f2:l.length=sz:=f2
 have hjl:j<l.length:=(List.getElem?_eq_some_iff.1 hj).1
 obtain ⟨v,c,g1,g2,g3⟩:=p5 k f1 j (by omega)
 rw [Bv,hj] at g2
 simp only [aq] at g2
 subst g2
 obtain ⟨e0,ao,n',cap,g4,g5,g6,g7⟩:=g3
 rw [heq] at g4
 simp only [aq] at g4
 subst g4
 obtain ⟨hve,hO⟩:=fC.Ib ho (h.roots q _ _ hq heq) hm g5 g7
 have rA:e≠hole:=by
  obtain ⟨a2,c2,h2⟩:=cZ p3
  exact fQ.Jr h2
 have eM:∀ {bb:Nat},eq.has bb→di E q bb eq.2.2:=fun q=>⟨eq,heq,rfl,q⟩
 have hrown:∀ {bb:Nat},e.has bb→di E r bb e.2.2:=fun q=>⟨e,he,rfl,q⟩
 have apart:∀ {bb:Nat},e.has bb→¬ eq.has bb:=fun h1 h2=>KN (h.dQ r q _ _ _ _ _ hr hq trivial hx (hrown h1) (eM h2))
 let K1:Nat→Prop:=fun b=>e.2.1.2 b∨eq.has b
 let e1:fQ:=e.wk K1
 let E':Env:=E.set r e1
 have hEl:E'.length=E.length:=List.length_set
 have hE'r:E'[r]?=some e1:=by
  show (E.set r e1)[r]?=_
  rw [dP,if_pos rfl,if_pos hrE]
 have hE'q:∀ {i:Nat},i≠r→E'[i]?=E[i]?:=fun {i} hn=>by
  show (E.set r e1)[i]?=_
  rw [dP,if_neg (fun e=>hn e.symm)]
 have hle:Env.le E E':=fun i y h1 h2=>by
  by_cases hqr:i=r
  ·subst hqr
   rw [he] at h1
   simp only [aq] at h1
   subst h1
   exact ⟨K1,hE'r,fun e3=>by
    have:=congrArg (fun z:fQ=>z.2.1.1) e3
    obtain ⟨a2,c2,h4⟩:=cZ p3
    have h5:e.2.1.1=undef:=this
    rw [h4] at h5
    simp [undef] at h5⟩
  ·exact ⟨y.2.1.2,by rw [hE'q hqr]; exact h1,h2⟩
 have hkept:Kept E E':=⟨hle,fun i h1=>by
  by_cases hqr:i=r
  ·subst hqr
   rw [he] at h1
   simp only [aq] at h1
   exact (rA h1).elim
  ·rw [hE'q hqr]; exact h1⟩
 refine ⟨E',hEl,fun i hi=>hE'q hi,hkept,?_⟩
 let y1:ah:=.cR el sz n get (some (k,l.set j (.o o)))
 have key:∀ (i:Nat) (y:ah) (bb z:Nat),((s.rs.set q .dead).set r y1)[i]?=some y→y.live→di E' i bb z→
   (i≠r∧i≠q∧s.rs[i]?=some y∧di E i bb z)∨(i=r∧(e.has bb∨eq.has bb)):=by
  rintro i y bb z h1 h2 ⟨nU,h3,h4,h5⟩
  by_cases hir:i=r
  ·subst hir
   rw [hE'r] at h3
   simp only [aq] at h3
   subst h3
   refine .inr ⟨rfl,?_⟩
   rcases h5 with h5|h5
   ·exact .inl (.inl h5)
   ·rcases h5 with h5|h5
    ·exact .inl (.inr h5)
    ·exact .inr h5
  ·rw [dP,if_neg (fun e=>hir e.symm),dP] at h1
   by_cases hiq:q=i
   ·rw [if_pos hiq] at h1
    subst hiq
    rw [if_pos hql] at h1
    simp only [aq] at h1
    subst h1
    exact h2.elim
   ·rw [if_neg hiq] at h1
    rw [hE'q hir] at h3
    exact .inl ⟨hir,fun e=>hiq e.symm,h1,nU,h3,h4,h5⟩
 have eP:∀ bb,AV ay ((s.rs.set q .dead).set r y1) E' bb→AV ay s.rs E bb:=by
  rintro bb (h1|⟨i,y,z,h1,h2,h3⟩)
  ·exact .inl h1
  ·rcases key i y bb z h1 h2 h3 with ⟨_,_,g5,g6⟩|⟨_,g5|g5⟩
   ·exact .inr ⟨i,y,z,g5,h2,g6⟩
   ·exact .inr ⟨r,_,_,hr,trivial,hrown g5⟩
   ·exact .inr ⟨q,_,_,hq,hx,eM g5⟩
 refine h.wE (aG:=(s.rs.set q .dead).set r y1) hle (ba.refl _ w) h.below (fun bb _ q=>eP bb q) (by rw [hEl,List.length_set,List.length_set,h.len]) ?_ ?_ ?_
 ·intro i y nU h1 h2
  by_cases hir:i=r
  ·subst hir
   rw [dP,if_pos rfl,if_pos (by rw [List.length_set]; exact hrl)] at h1
   simp only [aq] at h1
   subst h1
   rw [hE'r] at h2
   simp only [aq] at h2
   subst h2
   refine ⟨p1,p2,xs,p3,fun i' j' bb=>(i'=k∧j'=j∧eq.has bb)∨(¬ (i'=k∧j'=j)∧Ks i' j' bb),⟨?_,?_,?_⟩,fun z hz=>?_,fun i' jD j' hj'=>?_⟩
   ·rintro i' j' bb (⟨_,_,q3⟩|⟨_,q3⟩)
    ·exact .inr q3
    ·exact .inl (p4.sub _ _ _ q3)
   ·rintro i' j' bb (⟨_,_,q3⟩|⟨_,q3⟩) q4
    ·exact apart (.inl (p2.trans q4)) q3
    ·exact p4.ne _ _ _ q3 q4
   ·rintro i1 j1 i2 j2 bb (⟨a1,a2,a3⟩|⟨a1,a2⟩) (⟨b1,b2,b3⟩|⟨b1,b2⟩)
    ·exact ⟨a1.trans b1.symm,a2.trans b2.symm⟩
    ·exact (apart (.inr (p4.sub _ _ _ b2)) a3).elim
    ·exact (apart (.inr (p4.sub _ _ _ a2)) b3).elim
    ·exact p4.inj _ _ _ _ _ a2 b2
   ·simp only [aq] at hz; subst hz; exact ⟨f1,by simpa using f2⟩
   ·rcases Da (get:=get) (k:=k) (x:=.o o) hjl i' j' with ⟨rfl,rfl,q3⟩|⟨q2,q3⟩
    ·refine ⟨v,_,g1,q3,?_⟩
     exact fC.RD (fun bb q=>.inl ⟨rfl,rfl,q⟩) (fC.mono (ba.refl _ w) (fun bb _ q=>eP bb q) (fun _ _=>rfl) hO)
    ·obtain ⟨v',c',r1,r2,r3⟩:=p5 i' jD j' hj'
     refine ⟨v',c',r1,by rw [q3]; exact r2,?_⟩
     have:=iU.mono (E':=E') (dp:=AV ay ((s.rs.set q .dead).set i y1) E') hle (ba.refl _ w) (fun bb _ q=>eP bb q) (fun _ _=>rfl) r3
     cases c' with
     | c z=>exact this
     | o z=>exact fC.RD (fun bb q=>.inr ⟨q2,q⟩) this
  ·rw [dP,if_neg (fun e=>hir e.symm),dP] at h1
   by_cases hiq:q=i
   ·rw [if_pos hiq] at h1
    subst hiq
    rw [if_pos hql] at h1
    simp only [aq] at h1
    subst h1
    trivial
   ·rw [if_neg hiq] at h1
    rw [hE'q hir] at h2
    exact aM.mono hle (ba.refl _ w) (fun bb _ q=>eP bb q) (fun _ _ _=>rfl) (h.roots i y nU h1 h2)
 ·intro i y bb z h1 h2 h3
  rcases key i y bb z h1 h2 h3 with ⟨_,_,g5,g6⟩|⟨_,g5|g5⟩
  ·exact h.dh i y bb z g5 h2 g6
  ·exact h.dh r _ bb _ hr trivial (hrown g5)
  ·exact h.dh q _ bb _ hq hx (eM g5)
 ·intro i i' y y' bb z z' h1 kH h2 gU h3 lE
  rcases key i y bb z h1 h2 h3 with ⟨g4,g8,g5,g6⟩|⟨g4,g5|g5⟩<;>rcases key i' y' bb z' kH gU lE with ⟨g4',g8',g5',g6'⟩|⟨g4',g5'|g5'⟩
  ·exact h.dQ i i' y y' bb z z' g5 g5' h2 gU g6 g6'
  ·exact (g4 (h.dQ i r y _ bb z _ g5 hr h2 trivial g6 (hrown g5'))).elim
  ·exact (g8 (h.dQ i q y _ bb z _ g5 hq h2 hx g6 (eM g5'))).elim
  ·exact (g4' (h.dQ i' r y' _ bb z' _ g5' hr gU trivial g6' (hrown g5))).elim
  ·rw [g4,g4']
  ·rw [g4,g4']
  ·exact (g8' (h.dQ i' q y' _ bb z' _ g5' hq gU hx g6' (eM g5))).elim
  ·rw [g4,g4']
  ·rw [g4,g4']
theorem Goal.open {r k j el sz n:Nat} {get:Nat→Nat→O} {l:List Fc} {x:O} (hr:aV s.rs r=some (.cR el sz n get (some (k,l)))) (hj:aV l j=some (.o x)) (hx:(gG x).live)
  (g:Goal P T N b cs ro n0 eX todo { s with rs:=setAt s.rs r (.cR el sz n get (some (k,setAt l j (.c (.sa s.rs.length (kM x))))))++[gG x] }):Goal P T N b cs ro n0 eX todo s:=
 g.Ba fun ay w0 sp a w E ec uu hR hn=>by
  rw [bT] at hr hj
  obtain ⟨E',h1,h2⟩:=hR.open hr hj hx
  rw [← aQ,← aQ] at h2
  exact ⟨E',h1.take n0,by simp only [List.length_append,aQ,List.length_set]; omega,h2,hn⟩
theorem Goal.close {r q m k j el sz n:Nat} {get:Nat→Nat→O} {l:List Fc} {x:ah} {o:O} (hr:aV s.rs r=some (.cR el sz n get (some (k,l)))) (hj:aV l j=some (.c (.sa q m))) (hq:aV s.rs q=some x) (ho:K8 x=some o) (hm:m=kM o) (KN:r≠q)
  (g:Goal P T N b cs ro n0 eX todo { s with rs:=setAt (setAt s.rs q .dead) r (.cR el sz n get (some (k,setAt l j (.o o)))) }):Goal P T N b cs ro n0 eX todo s:=
 g.Ba fun ay w0 sp a w E ec uu hR hn=>by
  rw [bT] at hr hj hq
  obtain ⟨E',_,_,h1,h2⟩:=hR.close hr hj hq ho hm KN
  rw [← aQ,← aQ,← aQ] at h2
  exact ⟨E',h1.take n0,by simp only [aQ,List.length_set]; omega,h2,hn⟩
end
section
variable {P:Program} {T:dY} {N:Nat} {b:Frame} {cs:List Frame} {ro:Option Nat} {n0:Nat} {eX:Option Code→VS→Prop} {todo:List Item} {s s':VS} {ay:Nat→Prop} {w0:Kp} {sp:List (D×Value)} {a:Act} {w:World} {E:Env}
theorem R.split (h:R T N ay w0 sp s a w E) {q:Nat} {L:List O} (hq:s.rs[q]?=some (.own L)) (hL:∀ o∈L,(gG o).live) :
  ∃ E',Kept E E'∧(∀ (i:Nat) (o:O),L[i]?=some o→∀ (av:Nat→Prop) (w:World) (v:Value),bh E' av w (.ow q i) v→bh E' av w (.sa (s.rs.length+i) (kM o)) v)∧
   R T N ay w0 sp { s with rs:=s.rs.set q .dead++L.map gG } a w E':=by
 have hql:q<s.rs.length:=(List.getElem?_eq_some_iff.1 hq).1
 have hqE:q<E.length:=by rw [h.len]; exact hql
 have he:=eY hqE
 generalize hee:E[q]=e at he
 obtain ⟨p1,p2,vs,p3,p4,Ks,p5,p6,p7⟩:=h.roots q _ _ hq he
 have hrown:∀ {i bb:Nat},Ks i bb→di E q bb e.2.2:=fun g=>⟨e,he,rfl,.inr (p5 _ _ g)⟩
 have ex:∀ i:Nat,∃ x:fQ,∀ o,L[i]?=some o→∃ (ao:Option Addr) (cap:Nat),vs[i]?=some x.2.1.1∧x.2.1.1=.slice ao (kM o) cap∧(∀ bb,x.has bb→Ks i bb)∧∀ F:Env,aM F (AV ay s.rs E) w0.base w x (gG o):=by
  intro i
  cases ho:L[i]? with
  | none=>exact ⟨hole,fun o q=>by cases q⟩
  | some o=>
    obtain ⟨v,g1,g2⟩:=p7 i o ho
    obtain ⟨ao,cap,sz,g3,g4,g5⟩:=fC.root (hL o (List.mem_of_getElem? ho)) g2
    refine ⟨(v.ownBlock,(v,fun b=>Ks i b∧v.ownBlock≠some b),sz),fun o' q=>?_⟩
    simp only [aq] at q
    subst q
    exact ⟨ao,cap,g1,g3,fun bb q=>q.elim (fun q=>g4 bb q) (fun q=>q.1),g5⟩
 obtain ⟨f,hf⟩:=Classical.axiomOfChoice ex
 let ents:List fQ:=(List.range L.length).map f
 let E':Env:=E++ents
 have hE'q:∀ {i:Nat},i<s.rs.length→E'[i]?=E[i]?:=fun {i} hi=>by
  show (E++ents)[i]?=_
  rw [dH (by rw [h.len]; exact hi)]
 have hE'n:∀ {i:Nat},i<L.length→E'[s.rs.length+i]?=some (f i):=fun {i} hi=>by
  show (E++ents)[s.rs.length+i]?=_
  rw [gC (by rw [h.len]; omega),h.len,Nat.add_sub_cancel_left]
  simp [ents,hi]
 have hE'o:∀ {i:Nat} {y:fQ},E'[i]?=some y→i<s.rs.length+L.length:=fun {i y} hi=>by
  have:=(List.getElem?_eq_some_iff.1 hi).1
  have hl:E'.length=s.rs.length+L.length:=by show (E++ents).length=_; rw [List.length_append,h.len]; simp [ents]
  omega
 have hle:Env.le E E':=Env.eK E ents
 have hkept:Kept E E':=⟨hle,fun i h1=>by
  have:=(List.getElem?_eq_some_iff.1 h1).1
  rw [hE'q (by rw [← h.len]; exact this)]; exact h1⟩
 refine ⟨E',hkept,?_,?_⟩
 ·rintro i o ho av w' v ⟨e2,vs2,g1,g2,g3,g4⟩
  rw [hE'q hql,he] at g1
  simp only [aq] at g1
  subst g1
  rw [p3] at g2
  simp only [Value.tuple.injEq] at g2
  subst g2
  obtain ⟨ao,cap,k1,k2,_⟩:=hf i o ho
  rw [g3] at k1
  simp only [aq] at k1
  exact ⟨f i,ao,kM o,cap,hE'n (List.getElem?_eq_some_iff.1 ho).1,k2,bk _,k1.trans k2⟩
 have key:∀ (i:Nat) (y:ah) (bb z:Nat),(s.rs.set q .dead++L.map gG)[i]?=some y→y.live→di E' i bb z→
   (i≠q∧s.rs[i]?=some y∧di E i bb z)∨(∃ k,i=s.rs.length+k∧Ks k bb):=by
  rintro i y bb z h1 h2 ⟨nU,h3,h4,h5⟩
  rcases Nat.lt_or_ge i s.rs.length with hi|hi
  ·rw [dH (by rw [List.length_set]; exact hi),dP] at h1
   by_cases hiq:q=i
   ·rw [if_pos hiq,if_pos hql] at h1
    simp only [aq] at h1
    subst h1
    exact h2.elim
   ·rw [if_neg hiq] at h1
    rw [hE'q hi] at h3
    exact .inl ⟨fun e=>hiq e.symm,h1,nU,h3,h4,h5⟩
  ·obtain ⟨k,rfl⟩:∃ k,i=s.rs.length+k:=⟨i-s.rs.length,by omega⟩
   have hk:k<L.length:=by have:=hE'o h3; omega
   rw [hE'n hk] at h3
   simp only [aq] at h3
   subst h3
   obtain ⟨_,_,_,_,k3,_⟩:=hf k _ (eY hk)
   exact .inr ⟨k,rfl,k3 bb h5⟩
 have eP:∀ bb,AV ay (s.rs.set q .dead++L.map gG) E' bb→AV ay s.rs E bb:=by
  rintro bb (g|⟨i,y,z,h1,h2,h3⟩)
  ·exact .inl g
  ·rcases key i y bb z h1 h2 h3 with ⟨_,g5,g6⟩|⟨k,_,g5⟩
   ·exact .inr ⟨i,y,z,g5,h2,g6⟩
   ·exact .inr ⟨q,_,_,hq,trivial,hrown g5⟩
 refine h.wE (aG:=s.rs.set q .dead++L.map gG) hle (ba.refl _ w) h.below (fun bb _ g=>eP bb g) (by show (E++ents).length=_; simp [ents,h.len]) ?_ ?_ ?_
 ·intro i y nU h1 h2
  rcases Nat.lt_or_ge i s.rs.length with hi|hi
  ·rw [dH (by rw [List.length_set]; exact hi),dP] at h1
   by_cases hiq:q=i
   ·rw [if_pos hiq,if_pos hql] at h1
    simp only [aq] at h1
    subst h1
    trivial
   ·rw [if_neg hiq] at h1
    rw [hE'q hi] at h2
    exact aM.mono hle (ba.refl _ w) (fun bb _ g=>eP bb g) (fun _ _ _=>rfl) (h.roots i y nU h1 h2)
  ·obtain ⟨k,rfl⟩:∃ k,i=s.rs.length+k:=⟨i-s.rs.length,by omega⟩
   have hk:k<L.length:=by have:=hE'o h2; omega
   rw [hE'n hk] at h2
   simp only [aq] at h2
   subst h2
   rw [gC (by rw [List.length_set]; omega),List.length_set,Nat.add_sub_cancel_left,List.getElem?_map,eY hk] at h1
   simp only [Option.map_some,aq] at h1
   subst h1
   obtain ⟨_,_,_,_,_,k4⟩:=hf k _ (eY hk)
   exact aM.mono (Env.le_refl E') (ba.refl _ w) (fun bb _ g=>eP bb g) (fun _ _ _=>rfl) (k4 E')
 ·intro i y bb z h1 h2 h3
  rcases key i y bb z h1 h2 h3 with ⟨_,g5,g6⟩|⟨k,_,g5⟩
  ·exact h.dh i y bb z g5 h2 g6
  ·exact h.dh q _ bb _ hq trivial (hrown g5)
 ·intro i i' y y' bb z z' h1 kH h2 gU h3 lE
  rcases key i y bb z h1 h2 h3 with ⟨g4,g5,g6⟩|⟨k,g4,g5⟩<;>rcases key i' y' bb z' kH gU lE with ⟨g4',g5',g6'⟩|⟨k',g4',g5'⟩
  ·exact h.dQ i i' y y' bb z z' g5 g5' h2 gU g6 g6'
  ·exact (g4 (h.dQ i q y _ bb z _ g5 hq h2 trivial g6 (hrown g5'))).elim
  ·exact (g4' (h.dQ i' q y' _ bb z' _ g5' hq gU trivial g6' (hrown g5))).elim
  ·rw [g4,g4',p6 k k' bb g5 g5']
theorem fC.VP {E:Env} {av:Nat→Prop} {base:Nat} {w:World} {e:fQ} {x:ah} {o:O} (ho:K8 x=some o) (h:aM E av base w e x):∃ (ao:Option Addr) (cap:Nat),e.2.1.1=.slice ao (kM o) cap∧fC av base w o e.has e.2.1.1:=by
 have Fx:∃ (ao:Option Addr) (cap:Nat),e.2.1.1=.slice ao (kM o) cap:=by
  unfold K8 at ho
  split at ho
  ·simp only [aq] at ho
   subst ho
   obtain ⟨_,_,xs,p3,_⟩:=h
   exact cZ p3
  ·simp only [aq] at ho
   subst ho
   obtain ⟨_,_,xs,p3,_⟩:=h
   exact cZ p3
  ·simp at ho
 obtain ⟨ao,cap,h1⟩:=Fx
 exact ⟨ao,cap,h1,(fC.Ib ho h rfl h1 (v:=e.2.1.1) h1).2⟩
theorem R.pack (h:R T N ay w0 sp s a w E) {ps:List Nat} {L:List O} (hL:L≠[]) (hp:aB (fun p o=>∃ x,s.rs[p]?=some x∧K8 x=some o) ps L) (rz:∀ (i j p:Nat),ps[i]?=some p→ps[j]?=some p→i=j) {fT:List ah} (hlen:fT.length=s.rs.length)
  (E8:∀ (i:Nat) (y:ah),fT[i]?=some y→y.live→s.rs[i]?=some y∧i ∉ ps) :
  ∃ E',Kept E E'∧(∀ (i p:Nat) (o:O),ps[i]?=some p→L[i]?=some o→∀ (av:Nat→Prop) (w:World) (v:Value),bh E' av w (.sa p (kM o)) v→bh E' av w (.ow s.rs.length i) v)∧
   R T N ay w0 sp { s with rs:=fT++[.own L] } a w E':=by
 have zm:ps.length=L.length:=hp.length
 have ex:∀ (i p:Nat) (o:O),ps[i]?=some p→L[i]?=some o→∃ (e:fQ) (x:ah) (ao:Option Addr) (cap:Nat),E[p]?=some e∧s.rs[p]?=some x∧x.live∧e.2.1.1=.slice ao (kM o) cap∧fC (AV ay s.rs E) w0.base w o e.has e.2.1.1:=by
  intro i p o g1 g2
  obtain ⟨x,g3,g4⟩:=hp.get g1 g2
  have dD:p<E.length:=by rw [h.len]; exact (List.getElem?_eq_some_iff.1 g3).1
  have he:=eY dD
  obtain ⟨ao,cap,g5,g6⟩:=fC.VP g4 (h.roots p _ _ g3 he)
  exact ⟨_,x,ao,cap,he,g3,EE g4,g5,g6⟩
 let entP:Nat→fQ:=fun p=>E.getD p hole
 let hd:Nat→Value:=fun i=>(entP (ps.getD i 0)).2.1.1
 let K:Nat→Prop:=fun bb=>∃ p∈ps,(entP p).has bb
 let vs:Array Value:=(ps.map fun p=>(entP p).2.1.1).toArray
 let e1:fQ:=(Option.none,(.tuple vs,K),0)
 let E':Env:=E++[e1]
 have entE:∀ {p:Nat} {e:fQ},E[p]?=some e→entP p=e:=fun {p e} g=>by
  show E.getD p hole=e
  rw [List.getD_eq_getElem?_getD,g]; rfl
 have hle:Env.le E E':=Env.eK E _
 have hE'q:∀ {i:Nat},i<s.rs.length→E'[i]?=E[i]?:=fun {i} hi=>by
  show (E++[e1])[i]?=_
  rw [dH (by rw [h.len]; exact hi)]
 have hE'p:E'[s.rs.length]?=some e1:=by
  show (E++[e1])[s.rs.length]?=_
  rw [← h.len]; simp
 have hkept:Kept E E':=⟨hle,fun i h1=>by
  have:=(List.getElem?_eq_some_iff.1 h1).1
  rw [hE'q (by rw [← h.len]; exact this)]; exact h1⟩
 have sT:∀ (i p:Nat),ps[i]?=some p→vs[i]?=some (entP p).2.1.1:=fun i p g=>by
  show ((ps.map fun p=>(entP p).2.1.1).toArray)[i]?=_
  rw [List.getElem?_toArray,List.getElem?_map,g]; rfl
 refine ⟨E',hkept,?_,?_⟩
 ·rintro i p o g1 g2 av w' v ⟨e,ao,n,cap,k1,k2,k3,k4⟩
  obtain ⟨e',x,ao',cap',k5,k6,_,k7,_⟩:=ex i p o g1 g2
  have dD:=(List.getElem?_eq_some_iff.1 k6).1
  rw [hE'q dD,k5] at k1
  simp only [aq] at k1
  subst k1
  rw [k7] at k2
  simp only [dT] at k2
  obtain ⟨rfl,_,rfl⟩:=k2
  refine ⟨e1,vs,hE'p,rfl,?_,by rw [k4]; rfl⟩
  rw [sT i p g1,entE k5,k7,k4]
 have hKo:∀ {bb:Nat},K bb→∃ p x,p∈ps∧s.rs[p]?=some x∧x.live∧di E p bb (entP p).2.2:=by
  rintro bb ⟨p,g1,g2⟩
  obtain ⟨i,hi,rfl⟩:=List.getElem_of_mem g1
  have hi2:i<L.length:=by omega
  obtain ⟨e,x,_,_,k5,k6,k7,_⟩:=ex i _ _ (eY hi) (eY hi2)
  refine ⟨_,x,List.getElem_mem hi,k6,k7,e,k5,by rw [entE k5],?_⟩
  rwa [entE k5] at g2
 have key:∀ (i:Nat) (y:ah) (bb z:Nat),(fT++[.own L])[i]?=some y→y.live→di E' i bb z→
   (s.rs[i]?=some y∧i ∉ ps∧di E i bb z)∨(i=s.rs.length∧K bb):=by
  rintro i y bb z h1 h2 ⟨nU,h3,h4,h5⟩
  rcases Nat.lt_trichotomy i s.rs.length with hi|hi|hi
  ·rw [dH (by rw [hlen]; exact hi)] at h1
   obtain ⟨g1,g2⟩:=E8 i y h1 h2
   rw [hE'q hi] at h3
   exact .inl ⟨g1,g2,nU,h3,h4,h5⟩
  ·subst hi
   rw [hE'p] at h3
   simp only [aq] at h3
   subst h3
   rcases h5 with h5|h5
   ·simp [e1] at h5
   ·exact .inr ⟨rfl,h5⟩
  ·rw [List.getElem?_eq_none (by simp [hlen]; omega)] at h1; simp at h1
 have eP:∀ bb,AV ay (fT++[.own L]) E' bb→AV ay s.rs E bb:=by
  rintro bb (g|⟨i,y,z,h1,h2,h3⟩)
  ·exact .inl g
  ·rcases key i y bb z h1 h2 h3 with ⟨g5,_,g6⟩|⟨_,g5⟩
   ·exact .inr ⟨i,y,z,g5,h2,g6⟩
   ·obtain ⟨p,x,_,g6,g7,g8⟩:=hKo g5
    exact .inr ⟨p,x,_,g6,g7,g8⟩
 refine h.wE (aG:=fT++[.own L]) hle (ba.refl _ w) h.below (fun bb _ g=>eP bb g) (by show (E++[e1]).length=_; simp [h.len,hlen]) ?_ ?_ ?_
 ·intro i y nU h1 h2
  rcases Nat.lt_trichotomy i s.rs.length with hi|hi|hi
  ·rw [dH (by rw [hlen]; exact hi)] at h1
   rw [hE'q hi] at h2
   by_cases hy:y.live
   ·exact aM.mono hle (ba.refl _ w) (fun bb _ g=>eP bb g) (fun _ _ _=>rfl) (h.roots i y nU (E8 i y h1 hy).1 h2)
   ·cases y with
    | dead=>trivial
    | _=>exact (hy trivial).elim
  ·subst hi
   rw [hE'p] at h2
   simp only [aq] at h2
   subst h2
   rw [gC (by rw [hlen]; exact bk _),hlen] at h1
   simp at h1
   subst h1
   refine ⟨rfl,hL,vs,rfl,by simp [vs,zm],fun i bb=>∃ p,ps[i]?=some p∧(entP p).has bb,?_,?_,?_⟩
   ·rintro i bb ⟨p,g1,g2⟩
    exact ⟨p,List.mem_of_getElem? g1,g2⟩
   ·rintro i j bb ⟨p,g1,g2⟩ ⟨p',Qu,LA⟩
    have hi2:i<L.length:=by rw [← zm]; exact (List.getElem?_eq_some_iff.1 g1).1
    have hj2:j<L.length:=by rw [← zm]; exact (List.getElem?_eq_some_iff.1 Qu).1
    obtain ⟨e,x,_,_,k5,k6,k7,_⟩:=ex i _ _ g1 (eY hi2)
    obtain ⟨e',x',_,_,k5',k6',k7',_⟩:=ex j _ _ Qu (eY hj2)
    rw [entE k5] at g2
    rw [entE k5'] at LA
    have:=h.dQ p p' x x' bb _ _ k6 k6' k7 k7' ⟨e,k5,rfl,g2⟩ ⟨e',k5',rfl,LA⟩
    subst this
    exact rz i j p g1 Qu
   ·intro i o ho
    have hi2:i<ps.length:=by rw [zm]; exact (List.getElem?_eq_some_iff.1 ho).1
    obtain ⟨e,x,_,_,k5,k6,k7,k8,k9⟩:=ex i _ _ (eY hi2) ho
    refine ⟨e.2.1.1,by rw [sT i _ (eY hi2),entE k5],?_⟩
    exact fC.RD (fun bb g=>⟨_,eY hi2,by rw [entE k5]; exact g⟩) (fC.mono (ba.refl _ w) (fun bb _ g=>eP bb g) (fun _ _=>rfl) k9)
  ·rw [List.getElem?_eq_none (by simp [hlen]; omega)] at h1; simp at h1
 ·intro i y bb z h1 h2 h3
  rcases key i y bb z h1 h2 h3 with ⟨g5,_,g6⟩|⟨_,g5⟩
  ·exact h.dh i y bb z g5 h2 g6
  ·obtain ⟨p,x,_,g6,g7,g8⟩:=hKo g5
   exact h.dh p x bb _ g6 g7 g8
 ·intro i i' y y' bb z z' h1 kH h2 gU h3 lE
  rcases key i y bb z h1 h2 h3 with ⟨g5,g4,g6⟩|⟨g4,g5⟩<;>rcases key i' y' bb z' kH gU lE with ⟨g5',g4',g6'⟩|⟨g4',g5'⟩
  ·exact h.dQ i i' y y' bb z z' g5 g5' h2 gU g6 g6'
  ·obtain ⟨p,x,k1,k2,k3,k4⟩:=hKo g5'
   have:=h.dQ i p y x bb z _ g5 k2 h2 k3 g6 k4
   subst this
   exact (g4 k1).elim
  ·obtain ⟨p,x,k1,k2,k3,k4⟩:=hKo g5
   have:=h.dQ i' p y' x bb z' _ g5' k2 gU k3 g6' k4
   subst this
   exact (g4' k1).elim
  ·rw [g4,g4']
def Kt (q n:Nat) (L:List O) (c:Fc):Fc:=match c with
 | .c (.ow r i)=>Bool.rec (.c (.ow r i)) (match aV L i with
   | some o=>.c (.sa (n+i) (kM o))
   | none=>.c (.ow r i)) (Nat.beq r q)
 | c=>c
theorem OV {q n:Nat} {L:List O} {E:Env} (hE:∀ (i:Nat) (o:O),L[i]?=some o→∀ (av:Nat→Prop) (w:World) (v:Value),bh E av w (.ow q i) v→bh E av w (.sa (n+i) (kM o)) v) {c:Fc} {av:Nat→Prop} {base:Nat} {w:World} {K:Nat→Prop} {v:Value} (h:iU E av base w c K v):iU E av base w (Kt q n L c) K v:=by
 unfold Kt
 split
 ·rename_i r i
  cases hb:Nat.beq r q with
  | false=>exact h
  | true=>
    have:=Nat.eq_of_beq_eq_true hb
    subst this
    show iU E av base w (match aV L i with
     | some o=>.c (.sa (n+i) (kM o))
     | none=>.c (.ow r i)) K v
    split
    ·rename_i o ho
     rw [bT] at ho
     exact hE i o ho av w v h
    ·exact h
 ·exact h
theorem Goal.split {r q k el sz n:Nat} {get:Nat→Nat→O} {l:List Fc} {L:List O} (hr:aV s.rs r=some (.cR el sz n get (some (k,l)))) (hq:aV s.rs q=some (.own L)) (hL:∀ o∈L,(gG o).live)
  (g:Goal P T N b cs ro n0 eX todo { s with rs:=setAt (setAt s.rs q .dead++L.map gG) r (.cR el sz n get (some (k,l.map (Kt q s.rs.length L)))) }):Goal P T N b cs ro n0 eX todo s:=
 g.Ba fun ay w0 sp a w E ec uu hR hn=>by
  rw [bT] at hr hq
  obtain ⟨E',h1,h2,h3⟩:=hR.split hq hL
  have hrl:=(List.getElem?_eq_some_iff.1 hr).1
  have KN:q≠r:=by rintro rfl; rw [hr] at hq; cases hq
  have h4:=h3.swap (r:=r) (x:=.cR el sz n get (some (k,l))) (y:=.cR el sz n get (some (k,l.map (Kt q s.rs.length L)))) (by
   show (s.rs.set q .dead++L.map gG)[r]?=_
   rw [dH (by rw [List.length_set]; exact hrl),dP,if_neg KN]; exact hr) (fun _=>trivial) (fun e av q1 _=>by
    obtain ⟨p1,p2,xs,p3,Ks,p4,pf,p5⟩:=q1
    obtain ⟨f1,f2⟩:=pf _ rfl
    refine ⟨p1,p2,xs,p3,Ks,p4,fun x hx=>?_,fun i hi j hj=>?_⟩
    ·simp only [aq] at hx; subst hx; exact ⟨f1,by simpa using f2⟩
    ·obtain ⟨v,c,g1,g2,g3⟩:=p5 i hi j hj
     unfold gg at g2 ⊢
     cases hb:Nat.beq i k with
     | true=>
       simp only [hb,bp] at g2 ⊢
       exact ⟨v,Kt q s.rs.length L c,g1,by rw [List.getElem?_map,g2]; rfl,OV h2 g3⟩
     | false=>
       simp only [hb,aq] at g2 ⊢
       exact ⟨v,c,g1,g2,g3⟩)
  rw [← aQ,← aQ] at h4
  exact ⟨E',h1.take n0,by simp only [List.length_append,aQ,List.length_set]; omega,h4,hn⟩
def Qz (n:Nat) (ps:List Nat) (L:List O) (c c':C):Prop:=c'=c∨∃ (i p:Nat) (o:O),c=.sa p (kM o)∧ps[i]?=some p∧L[i]?=some o∧c'=.ow n i
theorem Goal.pack {ps:List Nat} {L:List O} (hL:L≠[]) (hp:aB (fun p o=>∃ x,s.rs[p]?=some x∧K8 x=some o) ps L) (rz:∀ (i j p:Nat),ps[i]?=some p→ps[j]?=some p→i=j) {fT:List ah} (hlen:fT.length=s.rs.length)
  (E8:∀ (i:Nat) (y:ah),fT[i]?=some y→y.live→s.rs[i]?=some y∧i ∉ ps) {r:Nat} {l l':List C} (hr:fT[r]?=some (.box l)) (hl:aB (Qz s.rs.length ps L) l l')
  (g:Goal P T N b cs ro n0 eX todo { s with rs:=setAt (fT++[.own L]) r (.box l') }):Goal P T N b cs ro n0 eX todo s:=
 g.Ba fun ay w0 sp a w E ec uu hR hn=>by
  obtain ⟨E',h1,h2,h3⟩:=hR.pack hL hp rz hlen E8
  have hrl:=(List.getElem?_eq_some_iff.1 hr).1
  have h4:=h3.swap (r:=r) (x:=.box l) (y:=.box l') (by
   show (fT++[ah.own L])[r]?=_
   rw [dH hrl]; exact hr) (fun _=>trivial) (fun e av q1 _=>by
    obtain ⟨bb,vs,Tc,p1,p2,p3,p4⟩:=q1
    refine ⟨bb,vs,Tc,p1,by rw [p2,hl.length],p3,aB.tD (by rw [← hl.length]; exact p4.length) fun i c' v hc hv=>?_⟩
    have hi:i<l.length:=by rw [hl.length]; exact (List.getElem?_eq_some_iff.1 hc).1
    have hci:=eY hi
    have k1:=p4.get hci hv
    rcases hl.get hci hc with k2|⟨i',p,o,k2,k3,k4,k5⟩
    ·rw [k2]; exact k1
    ·rw [k5]
     rw [k2] at k1
     exact h2 i' p o k3 k4 _ _ _ k1)
  rw [← aQ] at h4
  exact ⟨E',h1.take n0,by simp only [List.length_append,aQ,List.length_set]; omega,h4,hn⟩
end
section
variable {P:Program} {T:dY} {N:Nat} {b:Frame} {cs:List Frame} {ro:Option Nat} {n0:Nat} {eX:Option Code→VS→Prop} {todo:List Item} {s s':VS} {ay:Nat→Prop} {w0:Kp} {sp:List (D×Value)} {a:Act} {w w':World} {E E':Env} {f:FuncId}
end
end
end Go.V
