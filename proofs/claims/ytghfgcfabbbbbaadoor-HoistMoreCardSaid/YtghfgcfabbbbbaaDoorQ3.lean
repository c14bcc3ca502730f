/- Operations that turn memory: what they read, which roots they write. -/
import Derived.Test.YtghfgcfabbbbbaaDoorQ2
import Derived.OrdersIn
import Derived.RangeFuncNested
import Derived.RangeFuncLeaves
set_option linter.unusedSimpArgs false
set_option linter.unusedVariables false
namespace Go.V
noncomputable section
section
variable {T:dn} {lo:Lo} {hi:Hint} {sl fC:aG} {rs aE:List ae} {df Aq:List Nat}
theorem iC (hr:nM rs aE) {q:Nat} {rec Mi:List C→Option (List I)} (kD:∀ l r,rec l=some r→Mi l=some r) {x:I} (e:jd rs q rec=some x):jd aE q Mi=some x:=by
 unfold jd at e ⊢
 split at e
 case h_2=>simp at e
 rename_i h1
 split at e
 case h_2=>simp at e
 rename_i h2
 simp only [hr.nth h1 trivial,kD _ _ h2]
 exact e
theorem wP (hr:nM rs aE) {rec Mi:List C→Option (List I)} (kD:∀ l r,rec l=some r→Mi l=some r) {c:C} {x:I} (e:lP rs rec c=some x):lP aE Mi c=some x:=by
 unfold lP at e ⊢
 split at e
 ·exact e
 ·exact iC hr kD e
 ·split at e
  ·rename_i h1; rw [hr.nth h1 trivial]; exact e
  ·rename_i h1
   rw [hr.nth h1 trivial]
   split at e
   case h_2=>simp at e
   rename_i h2
   split at e
   case h_2=>simp at e
   rename_i h3
   simp only [h2,kD _ _ h3]
   exact e
  ·rename_i h1; rw [hr.nth h1 trivial]; exact e
  ·simp at e
 ·split at e
  ·rename_i h1; rw [hr.nth h1 trivial]; exact e
  ·simp at e
 ·exact e
 ·split at e
  case h_2=>simp at e
  rename_i h1
  simp only [iC hr kD h1]
  exact e
 ·split at e
  case h_2=>simp at e
  rename_i h1 h2
  simp only [iC hr kD h1,iC hr kD h2]
  exact e
 ·split at e
  case h_2=>simp at e
  rename_i h1 h2 h3
  simp only [iC hr kD h1,iC hr kD h2,iC hr kD h3]
  exact e
 ·simp at e
theorem yL {α β:Type} {f g:α→Option β} (h:∀ x y,f x=some y→g x=some y):∀ {l:List α} {r:List β},pH f l=some r→pH g l=some r
 | [],r,e=>e
 | x::l,r,e=>by
   simp only [pH] at e ⊢
   split at e
   case h_2=>simp at e
   rename_i h1 h2
   simp only [h _ _ h1,yL h h2]
   exact e
theorem qO (hr:nM rs aE):∀ (k:Nat) (l:List C) (r:List I),reify k rs l=some r→reify k aE l=some r
 | 0,l,r,e=>yL (fun x y h=>wP hr (fun _ _ h=>h) h) e
 | k+1,l,r,e=>yL (fun x y h=>wP hr (qO hr k) h) e
theorem wW (hr:nM rs aE):∀ {l r:List (Bool×List C)},aQ.reifyT rs l=some r→aQ.reifyT aE l=some r
 | [],r,e=>e
 | (b,l)::m,r,e=>by
   simp only [aQ.reifyT] at e ⊢
   split at e
   case h_2=>simp at e
   rename_i h1 h2
   simp only [qO hr _ _ _ h1,wW hr h2]
   exact e
theorem HE (hr:nM rs aE) {d d':D} (e:aQ rs d=some d'):aQ aE d=some d':=by
 cases d with
 | c x=>
   simp only [aQ] at e ⊢
   split at e
   case h_2=>simp at e
   rename_i h1
   simp only [qO hr _ _ _ h1]
   exact e
 | a l=>
   simp only [aQ] at e ⊢
   split at e
   case h_2=>simp at e
   rename_i h1
   simp only [qO hr _ _ _ h1]
   exact e
 | t l=>
   simp only [aQ] at e ⊢
   split at e
   case h_2=>simp at e
   rename_i h1
   simp only [wW hr h1]
   exact e
theorem lR (hr:nM rs aE):∀ {l r:List D},cP rs l=some r→cP aE l=some r
 | [],r,e=>e
 | d::l,r,e=>by
   simp only [cP] at e ⊢
   split at e
   case h_2=>simp at e
   rename_i h1 h2
   simp only [HE hr h1,lR hr h2]
   exact e
theorem oT {rec:List C→Option (List Nat)}:∀ {l:List C},fh l=true→BU rec rs l=some []
 | [],_=>rfl
 | c::l,h=>by
   cases c with
   | im x=>
     have:=oT (rec:=rec) (l:=l) (by simpa [fh] using h)
     show (match (some []:Option (List Nat)) with
      | some a=>match BU rec rs l with
        | some b=>some (a++b)
        | none=>none
      | none=>none)=some []
     rw [this]; rfl
   | _=>simp [fh] at h
theorem AW:∀ {ds:List D},sf rs ds=some []→sf aE ds=some []
 | [],_=>rfl
 | d::ds,h=>by
   have h:(match Dk rs d,sf rs ds with
    | some a,some b=>some (a++b)
    | _,_=>none)=some []:=h
   split at h
   case h_2=>simp at h
   rename_i m k hm hk
   simp only [ak,List.append_eq_nil_iff] at h
   obtain ⟨rfl,rfl⟩:=h
   have hd:Dk aE d=some []:=by
    cases d with
    | c x=>exact oT (lk (l:=[x]) hm)
    | a l=>exact oT (lk (l:=l) hm)
    | t l=>simp [Dk] at hm
   show (match Dk aE d,sf aE ds with
    | some a,some b=>some (a++b)
    | _,_=>none)=some []
   rw [hd,AW hk]; rfl
theorem tW {ds:List D} {e e':bP} (hc:∀ l,e' ≠ .cp l) (h:iy rs ds e=some e'):iy aE ds e=some e':=by
 rcases et h with ⟨l,hl⟩|⟨rfl,hs⟩
 ·exact (hc l hl).elim
 ·unfold iy
  rw [AW hs]
theorem NJ (hr:nM rs aE) {f:FuncId} {ds:List D} {d:D} (e:wu lo rs f ds=some d):wu lo aE f ds=some d:=by
 unfold wu at e ⊢
 split at e
 case h_2=>simp at e
 rename_i h1
 simp only [lR hr h1]
 exact e
theorem Ae (hr:nM rs aE) {f:FuncId} {ds:List D} {b:Nat} {d:bP} (e:tQ lo rs f ds b=some d):tQ lo aE f ds b=some d:=by
 unfold tQ at e ⊢
 split at e
 case h_2=>simp at e
 rename_i h1
 simp only [lR hr h1]
 exact e
theorem wR (hr:nM rs aE) {f:FuncId} {ds:List D} {e:bP} (hc:∀ l,e ≠ .cp l) (h:gn lo rs f ds=some e):gn lo aE f ds=some e:=by
 unfold gn at h ⊢
 split at h
 case h_2=>simp at h
 rename_i d hd
 simp only [NJ hr hd]
 cases hp:gK d with
 | true=>rw [hp] at h; exact h
 | false=>
   rw [hp] at h
   cases hq:jl d with
   | true=>rw [hq] at h; exact tW hc h
   | false=>rw [hq] at h; simp at h
theorem Hq (hr:nM rs aE) {f:FuncId} {ds:List D} {b:Nat} {e:bP} (hc:∀ l,e ≠ .cp l) (h:fH lo rs f ds b=some e):fH lo aE f ds b=some e:=by
 unfold fH at h ⊢
 split at h
 ·rename_i ho; rw [Ae hr ho]; exact h
 ·rename_i ho
  rw [Ae hr ho]
  simp only
  revert h
  generalize eJ _=p
  intro h
  cases p with
  | true=>exact h
  | false=>exact tW hc h
 ·rename_i ho
  rw [Ae hr ho]
  exact tW hc h
 ·simp at h
theorem OP (hr:nM rs aE) {f:FuncId} {ds:List D} {b:Nat} {e:bP} (h:wq lo rs f ds b=some e):wq lo aE f ds b=some e:=by
 obtain ⟨is,cs,mc,L,hp,hi,hc,hm,rfl⟩:=jD h
 simp only [wq,hp,lR hr hi,hc,hm]
theorem Dt {b:Nat} {f:FuncId} {ds:List D} {d:Option D} {ws:List (Nat×ae)} (h:wq lo rs f ds b=some (.wr d ws)):∃ x,ws=[(b,x)]:=by
 obtain ⟨is,cs,mc,L,hp,hi,hc,hm,he⟩:=jD h
 simp only [bP.wr.injEq] at he
 exact ⟨_,he.2⟩
def xA (lo:Lo):Prop:=∀ f ds rs nr r,rs.length=nr.length→(∀ (q:Nat) (x:ae),aY rs q=some x→x.live→aY nr q=some x)→lo.wr f ds rs=some r→lo.wr f ds nr=some r
theorem Rx (hm:xA lo) (hlen:rs.length=aE.length) (hr:nM rs aE) {f:FuncId} {ds:List D} {e:bP} (h:MQ lo rs f ds=some e):MQ lo aE f ds=some e:=by
 unfold MQ at h ⊢
 split at h
 case h_2=>simp at h
 rename_i d q x hd
 rw [hm _ _ _ _ _ hlen hr hd,← hlen]
 exact h
theorem JO (hm:xA lo) (hlen:rs.length=aE.length) (hr:nM rs aE) {b:Nat} {f:FuncId} {ds:List D} {e:bP} (hc:∀ l,e ≠ .cp l) (ha:∀ d r,e=.all d r→rs=aE) (h:mL lo hi rs b f ds=some e):mL lo hi aE b f ds=some e:=by
 have hE:rl lo rs f ds=some e→rl lo aE f ds=some e:=fun h=>by
  have h0:=h
  unfold rl at h
  split at h
  ·simp only [ak] at h
   rw [← ha _ _ h.symm]; exact h0
  ·simp at h
 unfold mL at h ⊢
 split at h
 ·exact wR hr hc h
 ·exact hE h
 ·exact Hq hr hc h
 ·exact Rx hm hlen hr h
 ·exact OP hr h
 ·cases hp:eQ ds with
  | true=>rw [hp] at h; exact wR hr hc h
  | false=>rw [hp] at h; exact hE h
theorem Pv {r:Nat} {ds:List D} {e:bP} (ha:∀ d r,e=.all d r→rs=aE) (h:yC lo rs r ds=some e):yC lo aE r ds=some e:=by
 have h0:=h
 unfold yC at h
 split at h
 ·simp only [ak] at h
  rw [← ha _ _ h.symm]; exact h0
 ·simp at h
theorem Ol (hr:nM rs aE) {c:C} {x:Nat×Nat×List C} (e:tF rs c=some x):tF aE c=some x:=by
 unfold tF at e ⊢
 split at e
 ·exact e
 ·exact e
 ·split at e
  ·rename_i hq; rw [hr _ _ hq trivial]; exact e
  ·rename_i hq; rw [hr _ _ hq trivial]; exact e
  ·simp at e
 ·simp at e
theorem Pa (hr:nM rs aE) {sz:Nat} {c:C} {x:Nat×(Nat→Nat→I)} (e:qF sz rs c=some x):qF sz aE c=some x:=by
 unfold qF at e ⊢
 split at e
 ·exact e
 ·exact e
 ·split at e
  ·rename_i hq; rw [hr _ _ hq trivial]; exact e
  ·rename_i hq; rw [hr _ _ hq trivial]; exact e
  ·simp at e
 ·simp at e
theorem Q5 (hr:nM rs aE) {c src:C} (e:Ik rs c src=true):Ik aE c src=true:=by
 unfold Ik at e ⊢
 split at e
 ·split at e
  ·rename_i hq; rw [hr _ _ hq trivial]
  ·simp at e
 ·split at e
  ·rfl
  ·split at e
   ·rename_i hq; rw [hr _ _ hq trivial]
   ·simp at e
  ·simp at e
 ·simp at e
theorem Pw (hr:nM rs aE) {el sz k:Nat} {l':Nat→Nat→I} {bytes b:Nat} {c:C} {e:bP} (h:pK el sz k l' bytes b rs c=some e):pK el sz k l' bytes b aE c=some e:=by
 unfold pK at h ⊢
 split at h
 ·exact h
 ·split at h
  ·rename_i hq; rw [hr _ _ hq trivial]; exact h
  ·simp at h
 ·simp at h
theorem jE {l:List C} {e:bP} (h:mB rs l=some e):∃ m,e=.cp m:=by
 unfold mB at h
 split at h
 ·simp only [ak] at h; exact ⟨_,h.symm⟩
 ·simp at h
theorem DH {b:Nat} {t t':TypeId} {x y:Operand} {e:bP} {s:VS} (h:mH T b s [t,t'] [x,y]=some e):∃ ub uA z0 el,T.ty t=some ⟨ub,uA,z0,.slice el⟩∧Nat.beq t t'=true∧
  ((nN T el b s.rs (cO (bO s.sl x)) (cO (bO s.sl y))=some (some e))∨(nN T el b s.rs (cO (bO s.sl x)) (cO (bO s.sl y))=none∧ng T el b s.rs (cO (bO s.sl x)) (cO (bO s.sl y))=some e)):=by
 obtain ⟨h1,h2⟩:=Bool.aq (show (Bool.rec none _ (Nat.beq t t'):Option bP)=some e from h)
 split at h2
 case h_2=>simp at h2
 rename_i hy
 refine ⟨_,_,_,_,hy,h1,?_⟩
 split at h2
 ·rename_i h3; subst h2; exact .inl h3
 ·rename_i h3; exact .inr ⟨h3,h2⟩
theorem LQ (hr:nM rs aE) {el sz k:Nat} {l':List C} {bytes b:Nat} {c:C} {e:bP} (h:Am el sz k l' bytes b rs c=some e):Am el sz k l' bytes b aE c=some e:=by
 unfold Am at h ⊢
 split at h
 ·exact h
 ·split at h
  ·rename_i hq; rw [hr _ _ hq trivial]; exact h
  ·rename_i hq; rw [hr _ _ hq trivial]; exact h
  ·simp at h
 ·simp at h
theorem ND (hr:nM rs aE) {el b:Nat} {x src:Option C} {e:bP} (h:ng T el b rs x src=some e):ng T el b aE x src=some e:=by
 unfold ng at h ⊢
 split at h
 case h_2=>simp at h
 rename_i h1
 split at h
 case h_2=>simp at h
 split at h
 case h_2=>simp at h
 rename_i h3
 split at h
 case h_2=>simp at h
 simp only [Ol hr h3]
 split at h
 ·obtain ⟨h5,h6⟩:=Bool.aq h
  simp only [h5]
  exact LQ hr h6
 ·obtain ⟨h5,h6⟩:=Bool.aq h
  simp only [h5]
  exact LQ hr h6
theorem OD (hr:nM rs aE) {el b:Nat} {x src:Option C} {e:bP} (hc:∀ l,e ≠ .cp l) (h:nN T el b rs x src=some (some e)):nN T el b aE x src=some (some e):=by
 unfold nN at h ⊢
 split at h
 case h_2=>simp at h
 split at h
 case h_2=>simp at h
 rename_i hg
 simp only [Q5 hr hg]
 split at h
 case h_2=>simp at h
 rename_i hy
 simp only [ak] at h ⊢
 unfold yY at h ⊢
 split at h
 ·rename_i h1
  obtain ⟨h2,h3⟩:=Bool.aq h
  simp only [Pa hr h1,h2]
  exact Pw hr h3
 ·obtain ⟨m,hm⟩:=jE h
  exact (hc m hm).elim
theorem R9 (hr:nM rs aE) {el b:Nat} {c src:C} {e:bP} (h:ng T el b rs (some c) (some src)=some e) (hg:Ik rs c src=false):Ik aE c src=false:=by
 unfold ng at h
 split at h
 case h_2=>simp at h
 simp only at h
 split at h
 case h_2=>simp at h
 rename_i h3
 have hap:∃ sz k l' bytes,Am el sz k l' bytes b rs c=some e:=by
  split at h
  ·exact ⟨_,_,_,_,(Bool.aq h).2⟩
  ·exact ⟨_,_,_,_,(Bool.aq h).2⟩
 obtain ⟨sz,k,l',bytes,hap⟩:=hap
 unfold Am at hap
 split at hap
 ·unfold tF at h3
  split at h3
  ·simp [Ik] at hg
  ·rfl
  ·split at h3
   ·rename_i hq; simp only [Ik,hr _ _ hq trivial]
   ·rename_i hq; simp [Ik,hq] at hg
   ·simp at h3
  ·simp at h3
 ·split at hap
  ·rename_i hq; simp only [Ik,hr _ _ hq trivial]
  ·rename_i hq; simp only [Ik,hr _ _ hq trivial]
  ·simp at hap
 ·simp at hap
theorem Pc (hr:nM rs aE) {b:Nat} {ts:List TypeId} {xs:List Operand} {e:bP} (hc:∀ l,e ≠ .cp l) (h:mH T b ⟨sl,rs,df⟩ ts xs=some e):mH T b ⟨sl,aE,df⟩ ts xs=some e:=by
 have h0:=h
 unfold mH at h ⊢
 split at h
 case h_2=>simp at h
 rename_i t t' x y
 obtain ⟨ub,uA,z0,el,hy,ht,hcase⟩:=DH h0
 simp only at hcase
 simp only [ht,hy]
 rcases hcase with hcase|⟨hn,hcase⟩
 ·rw [OD hr hc hcase]
 ·have sq:nN T el b aE (cO (bO sl x)) (cO (bO sl y))=none:=by
   unfold nN at hn ⊢
   split at hn
   ·rename_i c src h1 h2
    rw [h1,h2] at hcase
    split at hn
    ·split at hn<;>simp at hn
    ·rename_i hg
     simp only [R9 hr hcase hg]
   ·rfl
  rw [sq]
  exact ND hr hcase
theorem JY (hm:xA lo) (hlen:rs.length=aE.length) (hr:nM rs aE) {b:Nat} {dst:Option Tmp} {op:Op} {e:bP} (hc:∀ l,e ≠ .cp l) (ha:∀ d r,e=.all d r→rs=aE)
  (h:fY T lo hi b ⟨sl,rs,df⟩ dst op=some e):fY T lo hi b ⟨sl,aE,df⟩ dst op=some e:=by
 cases op with
 | store t x v=>
   have h:gh T ⟨sl,rs,df⟩ dst t x v=some e:=h
   show gh T ⟨sl,aE,df⟩ dst t x v=some e
   unfold gh at h ⊢
   split at h
   ·simp at h
   ·split at h
    case h_2=>simp at h
    rename_i h1 h2
    split at h
    case h_2=>simp at h
    rename_i h3
    obtain ⟨h4,h⟩:=Bool.aq h
    split at h
    case h_2=>simp at h
    rename_i h5
    simp only at h2 h5 ⊢
    simp only [h1,h2,h3,h4,h5]
    unfold kB at h ⊢
    split at h
    ·rename_i hq; rw [hr _ _ hq trivial]; exact h
    ·rename_i hq; rw [hr _ _ hq trivial]; exact h
    ·rename_i hq
     simp only [hr _ _ hq trivial]
     split at h
     ·rename_i hi; try simp only [hi]
      exact h
     ·obtain ⟨m,hm⟩:=jE h
      exact (hc m hm).elim
    ·rename_i hq; rw [hr _ _ hq trivial]; exact h
    ·simp at h
 | mapUpdate t m k v=>
   have h:kO T ⟨sl,rs,df⟩ dst t m k v=some e:=h
   show kO T ⟨sl,aE,df⟩ dst t m k v=some e
   unfold kO at h ⊢
   split at h
   ·simp at h
   ·obtain ⟨h4,h⟩:=Bool.aq h
    split at h
    case h_2=>simp at h
    rename_i h1 h2 h3
    split at h
    case h_2=>simp at h
    rename_i h5
    simp only at h1 h2 h3 h5 ⊢
    simp only [h1,h2,h3,h4,hr _ _ h5 trivial]
    exact h
 | call c=>
   have h:fQ T lo hi b ⟨sl,rs,df⟩ c=some e:=h
   show fQ T lo hi b ⟨sl,aE,df⟩ c=some e
   unfold fQ at h ⊢
   split at h
   ·exact Pc hr hc h
   ·unfold kG at h ⊢
    split at h
    case h_2=>simp at h
    rename_i h1 h2
    simp only at h1 h2 ⊢
    simp only [h1,h2]
    split at h
    ·exact Pv ha h
    ·split at h
     case h_2=>simp at h
     rename_i h3
     try simp only [h3]
     exact JO hm hlen hr hc ha h
   ·simp at h
 | _=>exact h
theorem Dc {b:Nat} {s:VS} {dst:Option Tmp} {op:Op} {e:bP} (h:fY T lo hi b s dst op=some e):eK T s op=none:=by
 cases op with
 | call c=>
   have h:fQ T lo hi b s c=some e:=h
   show CR T s c=none
   unfold fQ at h
   unfold CR
   split at h
   ·rename_i hc; rw [hc]; rfl
   ·rename_i hc; rw [hc]
   ·simp at h
 | _=>first|rfl|simp [fY] at h
theorem Dg (hm:xA lo) (hlen:rs.length=aE.length) (hr:nM rs aE) {b:Nat} {dst:Option Tmp} {op:Op} (hs:∀ x∈op.operands.toList,bO sl x=bO fC x) {e:bP} (hc:∀ l,e ≠ .cp l) (ha:∀ d r,e=.all d r→rs=aE)
  (h:fk T lo hi b ⟨sl,rs,df⟩ dst op=some e):fk T lo hi b ⟨fC,aE,Aq⟩ dst op=some e:=by
 rw [← GX (df:=df) (Aq:=Aq) hs]
 unfold fk at h ⊢
 split at h
 ·rename_i d hd
  rw [Lq hr hd]; exact h
 ·have h1:=JY hm hlen hr hc ha h
  rw [Dc h1]
  exact h1
def Shape (b:Nat) (rs:List ae) (ws:List (Nat×ae)):Prop:=
 (∃ x,ws=[(b,x)])∨(∃ q x,ws=[(q,x)]∧q<rs.length)∨(∃ q x y,ws=[(q,x),(b,y)])
theorem jJ {α:Type} {l:List α} {q:Nat} {x:α} (h:aY l q=some x):q<l.length:=by
 rw [bI,bc] at h; exact (List.getElem?_eq_some_iff.1 h).1
theorem wF {el sz k:Nat} {l':List C} {bytes b:Nat} {c:C} {d:Option D} {ws:List (Nat×ae)} (h:Am el sz k l' bytes b rs c=some (.wr d ws)):Shape b rs ws:=by
 unfold Am at h
 split at h
 ·split at h
  ·simp at h
  ·replace h:=(Bool.aq h).2
   simp only [ak,bP.wr.injEq] at h
   exact .inl ⟨_,h.2.symm⟩
 ·split at h
  ·replace h:=(Bool.aq h).2
   replace h:=(Bool.aq h).2
   simp only [ak,bP.wr.injEq] at h
   exact .inr (.inr ⟨_,_,_,h.2.symm⟩)
  ·split at h
   ·replace h:=(Bool.aq h).2
    replace h:=(Bool.aq h).2
    simp only [ak,bP.wr.injEq] at h
    exact .inr (.inr ⟨_,_,_,h.2.symm⟩)
   ·simp at h
  ·simp at h
 ·simp at h
theorem qz {el sz n size r i j:Nat} {get:Nat→Nat→O} {dK:Option (Nat×List Fc)} {cs:List C} {e:bP} (h:mr el sz n get dK size r i j cs=some e):∃ x,e=.wr none [(r,x)]:=by
 unfold mr at h
 split at h
 case h_2=>simp at h
 replace h:=(Bool.aq h).2
 replace h:=(Bool.aq h).2
 simp only [ak] at h
 exact ⟨_,h.symm⟩
theorem qi {el sz n size r i j:Nat} {get:Nat→Nat→O} {dK:Option (Nat×List Fc)} {cs:List C} {e:bP} (h:oE el sz n get dK size r i j cs=some e):∃ x,e=.wr none [(r,x)]:=by
 unfold oE at h
 split at h
 ·exact qz h
 ·rename_i x
  cases hb:Nat.beq i x.1 with
  | false=>rw [hb] at h; exact qz h
  | true=>
    rw [hb] at h
    have h:(match G2 cs x.2 j with
     | some l=>(Bool.rec none (some (.wr none [(r,.gy el sz n get (some (x.1,l)))])) (Nat.ble (j+size) sz):Option bP)
     | none=>none)=some e:=h
    split at h
    case h_2=>simp at h
    replace h:=(Bool.aq h).2
    simp only [ak] at h
    exact ⟨_,h.symm⟩
theorem DV {el sz k:Nat} {l':Nat→Nat→I} {bytes b:Nat} {c:C} {d:Option D} {ws:List (Nat×ae)} (h:pK el sz k l' bytes b rs c=some (.wr d ws)):Shape b rs ws:=by
 unfold pK at h
 split at h
 ·replace h:=(Bool.aq h).2
  simp only [ak,bP.wr.injEq] at h
  exact .inl ⟨_,h.2.symm⟩
 ·split at h
  ·replace h:=(Bool.aq h).2
   replace h:=(Bool.aq h).2
   replace h:=(Bool.aq h).2
   simp only [ak,bP.wr.injEq] at h
   exact .inr (.inr ⟨_,_,_,h.2.symm⟩)
  ·simp at h
 ·simp at h
theorem uo {ds:List D} {e:bP} {d:Option D} {ws:List (Nat×ae)} (h:iy rs ds e=some (.wr d ws)):e=.wr d ws:=by
 rcases et h with ⟨l,hl⟩|⟨h,_⟩
 ·cases hl
 ·exact h.symm
theorem pO {f:FuncId} {ds:List D} {d:Option D} {ws:List (Nat×ae)} (h:gn lo rs f ds=some (.wr d ws)):False:=by
 unfold gn at h
 split at h
 case h_2=>simp at h
 rename_i d hd
 cases hp:gK d with
 | true=>rw [hp] at h; simp at h
 | false=>
   rw [hp] at h
   have h:=uo (Bool.aq h).2
   cases h
theorem xP {b:Nat} {f:FuncId} {ds:List D} {d:Option D} {ws:List (Nat×ae)} (h:fH lo rs f ds b=some (.wr d ws)):Shape b rs ws:=by
 unfold fH at h
 split at h
 ·simp at h
 ·rename_i d1 q el sz n l ho
  rcases ld ho with ⟨is,q',n',nr,nL,cj,l',_,_,_,_,_,hws⟩|⟨is,q',n',nr,nL,cj,l',_,_,_,_,hws⟩
  case inr=>simp at hws
  simp only [List.cons.injEq,a8,and_true] at hws
  obtain ⟨rfl,_⟩:=hws
  revert h
  generalize eJ _=p
  intro h
  cases p with
  | true=>simp only [ak,bP.wr.injEq] at h; exact .inl ⟨_,h.2.symm⟩
  | false=>have h:=uo h; simp only [bP.wr.injEq] at h; exact .inl ⟨_,h.2.symm⟩
 ·rename_i d1 q el sz n get ho
  rcases ld ho with ⟨is,q',n',nr,nL,cj,l',_,_,_,_,_,hws⟩|⟨is,q',n',nr,nL,cj,l',_,_,_,_,hws⟩
  case inl=>simp at hws
  simp only [List.cons.injEq,a8,and_true] at hws
  obtain ⟨rfl,_⟩:=hws
  have h:=uo h
  simp only [bP.wr.injEq] at h
  exact .inl ⟨_,h.2.symm⟩
 ·simp at h
theorem uF {f:FuncId} {ds:List D} {d:Option D} {ws:List (Nat×ae)} (h:rl lo rs f ds=some (.wr d ws)):False:=by
 unfold rl at h
 split at h<;>simp at h
theorem vz {b:Nat} {s:VS} {dst:Option Tmp} {op:Op} {d:Option D} {ws:List (Nat×ae)} (h:fk T lo hi b s dst op=some (.wr d ws)):Shape b s.rs ws:=by
 unfold fk at h
 split at h
 ·simp at h
 ·cases op with
  | box t x=>
    have h:sQ b s x=_:=h
    unfold sQ at h
    split at h
    ·split at h
     ·simp only [ak,bP.wr.injEq] at h; exact .inl ⟨_,h.2.symm⟩
     ·simp at h
    ·simp at h
  | alloc t=>
    have h:jR T b t=_:=h
    unfold jR at h
    split at h
    ·split at h
     ·simp only [ak,bP.wr.injEq] at h; exact .inl ⟨_,h.2.symm⟩
     ·simp at h
    ·simp at h
  | store t x v=>
    have h:gh T s dst t x v=_:=h
    unfold gh at h
    split at h
    ·simp at h
    ·split at h
     case h_2=>simp at h
     split at h
     case h_2=>simp at h
     replace h:=(Bool.aq h).2
     split at h
     case h_2=>simp at h
     unfold kB at h
     split at h
     ·rename_i hq
      split at h
      ·split at h
       ·simp only [ak,bP.wr.injEq] at h; exact .inr (.inl ⟨_,_,h.2.symm,jJ hq⟩)
       ·simp at h
      ·simp at h
     ·rename_i hq
      split at h
      ·simp only [ak,bP.wr.injEq] at h; exact .inr (.inl ⟨_,_,h.2.symm,jJ hq⟩)
      ·simp at h
     ·rename_i hq
      split at h
      ·replace h:=(Bool.aq h).2
       replace h:=(Bool.aq h).2
       simp only [ak,bP.wr.injEq] at h; exact .inr (.inl ⟨_,_,h.2.symm,jJ hq⟩)
      ·obtain ⟨m,hm⟩:=jE h
       cases hm
     ·rename_i hq
      obtain ⟨x,hx⟩:=qi h
      simp only [bP.wr.injEq] at hx
      exact .inr (.inl ⟨_,_,hx.2,jJ hq⟩)
     ·simp at h
  | buildSlice t n ps=>
    have h:H9 T b s (qf hi dst) t n ps.toList=_:=h
    unfold H9 at h
    split at h
    case h_2=>simp at h
    split at h
    case h_2=>simp at h
    split at h
    case h_2=>simp at h
    split at h
    case h_2=>simp at h
    replace h:=(Bool.aq h).2
    rcases iV (qf hi dst) b _ _ n _ with hc|⟨_,_,hc⟩|⟨_,hc⟩
    ·rw [hc] at h
     simp only [ak,bP.wr.injEq] at h; exact .inl ⟨_,h.2.symm⟩
    ·rw [hc] at h; simp at h
    ·rw [hc] at h
     simp only [ak,bP.wr.injEq] at h; exact .inl ⟨_,h.2.symm⟩
  | makeSlice t l c=>
    have h:kY T b s t l c=_:=h
    unfold kY at h
    split at h
    case h_2=>simp at h
    split at h
    case h_2=>simp at h
    split at h
    case h_2=>simp at h
    split at h
    case h_2=>simp at h
    split at h
    case h_2=>simp at h
    replace h:=(Bool.aq h).2
    replace h:=(Bool.aq h).2
    replace h:=(Bool.aq h).2
    simp only [ak,bP.wr.injEq] at h; exact .inl ⟨_,h.2.symm⟩
  | makeMap t r=>
    have h:jP T b t r=_:=h
    unfold jP at h
    split at h
    ·simp only [ak,bP.wr.injEq] at h; exact .inl ⟨_,h.2.symm⟩
    ·simp at h
  | mapUpdate t m k v=>
    have h:kO T s dst t m k v=_:=h
    unfold kO at h
    split at h
    ·simp at h
    ·replace h:=(Bool.aq h).2
     split at h
     case h_2=>simp at h
     split at h
     case h_2=>simp at h
     rename_i hq
     simp only [ak,bP.wr.injEq] at h; exact .inr (.inl ⟨_,_,h.2.symm,jJ hq⟩)
  | call c=>
    have h:fQ T lo hi b s c=_:=h
    unfold fQ at h
    split at h
    ·unfold mH at h
     split at h
     case h_2=>simp at h
     replace h:=(Bool.aq h).2
     split at h
     case h_2=>simp at h
     split at h
     ·rename_i e' he'
      subst h
      unfold nN at he'
      split at he'
      case h_2=>simp at he'
      split at he'
      case h_2=>simp at he'
      split at he'
      case h_2=>simp at he'
      simp only [ak] at he'
      unfold yY at he'
      split at he'
      ·exact DV (Bool.aq he').2
      ·unfold mB at he'
       split at he'
       ·simp only [ak] at he'
        cases he'
       ·simp at he'
     unfold ng at h
     split at h
     case h_2=>simp at h
     split at h
     case h_2=>simp at h
     split at h
     case h_2=>simp at h
     split at h
     case h_2=>simp at h
     split at h
     ·exact wF (Bool.aq h).2
     ·exact wF (Bool.aq h).2
    ·unfold kG at h
     split at h
     case h_2=>simp at h
     split at h
     ·unfold yC at h
      split at h<;>simp at h
     ·split at h
      case h_2=>simp at h
      unfold mL at h
      split at h
      ·exact (pO h).elim
      ·exact (uF h).elim
      ·exact xP h
      ·unfold MQ at h
       split at h
       case h_2=>simp at h
       rename_i d' q x hd
       obtain ⟨hq,h⟩:=Bool.aq h
       simp only [ak,bP.wr.injEq] at h
       exact .inr (.inl ⟨q,x,h.2.symm,by simpa [cX] using hq⟩)
      ·exact .inl (Dt h)
      ·revert h
       generalize eQ _=p
       intro h
       cases p with
       | true=>exact (pO h).elim
       | false=>exact (uF h).elim
    ·simp at h
  | _=>simp [fY] at h
theorem nh {b b':Nat} {s:VS} {dst:Option Tmp} {op:Op} (h:dN op=0):fk T lo hi b s dst op=fk T lo hi b' s dst op:=by
 unfold fk
 have:fY T lo hi b s dst op=fY T lo hi b' s dst op:=by
  cases op with
  | call c=>
    show fQ T lo hi b s c=fQ T lo hi b' s c
    have h:yf c.callee=0:=h
    unfold fQ
    split
    ·rename_i hc; rw [hc] at h; simp [yf] at h
    ·rename_i hc; rw [hc] at h; simp [yf] at h
    ·rfl
  | _=>first|rfl|simp [dN] at h
 rw [this]
end
open Go.RowKit
section
variable {P:Program} {T:dn} {lo:Lo} {hi:Hint} {N:Nat} {aw:Nat→Prop} {w0:Kp} {sp:List (D×Value)} {s:VS} {a:Act} {w:World} {E:Env} {ρ:Option Nat}
theorem ry {sl:aG}:∀ {l:List Tmp},bA (su sl l)
 | [],x,hx=>by cases hx
 | t::l,x,hx=>by
   simp only [su] at hx
   split at hx
   ·cases hx with
    | head=>rfl
    | tail _ hx=>exact ry x hx
   ·exact ry x hx
theorem mo:∀ {l:List Tmp} {sl:aG} {t:Tmp} {d:D} {c:eE},look (su sl l) t=some (d,c)→c=[]∧look sl t=some (d,[])
 | [],sl,t,d,c,h=>by simp [su,look] at h
 | k::l,sl,t,d,c,h=>by
   simp only [su] at h
   split at h
   ·rename_i d' hk
    simp only [look] at h
    split at h
    ·rename_i he
     have he:=bs he
     simp only [ak,a8] at h
     obtain ⟨rfl,rfl⟩:=h
     subst he
     exact ⟨rfl,hk⟩
    ·exact mo h
   ·exact mo h
theorem EY (h:R T N aw w0 sp s a w E) (hn:bA s.sl) (f:FuncId) (id:Nat):R T N aw w0 sp (pT hi f id s) a w E∧bA (pT hi f id s).sl:=by
 unfold pT
 split
 ·exact ⟨⟨h.size,h.defers,h.spec,h.below,h.len,h.outer,h.roots,h.cT,h.eP,fun t d c hl=>by
   obtain ⟨rfl,h1⟩:=mo hl
   exact h.slots t d [] h1,h.fL⟩,ry⟩
 ·exact ⟨h,hn⟩
theorem vI (bz:dk P T) (hl:gm T P lo) (h:R T N aw w0 sp s a w E) (hn:bA s.sl) {f:FuncId} {ro:Option Nat} {id:Nat} {ops:Array Oper} {s':VS} (e:regionF T lo hi N f ro id ops.toList false s=some s')
  {b:Frame} {k:List Item} {cs:List Frame}:∃ a' w' E',Kept E E'∧R T N aw w0 sp s' a' w' E'∧bA s'.sl∧Steps P (lone (b.atR a (.code (.region id ops false)::k)) cs w) (lone (b.atR a' k) cs w'):=by
 unfold regionF at e
 simp only at e
 split at e
 case h_2=>simp at e
 rename_i s1 hs1
 simp only [ak] at e
 subst e
 have hw:=pC (ρ:=b.roundOf) (Q:=fun en a' w'=>en=.normal∧∃ E',Kept E E'∧R T N aw w0 sp s1 a' w' E'∧bA s1.sl) bz hl (fun a' w' E' hk h1 h2=>⟨rfl,E',hk,h1,h2⟩) hs1 (Kept.refl E) h hn
 obtain ⟨en,a',w',⟨rfl,E',hk,h1,h2⟩,harr⟩:=wpIn_region_list (id:=id) hw b k cs rfl trivial (FX _ _)
 obtain ⟨h3,h4⟩:=EY (hi:=hi) h1 h2 f id
 exact ⟨a',w',E',hk,h3,h4,StepsIn.steps harr⟩
end
section
theorem bQ {α:Type} (l:List α) (i:Nat):aY l i=l[i]?:=by rw [bI,bc]
theorem pw {acc:List Nat} {j:Nat}:∀ {l:List Edge} {m:Nat},(l6 acc l m).testBit j=true↔(m.testBit j=true∨∃ e∈l,Region.binds .any e=true∧(j=e.on∨∃ x,acc[e.on]?=some x∧x.testBit j=true))
 | [],m=>by simp [l6]
 | e::l,m=>by
   have hun:l6 acc (e::l) m=(Bool.rec (l6 acc l m) (l6 acc l (Nat.lor (Nat.lor (Nat.shiftLeft 1 e.on) m) (match aY acc e.on with
    | some x=>x
    | none=>0))) (Region.binds .any e):Nat):=rfl
   rw [hun]
   cases hb:Region.binds .any e with
   | false=>
     show (l6 acc l m).testBit j=true↔_
     rw [pw]
     constructor
     ·rintro (h|⟨e',h1,h2⟩)
      ·exact .inl h
      ·exact .inr ⟨e',er _ h1,h2⟩
     ·rintro (h|⟨e',h1,h2,h3⟩)
      ·exact .inl h
      ·rcases List.mem_cons.1 h1 with rfl|h1
       ·rw [hb] at h2; simp at h2
       ·exact .inr ⟨e',h1,h2,h3⟩
   | true=>
     show (l6 acc l (((1 <<< e.on) ||| m) ||| (match aY acc e.on with
      | some x=>x
      | none=>0))).testBit j=true↔_
     rw [pw,bQ]
     have h1:(1 <<< e.on).testBit j=true↔j=e.on:=by
      rw [Nat.one_shiftLeft,Nat.testBit_two_pow]
      simp only [decide_eq_true_eq]
      exact ⟨fun h=>h.symm,fun h=>h.symm⟩
     have h2:(match acc[e.on]? with
      | some x=>x
      | none=>0).testBit j=true↔∃ x,acc[e.on]?=some x∧x.testBit j=true:=by
      cases acc[e.on]? with
      | none=>simp
      | some x=>simp
     rw [Nat.testBit_or,Nat.testBit_or,Bool.or_eq_true,Bool.or_eq_true,h1,h2]
     constructor
     ·rintro (((h|h)|h)|⟨e',h3,h4⟩)
      ·exact .inr ⟨e,dZ ..,hb,.inl h⟩
      ·exact .inl h
      ·exact .inr ⟨e,dZ ..,hb,.inr h⟩
      ·exact .inr ⟨e',er _ h3,h4⟩
     ·rintro (h|⟨e',h3,h4,h5⟩)
      ·exact .inl (.inl (.inr h))
      ·rcases List.mem_cons.1 h3 with rfl|h3
       ·rcases h5 with h5|h5
        ·exact .inl (.inl (.inl h5))
        ·exact .inl (.inr h5)
       ·exact .inr ⟨e',h3,h4,h5⟩
theorem tP:∀ (l:List Oper) (acc:List Nat),∃ rest,iu l acc=acc++rest∧rest.length=l.length∧∀ i o,l[i]?=some o→rest[i]?=some (l6 (acc++rest.take i) o.after.toList 0)
 | [],acc=>⟨[],by simp [iu],rfl,fun i o h=>by simp at h⟩
 | o::l,acc=>by
   obtain ⟨rest,h1,h2,h3⟩:=tP l (acc++[l6 acc o.after.toList 0])
   refine ⟨l6 acc o.after.toList 0::rest,?_,by simp [h2],fun i o' h=>?_⟩
   ·show iu l (acc++[l6 acc o.after.toList 0])=_
    rw [h1]; simp
   ·cases i with
    | zero=>simp at h; subst h; simp
    | succ i=>
      simp only [List.getElem?_cons_succ] at h ⊢
      rw [h3 i o' h]
      simp
structure YO (ops:List Oper) (A:List Nat):Prop where
 len:A.length=ops.length
 bits:∀ i o m,ops[i]?=some o→A[i]?=some m→∀ j,m.testBit j=true↔∃ e∈o.after.toList,Region.binds .any e=true∧(j=e.on∨∃ x,(A.take i)[e.on]?=some x∧x.testBit j=true)
theorem Q2 (ops:List Oper):YO ops (iu ops []):=by
 obtain ⟨rest,h1,h2,h3⟩:=tP ops []
 rw [List.nil_append] at h1
 rw [h1]
 refine ⟨h2,fun i o m ho hm j=>?_⟩
 have:=h3 i o ho
 rw [hm] at this
 simp only [ak] at this
 subst this
 rw [pw]
 simp
theorem sb:∀ {l:List Nat} {k:Nat},xE l k=true→∀ i m,l[i]?=some m→∀ j,m.testBit j=true→j<k+i
 | [],k,h,i,m,hm,j,hj=>by simp at hm
 | x::l,k,h,i,m,hm,j,hj=>by
   have h:(Bool.rec false (xE l (k+1)) (Nat.blt x (Nat.shiftLeft 1 k)):Bool)=true:=h
   have h1:Nat.blt x (Nat.shiftLeft 1 k)=true∧xE l (k+1)=true:=by
    cases hb:Nat.blt x (Nat.shiftLeft 1 k) with
    | true=>rw [hb] at h; exact ⟨rfl,h⟩
    | false=>rw [hb] at h; simp at h
   cases i with
   | zero=>
     simp at hm
     subst hm
     have dp:x<2 ^ k:=by
      have:=aF h1.1
      rwa [show Nat.shiftLeft 1 k=1 <<< k from rfl,Nat.one_shiftLeft] at this
     rcases Nat.lt_or_ge j (k+0) with hj'|hj'
     ·exact hj'
     ·have:x.testBit j=false:=Nat.testBit_lt_two_pow (Nat.lt_of_lt_of_le dp (Nat.pow_le_pow_right (by omega) (by omega)))
      rw [this] at hj; simp at hj
   | succ i=>
     simp only [List.getElem?_cons_succ] at hm
     have:=sb h1.2 i m hm j hj
     omega
theorem Bool.fU {x b:Bool} (h:(Bool.rec false x b:Bool)=true):b=true∧x=true:=by
 cases b with
 | false=>simp at h
 | true=>exact ⟨rfl,h⟩
theorem vc {t:Tmp}:∀ {l:List Oper} {k j:Nat},mK t l k=some j→∃ i o,j=k+i∧l[i]?=some o∧o.dst=some t
 | [],k,j,h=>by simp [mK] at h
 | o::l,k,j,h=>by
   have h:(match o.dst with
    | some t'=>(Bool.rec (mK t l (k+1)) (some k) (Nat.beq t t'):Option Nat)
    | none=>mK t l (k+1))=some j:=h
   have go:mK t l (k+1)=some j→∃ i o',j=k+i∧(o::l)[i]?=some o'∧o'.dst=some t:=fun h=>by
    obtain ⟨i,o',h1,h2,h3⟩:=vc h
    exact ⟨i+1,o',by omega,by simpa using h2,h3⟩
   split at h
   ·rename_i t' ht
    cases hb:Nat.beq t t' with
    | true=>
      rw [hb] at h
      simp only [ak] at h
      have:=bs hb
      subst this
      exact ⟨0,o,by omega,rfl,ht⟩
    | false=>rw [hb] at h; exact go h
   ·exact go h
theorem o5 {t:Tmp}:∀ {l:List Oper} {k:Nat},mK t l k=none→∀ (i:Nat) (o:Oper),l[i]?=some o→o.dst≠some t
 | [],k,h,i,o',ho=>by simp at ho
 | o::l,k,h,i,o',ho=>by
   have h:(match o.dst with
    | some t'=>(Bool.rec (mK t l (k+1)) (some k) (Nat.beq t t'):Option Nat)
    | none=>mK t l (k+1))=none:=h
   have both:o.dst≠some t∧mK t l (k+1)=none:=by
    split at h
    ·rename_i t' ht
     cases hb:Nat.beq t t' with
     | true=>rw [hb] at h; simp at h
     | false=>
       rw [hb] at h
       refine ⟨fun e=>?_,h⟩
       rw [ht] at e
       simp only [ak] at e
       subst e
       rw [cB] at hb
       simp at hb
    ·rename_i ht; exact ⟨by rw [ht]; simp,h⟩
   cases i with
   | zero=>simp at ho; subst ho; exact both.1
   | succ i=>exact o5 both.2 i o' (by simpa using ho)
theorem uG:∀ {l:List Oper},A2 l=true→∀ (i j:Nat) (o o':Oper) (t:Tmp),l[i]?=some o→l[j]?=some o'→o.dst=some t→o'.dst=some t→i=j
 | [],h,i,j,o,o',t,h1,h2,h3,h4=>by simp at h1
 | x::l,h,i,j,o,o',t,h1,h2,h3,h4=>by
   have h:(match x.dst with
    | some t=>(Bool.rec false (A2 l) (Dz t l):Bool)
    | none=>A2 l)=true:=h
   have both:A2 l=true∧∀ t,x.dst=some t→∀ (i:Nat) (o:Oper),l[i]?=some o→o.dst≠some t:=by
    split at h
    ·rename_i t' ht
     obtain ⟨q1,q2⟩:=Bool.fU h
     refine ⟨q2,fun t PX=>?_⟩
     rw [ht] at PX
     simp only [ak] at PX
     subst PX
     unfold Dz at q1
     split at q1
     ·simp at q1
     ·rename_i hq; exact o5 hq
    ·rename_i ht; exact ⟨h,fun t PX=>by rw [ht] at PX; simp at PX⟩
   cases i with
   | zero=>
     cases j with
     | zero=>rfl
     | succ j=>
       simp at h1; subst h1
       exact (both.2 t h3 j o' (by simpa using h2) h4).elim
   | succ i=>
     cases j with
     | zero=>
       simp at h2; subst h2
       exact (both.2 t h4 i o (by simpa using h1) h3).elim
     | succ j=>rw [uG both.1 i j o o' t (by simpa using h1) (by simpa using h2) h3 h4]
theorem jK {ops:List Oper} {m:Nat}:∀ {l:List Operand},qs ops m l=true→∀ t,.tmp t∈l→FT ops m t=true
 | [],h,t,ht=>by simp at ht
 | x::l,h,t,ht=>by
   cases x with
   | tmp k=>
     have h:(Bool.rec false (qs ops m l) (FT ops m k):Bool)=true:=h
     rcases List.mem_cons.1 ht with e|ht
     ·simp only [Operand.tmp.injEq] at e; subst e; exact (Bool.fU h).1
     ·exact jK (Bool.fU h).2 t ht
   | const v=>
     have h:qs ops m l=true:=h
     rcases List.mem_cons.1 ht with e|ht
     ·cases e
     ·exact jK h t ht
   | func f=>
     have h:qs ops m l=true:=h
     rcases List.mem_cons.1 ht with e|ht
     ·cases e
     ·exact jK h t ht
   | global g=>
     have h:qs ops m l=true:=h
     rcases List.mem_cons.1 ht with e|ht
     ·cases e
     ·exact jK h t ht
theorem sC {ops:List Oper}:∀ {l:List Oper} {ms:List Nat},CU ops l ms=true→∀ (i:Nat) (o:Oper) (m:Nat),l[i]?=some o→ms[i]?=some m→yB m o.guard=true∧qs ops m o.op.operands.toList=true
 | [],ms,h,i,o,m,h1,h2=>by simp at h1
 | x::l,[],h,i,o,m,h1,h2=>by simp at h2
 | x::l,y::ms,h,i,o,m,h1,h2=>by
   have h:(Bool.rec false (CU ops l ms) (yB y x.guard&&qs ops y x.op.operands.toList):Bool)=true:=h
   obtain ⟨h3,h4⟩:=Bool.fU h
   cases i with
   | zero=>simp at h1 h2; subst h1 h2; simpa using h3
   | succ i=>exact sC h4 i o m (by simpa using h1) (by simpa using h2)
def dH (us:Nat→jY) (s0:VS) (L:Nat→Bool):Nat→VS
 | 0=>s0
 | k+1=>match L k with
   | true=>(us k).on (dH us s0 L k)
   | false=>dH us s0 L k
structure View (α:Type) where
 f:VS→α
 act:jY→α→α
 l0:jY→Prop
 on:∀ u s,f (u.on s)=act u (f s)
 idle:∀ u x,¬ l0 u→act u x=x
section
variable {α:Type} (v:View α) {us:Nat→jY} {s0:VS} {L L':Nat→Bool}
theorem View.agree:∀ {m:Nat},(∀ k,k<m→v.l0 (us k)→L k=L' k)→v.f (dH us s0 L m)=v.f (dH us s0 L' m)
 | 0,_=>rfl
 | m+1,h=>by
   have ih:=View.agree (m:=m) fun k hk=>h k (by omega)
   simp only [dH]
   by_cases ht:v.l0 (us m)
   ·rw [h m (by omega) ht]
    split
    ·rw [v.on,v.on,ih]
    ·exact ih
   ·split<;>split
    ·rw [v.on,v.on,ih]
    ·rw [v.on,v.idle _ _ ht,ih]
    ·rw [v.on,v.idle _ _ ht,ih]
    ·exact ih
theorem View.tail {i:Nat}:∀ {m:Nat},i≤m→(∀ k,i≤k→k<m→L k=true→¬ v.l0 (us k))→v.f (dH us s0 L m)=v.f (dH us s0 L i)
 | 0,hi,_=>by rw [show i=0 by omega]
 | m+1,hi,h=>by
   rcases Nat.lt_or_ge i (m+1) with iq|iq
   ·have ih:=View.tail (i:=i) (m:=m) (by omega) fun k h1 h2=>h k h1 (by omega)
    rw [← ih]
    simp only [dH]
    split
    ·rename_i hL
     rw [v.on,v.idle _ _ (h m (by omega) (by omega) hL)]
    ·rfl
   ·rw [show i=m+1 by omega]
def more (L:Nat→Bool) (i k:Nat):Bool:=bif k==i then true else L k
theorem gW (i:Nat):more L i i=true:=by simp [more]
theorem gZ {i k:Nat} (h:k≠i):more L i k=L k:=by simp [more,h]
theorem View.step {i n:Nat} (hi:i<n) (hL:L i=false) (h:v.l0 (us i)→∀ k,i<k→k<n→L k=true→¬ v.l0 (us k)):v.f ((us i).on (dH us s0 L n))=v.f (dH us s0 (more L i) n):=by
 rw [v.on]
 by_cases ht:v.l0 (us i)
 ·have h:=h ht
  rw [v.tail (i:=i+1) (by omega) fun k h1 h2 h3=>h k (by omega) h2 h3]
  rw [v.tail (L:=more L i) (i:=i+1) (by omega) fun k h1 h2 h3=>h k (by omega) h2 (by rwa [gZ (by omega)] at h3)]
  simp only [dH,hL,gW]
  rw [v.on]
  rw [v.agree (L:=L) (L':=more L i) fun k hk _=>(gZ (by omega)).symm]
 ·rw [v.idle _ _ ht]
  exact v.agree fun k hk jN=>by
   rw [gZ]
   intro e; subst e; exact ht jN
end
theorem lL {us:Nat→jY} {s0:VS} {L:Nat→Bool} {i:Nat}:∀ {n:Nat},i≤n→dH us s0 (fun k=>L k&&decide (k<i)) n=dH us s0 L i
 | 0,h=>by rw [show i=0 by omega]; rfl
 | n+1,h=>by
   rcases Nat.lt_or_ge n i with hn|hn
   ·have hi:i=n+1:=by omega
    subst hi
    have:∀ m,m≤n+1→dH us s0 (fun k=>L k&&decide (k<n+1)) m=dH us s0 L m:=by
     intro m
     induction m with
     | zero=>intro _; rfl
     | succ m ih=>
       intro hm
       simp only [dH]
       rw [ih (by omega),show (L m&&decide (m<n+1))=L m by simp [show m<n+1 by omega]]
    exact this _ (bf _)
   ·simp only [dH]
    rw [show (L n&&decide (n<i))=false by simp [show ¬ n<i by omega]]
    exact lL hn
theorem vJ (k:Tmp) (d:D) (c:eE) (sl:aG) (t:Tmp):eb ((k,d,c)::sl) t=(Bool.rec (eb sl t) (some d) (Nat.beq k t):Option D):=rfl
def jY.at (u:jY) (t:Tmp):Option D:=match u.dst with
 | some t'=>match u.val with
   | some d=>match Nat.beq t' t with
     | true=>some d
     | false=>none
   | none=>none
 | none=>none
def KT (t:Tmp):View (Option D) where
 f s:=eb s.sl t
 act u x:=match u.at t with
  | some d=>some d
  | none=>x
 l0 u:=u.at t≠none
 on u s:=by
  unfold jY.on wv jY.at
  cases u.dst with
  | none=>rfl
  | some t' =>
    cases u.val with
    | none=>rfl
    | some d=>
      simp only [vJ]
      cases Nat.beq t' t<;>rfl
 idle u x h:=by
  cases hq:u.at t with
  | none=>rfl
  | some d=>exact (h (by rw [hq]; simp)).elim
theorem jY.Rm {u:jY} {t:Tmp} (h:u.at t≠none):u.dst=some t:=by
 unfold jY.at at h
 split at h
 ·rename_i t' ht
  split at h
  ·split at h
   ·rename_i hb; rw [ht,bs hb]
   ·simp at h
  ·simp at h
 ·simp at h
def GQ (q:Nat):List (Nat×ae)→Option ae→Option ae
 | [],x=>x
 | p::ws,x=>GQ q ws (match Nat.beq p.1 q with
   | true=>match x with
     | some _=>some p.2
     | none=>none
   | false=>x)
theorem uz (q:Nat):∀ (ws:List (Nat×ae)) (rs:List ae),aY (writes ws rs) q=GQ q ws (aY rs q)
 | [],rs=>rfl
 | p::ws,rs=>by
   show aY (writes ws (setAt rs p.1 p.2)) q=_
   rw [uz q ws]
   simp only [GQ]
   congr 1
   rw [bQ,bQ,bm,fb]
   cases hb:Nat.beq p.1 q with
   | true=>
     have:=bs hb
     rw [if_pos this,← this]
     by_cases hl:p.1<rs.length
     ·simp [hl]
     ·simp [hl]
   | false=>
     rw [if_neg]
     intro e
     rw [e,cB] at hb
     simp at hb
theorem wN {q:Nat}:∀ {ws:List (Nat×ae)} {x:Option ae},q ∉ ws.map (·.1)→GQ q ws x=x
 | [],x,_=>rfl
 | p::ws,x,h=>by
   simp only [List.map_cons,List.mem_cons,not_or] at h
   simp only [GQ]
   have:Nat.beq p.1 q=false:=by
    cases hb:Nat.beq p.1 q with
    | true=>exact (h.1 (bs hb).symm).elim
    | false=>rfl
   rw [this]
   exact wN h.2
def MC (q:Nat):View (Option ae) where
 f s:=aY s.rs q
 act u x:=GQ q u.ws (match u.al with
  | some rs=>aY rs q
  | none=>x)
 l0 u:=u.al≠none∨q∈u.ws.map (·.1)
 on u s:=by
  have:(u.on s).rs=writes u.ws (Ac u.al s.rs):=by
   unfold jY.on wv
   cases u.dst with
   | none=>rfl
   | some t=>cases u.val<;>rfl
  rw [this,uz]
  congr 1
  unfold Ac
  cases u.al<;>rfl
 idle u x h:=by
  simp only [not_or] at h
  rw [wN h.2]
  cases ha:u.al with
  | none=>rfl
  | some rs=>exact (h.1 (by rw [ha]; simp)).elim
end
open Go.RowKit
section
variable {P:Program} {T:dn} {N:Nat} {aw:Nat→Prop} {w0:Kp} {sp:List (D×Value)} {a:Act} {w:World} {E E':Env} {av cF Em:Nat→Prop} {w':World}
theorem SE {x y:Value} (h:Yq x y=true):x=y:=by
 unfold Yq at h
 split at h
 ·rename_i a b
  have:a=b:=by simpa using h
  rw [this]
 ·rw [ET h]
 ·simp at h
theorem N5 {x y:C} (h:Mu x y=true):x=y:=by
 unfold Mu at h
 split at h
 ·rw [SE h]
 ·simp only [cG] at h; rw [bs h.1,bs h.2.1,bs h.2.2]
 ·simp only [cG] at h; rw [bs h.1,bs h.2]
 ·rw [bs h]
 ·simp at h
theorem Fb:∀ {l m:List C},Sm l m=true→l=m
 | [],[],_=>rfl
 | [],y::m,h=>by
   have h:(false:Bool)=true:=h
   simp at h
 | x::l,[],h=>by
   have h:(false:Bool)=true:=h
   simp at h
 | x::l,y::m,h=>by
   have h:(Bool.rec false (Sm l m) (Mu x y):Bool)=true:=h
   cases hb:Mu x y with
   | false=>rw [hb] at h; simp at h
   | true=>rw [hb] at h; rw [N5 hb,Fb h]
theorem OQ {x y:ae} (h:LO x y=true):x=y:=by
 unfold LO at h
 split at h
 ·rfl
 ·rw [Fb h]
 ·simp at h
theorem Kept.take {E E':Env} (h:Kept E E') (n:Nat):Kept (E.take n) (E'.take n):=by
 refine ⟨fun r e hr CN=>?_,fun q hq=>?_⟩
 ·rw [cN] at hr ⊢
  split at hr
  ·rename_i dp
   rw [if_pos dp]
   exact h.le r e hr CN
  ·simp at hr
 ·rw [cN] at hq ⊢
  split at hq
  ·rename_i dp
   rw [if_pos dp]
   exact h.free q hq
  ·simp at hq
theorem Kept.len {E E':Env} (h:Kept E E'):E.length≤E'.length:=by
 by_cases dp:E.length≤E'.length
 ·exact dp
 ·exfalso
  have hr:E'.length<E.length:=by omega
  have h1:=gj hr
  have h0:E'[E'.length]?=none:=List.getElem?_eq_none (bf _)
  by_cases h2:E[E'.length]=hole
  ·rw [h2] at h1
   have:=h.free _ h1
   rw [h0] at this
   simp at this
  ·obtain ⟨_,this,_⟩:=h.le _ _ h1 h2
   rw [h0] at this
   simp at this
theorem Kept.kp (E:Env) (n:Nat):Kept (E.take n) E:=⟨fun r e hr hn=>⟨e.2.1.2,by
 rw [cN] at hr
 split at hr
 ·exact hr
 ·simp at hr,hn⟩,fun q hq=>by
 rw [cN] at hq
 split at hq
 ·exact hq
 ·simp at hq⟩
theorem Hr {E:Env} {n r b sz:Nat}:di (E.take n) r b sz→di E r b sz:=fun ⟨hh,q,q2⟩=>⟨hh,by
 rw [cN] at q
 split at q
 ·exact q
 ·simp at q,q2⟩
theorem Kept.back (hk:Kept E E') {r:Nat} (hr:r<E.length) {e:gr} (h:E'[r]?=some e) (he:e≠hole):∃ K,E[r]?=some (e.wk K):=by
 have h1:=gj hr
 by_cases h2:E[r]=hole
 ·rw [h2] at h1
  have:=hk.free r h1
  rw [h] at this
  simp only [ak] at this
  exact (he this).elim
 ·obtain ⟨K,this,_⟩:=hk.le r _ h1 h2
  rw [h] at this
  simp only [ak] at this
  exact ⟨E[r].2.1.2,by rw [h1,this]; rfl⟩
theorem Kept.a7 (hk:Kept E E') {r b sz:Nat} (hr:r<E.length) (h:a7 E' r b sz):a7 E r b sz:=by
 obtain ⟨hd,h⟩:=h
 obtain ⟨K,h⟩:=hk.back hr h (gr.Gl rfl)
 exact ⟨(hd.1,K),h⟩
theorem pe {n:Nat}:∀ {l:List Nat},vr n l=true→∀ r∈l,r<n
 | [],_,r,hr=>by simp at hr
 | x::l,h,r,hr=>by
   have h:(Bool.rec false (vr n l) (Nat.blt x n):Bool)=true:=h
   cases hb:Nat.blt x n with
   | false=>rw [hb] at h; simp at h
   | true=>
     rw [hb] at h
     rcases List.mem_cons.1 hr with rfl|hr
     ·exact aF hb
     ·exact pe h r hr
theorem az.shrink {α β:Type} {R S:α→β→Prop} {l:List α} {m:List β} (h:az R l m) (k:∀ x∈l,∀ y,R x y→S x y):az S l m:=by
 induction h with
 | nil=>exact .nil
 | cons q _ ih=>exact .cons (k _ (dZ ..) _ q) (ih fun x hx=>k x (er _ hx))
theorem aU.shrink (hk:Kept E E') (ha:∀ b,Em b→cF b) {x:C} {v:Value} (hx:sT E.length x=true) (h:aU E' cF w' x v):aU E Em w' x v:=by
 cases x with
 | im x=>exact cA.mono (aZ.refl _ w') (fun b _ q=>ha b q) h
 | rt r i j=>obtain ⟨b,sz,h1,h2⟩:=h; exact ⟨b,sz,hk.a7 (aF hx) h1,h2⟩
 | sa r m=>
   obtain ⟨e,a,n,cap,h1,h2,h3⟩:=h
   obtain ⟨K,h1⟩:=hk.back (aF hx) h1 (gr.P5 h2)
   exact ⟨_,a,n,cap,h1,h2,h3⟩
 | mp r=>obtain ⟨b,sz,h1,h2⟩:=h; exact ⟨b,sz,hk.a7 (aF hx) h1,h2⟩
 | yl r=>obtain ⟨b,sz,h1,h2⟩:=h; exact ⟨b,sz,hk.a7 (aF hx) h1,h2⟩
 | ow r j=>
   obtain ⟨e,vs,h1,h2,h3,h4⟩:=h
   obtain ⟨K,h1⟩:=hk.back (aF hx) h1 (gr.Lj h2 h3)
   exact ⟨_,vs,h1,h2,h3,h4⟩
 | ky f l=>
   obtain ⟨vs,h1,h2⟩:=h
   exact ⟨vs,h1,h2.shrink fun r hr y ⟨b,sz,q,q2⟩=>⟨b,sz,hk.a7 (pe hx r hr) q,q2⟩⟩
theorem gP {n:Nat}:∀ {l:List C},gT n l=true→∀ x∈l,sT n x=true
 | [],_,x,hx=>by simp at hx
 | y::l,h,x,hx=>by
   have h:(Bool.rec false (gT n l) (sT n y):Bool)=true:=h
   cases hb:sT n y with
   | false=>rw [hb] at h; simp at h
   | true=>
     rw [hb] at h
     rcases List.mem_cons.1 hx with rfl|hx
     ·exact hb
     ·exact gP h x hx
theorem qv {n:Nat}:∀ {l:List C},(∀ x∈l,sT n x=true)→gT n l=true
 | [],_=>rfl
 | y::l,h=>by
   show (Bool.rec false (gT n l) (sT n y):Bool)=true
   rw [h y (dZ ..)]
   exact qv fun x hx=>h x (er _ hx)
theorem wU {n:Nat}:∀ {l:List (Bool×List C)},yu n l=true→∀ x∈l,gT n x.2=true
 | [],_,x,hx=>by simp at hx
 | y::l,h,x,hx=>by
   have h:(Bool.rec false (yu n l) (gT n y.2):Bool)=true:=h
   cases hb:gT n y.2 with
   | false=>rw [hb] at h; simp at h
   | true=>
     rw [hb] at h
     rcases List.mem_cons.1 hx with rfl|hx
     ·exact hb
     ·exact wU h x hx
theorem aJ.shrink (hk:Kept E E') (ha:∀ b,Em b→cF b) {d:D} {v:Value} (hd:iR E.length d=true) (h:aJ E' cF w' d v):aJ E Em w' d v:=by
 cases d with
 | c x=>exact aU.shrink hk ha hd h
 | a l=>obtain ⟨cs,h1,h2⟩:=h; exact ⟨cs,h1,h2.shrink fun x hx y q=>aU.shrink hk ha (gP hd x hx) q⟩
 | t l=>
   obtain ⟨vs,h1,h2⟩:=h
   refine ⟨vs,h1,h2.shrink ?_⟩
   rintro ⟨b,l'⟩ hx y q
   have dA:=wU hd _ hx
   cases b with
   | true=>obtain ⟨cs,q1,q2⟩:=q; exact ⟨cs,q1,q2.shrink fun x hx y q=>aU.shrink hk ha (gP dA x hx) q⟩
   | false=>
     obtain ⟨c,q1,q2⟩:=q
     have q1:l'=[c]:=q1
     refine ⟨c,q1,aU.shrink hk ha (gP dA c ?_) q2⟩
     simp only [q1]; exact dZ ..
theorem mi {r b sz:Nat} (h:a7 E r b sz):r<E.length:=by obtain ⟨hd,h⟩:=h; exact (List.getElem?_eq_some_iff.1 h).1
theorem jg {a b:Nat} (h:a<b):Nat.blt a b=true:=by simpa [cX] using h
theorem ug {n:Nat}:∀ {l:List Nat},(∀ r∈l,r<n)→vr n l=true
 | [],_=>rfl
 | x::l,h=>by
   show (Bool.rec false (vr n l) (Nat.blt x n):Bool)=true
   rw [jg (h x (dZ ..))]
   exact ug fun r hr=>h r (er _ hr)
theorem az.left {α β:Type} {R:α→β→Prop} {l:List α} {m:List β} (h:az R l m):∀ x∈l,∃ y,R x y:=by
 induction h with
 | nil=>intro x hx; simp at hx
 | cons q _ ih=>
   intro x hx
   rcases List.mem_cons.1 hx with rfl|hx
   ·exact ⟨_,q⟩
   ·exact ih x hx
theorem aU.low {x:C} {v:Value} (h:aU E av w x v):sT E.length x=true:=by
 cases x with
 | im x=>rfl
 | rt r i j=>obtain ⟨b,sz,h1,_⟩:=h; exact jg (mi h1)
 | sa r m=>obtain ⟨e,a,n,cap,h1,_⟩:=h; exact jg (List.getElem?_eq_some_iff.1 h1).1
 | mp r=>obtain ⟨b,sz,h1,_⟩:=h; exact jg (mi h1)
 | yl r=>obtain ⟨b,sz,h1,_⟩:=h; exact jg (mi h1)
 | ow r j=>obtain ⟨e,vs,h1,_⟩:=h; exact jg (List.getElem?_eq_some_iff.1 h1).1
 | ky f l=>
   obtain ⟨vs,_,h2⟩:=h
   exact ug fun r hr=>by
    obtain ⟨_,b,sz,h1,_⟩:=h2.left r hr
    exact mi h1
theorem L.low {l:List C} {cs:List Value} (h:az (aU E av w) l cs):gT E.length l=true:=qv fun x hx=>by
 obtain ⟨y,q⟩:=h.left x hx
 exact aU.low q
theorem aJ.low {d:D} {v:Value} (h:aJ E av w d v):iR E.length d=true:=by
 cases d with
 | c x=>exact aU.low h
 | a l=>obtain ⟨cs,_,h2⟩:=h; exact L.low h2
 | t l=>
   obtain ⟨vs,_,h2⟩:=h
   show yu E.length l=true
   have key:∀ x∈l,gT E.length x.2=true:=fun x hx=>by
    obtain ⟨y,q⟩:=h2.left x hx
    obtain ⟨b,l'⟩:=x
    cases b with
    | true=>obtain ⟨cs,_,q2⟩:=q; exact L.low q2
    | false=>
      obtain ⟨c,q1,q2⟩:=q
      have q1:l'=[c]:=q1
      subst q1
      exact qv fun x hx=>by
       rcases List.mem_cons.1 hx with rfl|hx
       ·exact aU.low q2
       ·simp at hx
   clear h2
   induction l with
   | nil=>rfl
   | cons y l ih=>
     show (Bool.rec false (yu E.length l) (gT E.length y.2):Bool)=true
     rw [key y (dZ ..)]
     exact ih fun x hx=>key x (er _ hx)
theorem pA {n:Nat}:∀ {rs aE:List ae} {k:Nat} {ws:List (Nat×ae)},tq n rs aE k=some ws→
  (∀ p∈ws,k≤p.1)∧∀ (pre:List ae),pre.length=k→∀ (q:Nat) (x:ae),(writes ws (pre++rs))[q]?=some x→(q<k∧pre[q]?=some x)∨(k≤q∧aE[q-k]?=some x∧(rs[q-k]?=some x∨j6 n x=true))
 | [],aE,k,ws,h=>by
   have h:some []=some ws:=h
   simp only [ak] at h
   subst h
   refine ⟨fun p hp=>by simp at hp,fun pre rM q x hx=>?_⟩
   have hx:(pre++[])[q]?=some x:=hx
   rw [List.append_nil] at hx
   exact .inl ⟨by rw [← rM]; exact (List.getElem?_eq_some_iff.1 hx).1,hx⟩
 | x0::rs,[],k,ws,h=>by
   have h:(none:Option (List (Nat×ae)))=some ws:=h
   simp at h
 | x0::rs,y::aE,k,ws,h=>by
   have h:(Bool.rec (Bool.rec none (match tq n rs aE (k+1) with
    | some ws=>some ((k,y)::ws)
    | none=>none) (j6 n y)) (tq n rs aE (k+1)) (LO x0 y):Option (List (Nat×ae)))=some ws:=h
   cases hb:LO x0 y with
   | true=>
     rw [hb] at h
     obtain ⟨h1,h2⟩:=pA (rs:=rs) (aE:=aE) (k:=k+1) h
     refine ⟨fun p hp=>by have:=h1 p hp; omega,fun pre rM q x hx=>?_⟩
     have e:pre++x0::rs=(pre++[x0])++rs:=by simp
     rw [e] at hx
     rcases h2 (pre++[x0]) (by simp [rM]) q x hx with ⟨h3,h4⟩|⟨h3,h4,h5⟩
     ·by_cases hq:q<k
      ·rw [dQ (by omega)] at h4
       exact .inl ⟨hq,h4⟩
      ·have:q=k:=by omega
       subst this
       rw [gG (by omega)] at h4
       simp [rM] at h4
       subst h4
       right
       rw [Nat.sub_self]
       exact ⟨bf _,by simp [OQ hb],.inl (by simp)⟩
     ·right
      have:q-k=(q-(k+1))+1:=by omega
      rw [this]
      exact ⟨by omega,by simpa using h4,by simpa using h5⟩
   | false=>
     rw [hb] at h
     obtain ⟨dA,h⟩:=Bool.aq (show (Bool.rec none (match tq n rs aE (k+1) with
      | some ws=>some ((k,y)::ws)
      | none=>none) (j6 n y):Option (List (Nat×ae)))=some ws from h)
     split at h
     case h_2=>simp at h
     rename_i ws' hws
     simp only [ak] at h
     subst h
     obtain ⟨h1,h2⟩:=pA (rs:=rs) (aE:=aE) (k:=k+1) hws
     refine ⟨fun p hp=>by
      rcases List.mem_cons.1 hp with rfl|hp
      ·exact bf _
      ·have:=h1 p hp; omega,fun pre rM q x hx=>?_⟩
     have hx:(writes ws' (setAt (pre++x0::rs) k y))[q]?=some x:=hx
     have e:setAt (pre++x0::rs) k y=(pre++[y])++rs:=by
      rw [bm,List.set_append]
      simp [rM]
     rw [e] at hx
     rcases h2 (pre++[y]) (by simp [rM]) q x hx with ⟨h3,h4⟩|⟨h3,h4,h5⟩
     ·by_cases hq:q<k
      ·rw [dQ (by omega)] at h4
       exact .inl ⟨hq,h4⟩
      ·have:q=k:=by omega
       subst this
       rw [gG (by omega)] at h4
       simp [rM] at h4
       subst h4
       right
       rw [Nat.sub_self]
       exact ⟨bf _,by simp,.inr dA⟩
     ·right
      have:q-k=(q-(k+1))+1:=by omega
      rw [this]
      exact ⟨by omega,by simpa using h4,by simpa using h5⟩
theorem Cz:Lg fun rs aE=>tq rs.length rs aE 0:=fun rs aE ws h q x hx=>by
 rcases (pA h).2 [] rfl q x hx with ⟨h1,_⟩|⟨_,h2,h3⟩
 ·omega
 ·exact ⟨h2,h3⟩
theorem gF:∀ (ws:List (Nat×ae)) (rs:List ae),(writes ws rs).length=rs.length
 | [],rs=>rfl
 | p::ws,rs=>by
   show (writes ws (setAt rs p.1 p.2)).length=_
   rw [gF ws,bm]; simp
theorem gV:∀ {sl:aG} {t:Tmp} {x:D×eE},look sl t=some x→(t,x)∈sl
 | [],t,x,h=>by simp [look] at h
 | (k,d,c)::sl,t,x,h=>by
   simp only [look] at h
   split at h
   ·rename_i hb
    simp only [ak] at h
    rw [← bs hb,← h]
    exact dZ ..
   ·exact er _ (gV h)
theorem oM {n:Nat}:∀ {l:List Fc},rX n l=true→∀ x∈l,uO n x=true
 | [],_,x,hx=>by simp at hx
 | y::l,h,x,hx=>by
   have h:(Bool.rec false (rX n l) (uO n y):Bool)=true:=h
   cases hb:uO n y with
   | false=>rw [hb] at h; simp at h
   | true=>
     rw [hb] at h
     rcases List.mem_cons.1 hx with rfl|hx
     ·exact hb
     ·exact oM h x hx
theorem Ca {n el sz k i j:Nat} {get:Nat→Nat→O} {dK:Option (Nat×List Fc)} {c:Fc} (h:j6 n (.gy el sz k get dK)=true) (hc:iL get dK i j=some c):uO n c=true:=by
 unfold iL at hc
 split at hc
 ·simp only [ak] at hc; subst hc; rfl
 ·rename_i x
  split at hc
  ·rw [bc] at hc
   exact oM (show rX n x.2=true from h) c (List.mem_of_getElem? hc)
  ·simp only [ak] at hc; subst hc; rfl
theorem ja.shrink {base:Nat} (hk:Kept E E') (ha:∀ b,Em b→cF b) {x:Fc} {K:Nat→Prop} {v:Value} (hx:uO E.length x=true) (h:ja E' cF base w' x K v):ja E Em base w' x K v:=by
 cases x with
 | c x=>exact aU.shrink hk ha hx h
 | o x=>exact je.mono (aZ.refl _ w') (fun b _ q=>ha b q) (fun _ _=>rfl) h
theorem ja.low {av:Nat→Prop} {base:Nat} {x:Fc} {K:Nat→Prop} {v:Value} (h:ja E av base w x K v):uO E.length x=true:=by
 cases x with
 | c x=>exact aU.low h
 | o x=>rfl
theorem R.trim {sl:aG} {rs aE:List ae} {df:List Nat} (h:R T N aw w0 sp ⟨sl,rs,df⟩ a w E) (h':R T N aw w0 sp ⟨sl,aE,df⟩ a w' E') (WA:Kept E E') {ws:List (Nat×ae)} (hw:∀ (q:Nat) (x:ae),(writes ws rs)[q]?=some x→aE[q]?=some x∧(rs[q]?=some x∨j6 rs.length x=true))
  {d:D} (hd:iR rs.length d=true) {v:Value} (hv:aJ E' (AV aw aE E') w' d v):∃ E1,Kept E E1∧E1.length=E.length∧R T N aw w0 sp ⟨sl,writes ws rs,df⟩ a w' E1∧aJ E1 (AV aw (writes ws rs) E1) w' d v:=by
 have hlen0:E.length=rs.length:=h.len
 have hkE:Kept E (E'.take E.length):=by
  have:=WA.take E.length
  rwa [List.take_length] at this
 have hlen:(E'.take E.length).length=rs.length:=by rw [List.length_take,Nat.min_eq_left WA.len,hlen0]
 have hk:Kept (E'.take E.length) E':=Kept.kp E' E.length
 refine ⟨E'.take E.length,hkE,by rw [hlen,hlen0],?_⟩
 generalize hE1:E'.take E.length=E1 at hkE hlen hk ⊢
 have eU:∀ {r b sz:Nat},di E1 r b sz→di E' r b sz:=fun q=>Hr (by rw [hE1]; exact q)
 have tn:∀ {q:Nat} {e:gr},E1[q]?=some e→E'[q]?=some e:=fun {q e} h1=>by
  rw [← hE1,cN] at h1
  split at h1
  ·exact h1
  ·simp at h1
 have key:∀ (q:Nat) (x:ae),(writes ws rs)[q]?=some x→aE[q]?=some x∧(rs[q]?=some x∨j6 E1.length x=true):=by
  intro q x hx
  rw [hlen]
  exact hw q x hx
 have eY:∀ b,AV aw (writes ws rs) E1 b→AV aw aE E' b:=by
  rintro b (q|⟨r,x,sz,h1,h2,h3⟩)
  ·exact .inl q
  ·exact .inr ⟨r,x,sz,(key r x h1).1,h2,eU h3⟩
 have lowd:∀ {d:D} {v:Value},aJ E (AV aw rs E) w d v→iR E1.length d=true:=fun q=>by rw [hlen,← hlen0]; exact aJ.low q
 refine ⟨⟨h.size,h.defers.mono fun _ _ ⟨b,sz,q,e⟩=>⟨b,sz,hkE.le.at_ q,e⟩,fun x hx=>aJ.shrink hk eY (lowd (h.spec x hx)) (h'.spec x hx),h'.below,by rw [show (VS.mk sl (writes ws rs) df).rs.length=rs.length from gF ws rs]; exact hlen,h.outer,?_,?_,?_,?_,h'.fL.mono (aZ.refl _ w') (fun b _ q=>eY b q)⟩,aJ.shrink hk eY (by rw [hlen]; exact hd) hv⟩
 ·intro q x e hx hE
  obtain ⟨k1,k2⟩:=key q x hx
  have hpost:=h'.roots q x e k1 (tn hE)
  have low:∀ {l:List C} {cs:List Value},(gT E1.length l=true)→az (aU E' (AV aw aE E') w') l cs→az (aU E1 (AV aw (writes ws rs) E1) w') l cs:=fun hl hc=>hc.shrink fun x hx y q=>aU.shrink hk eY (gP hl x hx) q
  have hq0:q<E.length:=by rw [hlen0,← hlen]; exact (List.getElem?_eq_some_iff.1 hE).1
  have h0:=gj hq0
  cases x with
  | dead=>trivial
  | box l=>
    obtain ⟨b,cs,Tc,p1,p2,p3,p4⟩:=hpost
    refine ⟨b,cs,Tc,p1,p2,p3,low ?_ p4⟩
    rcases k2 with k2|k2
    ·obtain ⟨_,_,_,_,_,_,p5⟩:=h.roots q _ _ k2 h0
     rw [hlen,← hlen0]
     exact L.low p5
    ·exact k2
  | row el sz n l=>
    obtain ⟨p1,p2,xs,p3,p4⟩:=hpost
    refine ⟨p1,p2,xs,p3,low ?_ p4⟩
    rcases k2 with k2|k2
    ·obtain ⟨_,_,_,_,p5⟩:=h.roots q _ _ k2 h0
     rw [hlen,← hlen0]
     exact L.low p5
    ·exact k2
  | arr el sz n get=>
    obtain ⟨p1,p2,xs,p3,p4⟩:=hpost
    refine ⟨p1,p2,xs,p3,fun i hi j hj=>?_⟩
    obtain ⟨x,p5,p6⟩:=p4 i hi j hj
    exact ⟨x,p5,cA.mono (aZ.refl _ w') (fun b _ q=>eY b q) p6⟩
  | gy el sz n get dK=>
    obtain ⟨p1,p2,xs,p3,Ks,p4,pf,p5⟩:=hpost
    refine ⟨p1,p2,xs,p3,Ks,p4,pf,fun i hi j hj=>?_⟩
    obtain ⟨x,c,p6,p7,p8⟩:=p5 i hi j hj
    refine ⟨x,c,p6,p7,ja.shrink hk eY ?_ p8⟩
    rcases k2 with k2|k2
    ·obtain ⟨_,_,_,_,_,_,_,r5⟩:=h.roots q _ _ k2 h0
     obtain ⟨x',c',_,r7,r8⟩:=r5 i hi j hj
     rw [p7] at r7
     simp only [ak] at r7
     subst r7
     rw [hlen,← hlen0]
     exact ja.low r8
    ·exact Ca k2 p7
  | own l=>
    obtain ⟨p1,p2,vs,p3,p4,Ks,p5,p6,p7⟩:=hpost
    refine ⟨p1,p2,vs,p3,p4,Ks,p5,p6,fun i o ho=>?_⟩
    obtain ⟨v,g1,g2⟩:=p7 i o ho
    exact ⟨v,g1,je.mono (aZ.refl _ w') (fun b _ q=>eY b q) (fun _ _=>rfl) g2⟩
  | set l=>exact hpost
  | l7=>exact hpost
  | loop f M fC ps as bd st fe=>
    obtain ⟨b,db,tm,p1,p2,p3,p4,p5⟩:=hpost
    rcases k2 with k2|k2
    ·obtain ⟨b',db',tm',r1,r2,r3,r4,r5⟩:=h.roots q _ _ k2 h0
     refine ⟨b,db,tm,p1,p2,p3,fun t d c hl=>?_,p5⟩
     have hcn:c=[]:=p5 _ (gV hl)
     subst hcn
     obtain ⟨s1,s2,s3⟩:=p4 t d [] hl
     obtain ⟨s4,s5,s6⟩:=r4 t d [] hl
     exact ⟨s1,fun q=>aJ.shrink hk eY (lowd (s5 fun p hp=>by cases hp)) (s2 q),s3⟩
    ·simp [j6] at k2
 ·intro q x b sz hx Wz ir
  exact h'.cT q x b sz (key q x hx).1 Wz (eU ir)
 ·intro q q' x x' b sz cj hx TI hl sR ir Xy
  exact h'.eP q q' x x' b sz cj (key q x hx).1 (key q' x' TI).1 hl sR (eU ir) (eU Xy)
 ·intro t d c hl
  obtain ⟨s1,s2,s3⟩:=h'.slots t d c hl
  obtain ⟨s4,s5,s6⟩:=h.slots t d c hl
  exact ⟨s1,fun q=>aJ.shrink hk eY (lowd (s5 q)) (s2 q),s3⟩
end
open Go.RowKit
section
variable {P:Program} {T:dn} {lo:Lo} {hi:Hint} {N:Nat} {aw:Nat→Prop} {w0:Kp} {sp:List (D×Value)} {s:VS} {a:Act} {w:World} {E:Env} {ρ:Option Nat}
theorem zM (l:List Nat) (s:VS):Nd l s=⟨s.sl,tk l s.rs,s.df⟩:=by cases l<;>rfl
theorem wy:∀ (l:List Nat) (rs:List ae) {q:Nat} {x:ae},aY (tk l rs) q=some x→x.live→q ∉ l∧aY rs q=some x
 | [],rs,q,x,h,_=>⟨by simp,h⟩
 | k::l,rs,q,x,h,hx=>by
   obtain ⟨h1,h2⟩:=wy l (setAt rs k .dead) h hx
   rw [bQ,bm,fb] at h2
   split at h2
   ·split at h2
    ·simp only [ak] at h2; subst h2; exact hx.elim
    ·simp at h2
   ·rename_i hq
    refine ⟨?_,by rw [bQ]; exact h2⟩
    simp only [List.mem_cons,not_or]
    exact ⟨fun e=>hq e.symm,h1⟩
theorem jY.Qj (u:jY) (s:VS):(u.on s).df=s.df:=by
 unfold jY.on wv
 cases u.dst with
 | none=>rfl
 | some t=>cases u.val<;>rfl
theorem jY.KA (u:jY) {s:VS} (h:bA s.sl):bA (u.on s).sl:=by
 unfold jY.on wv
 cases u.dst with
 | none=>exact h
 | some t=>cases u.val with
   | none=>exact h
   | some d=>exact h.cons _ _
theorem ti {us:Nat→jY} {s0:VS} {L:Nat→Bool}:∀ n,(dH us s0 L n).df=s0.df
 | 0=>rfl
 | n+1=>by
   simp only [dH]
   split
   ·rw [jY.Qj,ti n]
   ·exact ti n
theorem nb {us:Nat→jY} {s0:VS} {L:Nat→Bool} (h:bA s0.sl):∀ n,bA (dH us s0 L n).sl
 | 0=>h
 | n+1=>by
   simp only [dH]
   split
   ·exact jY.KA _ (nb h n)
   ·exact nb h n
theorem ly {us:Nat→jY} {s0:VS} {L L':Nat→Bool}:∀ {n:Nat},(∀ k,k<n→L k=L' k)→dH us s0 L n=dH us s0 L' n
 | 0,_=>rfl
 | n+1,h=>by
   simp only [dH]
   rw [h n (by omega),ly (n:=n) fun k hk=>h k (by omega)]
theorem ph {u:jY} {us:Nat→jY} {s:VS}:∀ k,dH (fun|0=>u|k+1=>us k) s (fun _=>true) (k+1)=dH us (u.on s) (fun _=>true) k
 | 0=>rfl
 | k+1=>by
   rw [dH,ph k]
   rfl
structure Jk (T:dn) (lo:Lo) (hi:Hint) (N:Nat) (ops:List Oper) (b4:List Nat) (W:List (Nat×List Nat)) (i b:Nat) (s:VS) (o:Oper) (m:Nat) (u:jY):Prop where
 ev:j5 T lo hi b4 i b ops (Nd (dT b4 i m W) s) o=some (.ok u)
 ok:Ao N u.dst u.val=true
 sub:xz (u.ws.map (·.1)) (lA i W)=true
 apart:lU (u.ws.map (·.1)) (dT b4 i m W)=true
 ex:MO u.ex (dT b4 i m W)=true
theorem qI {ops:List Oper} {b4:List Nat} {W:List (Nat×List Nat)}:∀ {l:List Oper} {ms:List Nat} {i b:Nat} {s sF:VS},jx T lo hi N ops b4 W l ms i b s=some sF→
  ∃ us:Nat→jY,sF=dH us s (fun _=>true) l.length∧∀ k o,l[k]?=some o→∃ m,ms[k]?=some m∧Jk T lo hi N ops b4 W (i+k) (b+dq (l.take k)) (dH us s (fun _=>true) k) o m (us k)
 | [],ms,i,b,s,sF,h=>by
   have h:some s=some sF:=h
   simp only [ak] at h
   exact ⟨fun _=>⟨none,none,[],none,false⟩,h.symm,fun k o hk=>by simp at hk⟩
 | o::l,[],i,b,s,sF,h=>by
   have h:(none:Option VS)=some sF:=h
   simp at h
 | o::l,m::ms,i,b,s,sF,h=>by
   have h:(match j5 T lo hi b4 i b ops (Nd (dT b4 i m W) s) o with
    | some (.ok u)=>(Bool.rec none (jx T lo hi N ops b4 W l ms (i+1) (b+dN o.op) (u.on s)) (Ao N u.dst u.val&&(xz (u.ws.map (·.1)) (lA i W)&&(lU (u.ws.map (·.1)) (dT b4 i m W)&&MO u.ex (dT b4 i m W)))):Option VS)
    | _=>none)=some sF:=h
   split at h
   case h_2=>simp at h
   rename_i u hu
   obtain ⟨h1,h2⟩:=Bool.aq h
   simp only [cG] at h1
   obtain ⟨us,h3,h4⟩:=qI h2
   refine ⟨fun|0=>u|k+1=>us k,?_,fun k o' hk=>?_⟩
   ·rw [List.length_cons,ph]; exact h3
   ·cases k with
    | zero=>
      simp at hk
      subst hk
      exact ⟨m,rfl,hu,h1.1,h1.2.1,h1.2.2.1,h1.2.2.2⟩
    | succ k=>
      obtain ⟨m',h5,h6⟩:=h4 k o' (by simpa using hk)
      refine ⟨m',by simpa using h5,?_⟩
      rw [ph]
      have e1:i+(k+1)=i+1+k:=by omega
      have e2:b+dq (List.take (k+1) (o::l))=b+dN o.op+dq (l.take k):=by
       show b+(dN o.op+dq (l.take k))=_
       omega
      rw [e1,e2]
      exact h6
theorem oc {ops:List Oper} {b4:List Nat}:∀ {l:List Oper} {k b:Nat} {W:List (Nat×List Nat)} {s s':VS},kI T lo hi N b4 ops l k b W s=some (.ok [] s')→
  W=[]∧∀ ms:List Nat,ms.length=l.length→jx T lo hi N ops b4 [] l ms k b s=some s'
 | [],k,b,W,s,s',h=>by
   have h:some (xQ.ok W s)=some (.ok [] s'):=h
   simp only [ak,xQ.ok.injEq] at h
   obtain ⟨rfl,rfl⟩:=h
   exact ⟨rfl,fun ms _=>rfl⟩
 | o::l,k,b,W,s,s',h=>by
   have h:(match j5 T lo hi b4 k b ops s o with
    | some (.ok u)=>(Bool.rec none (kI T lo hi N b4 ops l (k+1) (b+dN o.op) (Bu k u W) (u.on s)) (Ao N u.dst u.val):Option xQ)
    | some (.cp c)=>some (.cp c)
    | none=>none)=some (.ok [] s'):=h
   split at h
   ·rename_i u hu
    obtain ⟨h1,h2⟩:=Bool.aq h
    obtain ⟨h3,h4⟩:=oc h2
    have h5:u.ws=[]∧W=[]:=by
     unfold Bu at h3
     split at h3
     ·rename_i hw; exact ⟨hw,h3⟩
     ·simp at h3
    refine ⟨h5.2,fun ms YB=>?_⟩
    cases ms with
    | nil=>simp at YB
    | cons m ms=>
      show (match j5 T lo hi b4 k b ops s o with
       | some (.ok u)=>(Bool.rec none (jx T lo hi N ops b4 [] l ms (k+1) (b+dN o.op) (u.on s)) (Ao N u.dst u.val&&(xz (u.ws.map (·.1)) (lA k [])&&(lU (u.ws.map (·.1)) (dT b4 k m [])&&MO u.ex (dT b4 k m [])))):Option VS)
       | _=>none)=some s'
      have hex:MO u.ex (dT b4 k m [])=true:=by
       show MO u.ex []=true
       cases u.ex<;>rfl
      rw [hu]
      simp only [h1,h5.1,hex]
      exact h4 ms (by simpa using YB)
   ·simp at h
   ·simp at h
theorem sG {ops:List Oper} {b4:List Nat}:∀ {l:List Oper} {k b:Nat} {W W':List (Nat×List Nat)} {s s':VS},kI T lo hi N b4 ops l k b W s=some (.ok W' s')→(∀ x∈W,x.1<k)→∀ x∈W',x.1<k+l.length
 | [],k,b,W,W',s,s',h,hk=>by
   have h:some (xQ.ok W s)=some (.ok W' s'):=h
   simp only [ak,xQ.ok.injEq] at h
   obtain ⟨rfl,rfl⟩:=h
   exact hk
 | o::l,k,b,W,W',s,s',h,hk=>by
   have h:(match j5 T lo hi b4 k b ops s o with
    | some (.ok u)=>(Bool.rec none (kI T lo hi N b4 ops l (k+1) (b+dN o.op) (Bu k u W) (u.on s)) (Ao N u.dst u.val):Option xQ)
    | some (.cp c)=>some (.cp c)
    | none=>none)=some (.ok W' s'):=h
   split at h
   ·rename_i u hu
    obtain ⟨h1,h2⟩:=Bool.aq h
    intro x hx
    have:=sG h2 (fun x hx=>by
     unfold Bu at hx
     split at hx
     ·have:=hk x hx; omega
     ·rcases List.mem_append.1 hx with hx|hx
      ·have:=hk x hx; omega
      ·simp at hx; subst hx; simp) x hx
    simp only [List.length_cons]
    omega
   ·simp at h
   ·simp at h
theorem iK {n:Nat}:∀ {l:List Nat},mj n l=true↔n∈l
 | []=>by simp [mj]
 | x::l=>by
   have:mj n (x::l)=(Bool.rec (mj n l) true (Nat.beq x n):Bool):=rfl
   rw [this]
   cases hb:Nat.beq x n with
   | true=>simp [bs hb]
   | false=>
     have:x≠n:=fun e=>by rw [e,cB] at hb; simp at hb
     simp only [List.mem_cons]
     rw [iK]
     exact ⟨.inr,fun h=>h.elim (fun e=>(this e.symm).elim) id⟩
theorem sg {m:List Nat}:∀ {l:List Nat},lU l m=true→∀ q∈l,q ∉ m
 | [],_,q,hq=>by simp at hq
 | x::l,h,q,hq=>by
   have h:(Bool.rec (lU l m) false (mj x m):Bool)=true:=h
   cases hb:mj x m with
   | true=>rw [hb] at h; simp at h
   | false=>
     rw [hb] at h
     rcases List.mem_cons.1 hq with rfl|hq
     ·intro hm; rw [iK.2 hm] at hb; simp at hb
     ·exact sg h q hq
theorem xl {m:List Nat}:∀ {l:List Nat},xz l m=true→∀ q∈l,q∈m
 | [],_,q,hq=>by simp at hq
 | x::l,h,q,hq=>by
   obtain ⟨h1,h2⟩:=Bool.fU (show (Bool.rec false (xz l m) (mj x m):Bool)=true from h)
   rcases List.mem_cons.1 hq with rfl|hq
   ·exact iK.1 h1
   ·exact xl h2 q hq
theorem kQ {α:Type} {k:Nat} {x:α}:∀ {l:List (Nat×α)},findF k l=some x→(k,x)∈l
 | [],h=>by simp [findF] at h
 | y::l,h=>by
   have h:(Bool.rec (findF k l) (some y.2) (Nat.beq y.1 k):Option α)=some x:=h
   cases hb:Nat.beq y.1 k with
   | true=>
     rw [hb] at h
     simp only [ak] at h
     have hk:=bs hb
     rw [← hk,← h]
     exact dZ ..
   | false=>rw [hb] at h; exact er _ (kQ h)
theorem DS {k q:Nat} {W:List (Nat×List Nat)} (h:q∈lA k W):∃ l,(k,l)∈W∧q∈l:=by
 unfold lA at h
 split at h
 ·rename_i l hl; exact ⟨l,kQ hl,h⟩
 ·simp at h
def wH (A:List Nat) (i m j:Nat):Prop:=j≠i∧m.testBit j=false∧∀ x,A[j]?=some x→x.testBit i=false
theorem tZ {A:List Nat} {i m:Nat} {x:Nat×List Nat} {W:List (Nat×List Nat)}:dT A i m (x::W)=(Bool.rec (x.2++dT A i m W) (dT A i m W) (Nat.beq x.1 i||(Nat.testBit m x.1||(match aY A x.1 with
  | some x=>Nat.testBit x i
  | none=>false))):List Nat):=rfl
theorem xh {A:List Nat} {i m:Nat} {q:Nat}:∀ {W:List (Nat×List Nat)} {x:Nat×List Nat},x∈W→q∈x.2→wH A i m x.1→q∈dT A i m W
 | [],x,h,_,_=>by simp at h
 | y::W,x,h,hq,hl=>by
   rw [tZ]
   rcases List.mem_cons.1 h with rfl|h
   ·have h1:Nat.beq x.1 i=false:=by
     cases hb:Nat.beq x.1 i with
     | true=>exact (hl.1 (bs hb)).elim
     | false=>rfl
    have h2:(match aY A x.1 with
     | some x=>Nat.testBit x i
     | none=>false)=false:=by
     rw [bQ]
     split
     ·rename_i y hy; exact hl.2.2 y hy
     ·rfl
    rw [h1,hl.2.1,h2]
    exact List.mem_append_left _ hq
   ·have:=xh h hq hl
    generalize (Nat.beq y.1 i||_)=b
    cases b with
    | true=>exact this
    | false=>exact List.mem_append_right _ this
theorem xn {A:List Nat} {i m:Nat}:∀ {W:List (Nat×List Nat)},(∀ x∈W,¬ wH A i m x.1)→dT A i m W=[]
 | [],_=>rfl
 | x::W,h=>by
   rw [tZ]
   have ih:=xn (A:=A) (i:=i) (m:=m) (W:=W) fun y hy=>h y (er _ hy)
   have hx:=h x (dZ ..)
   cases hb:(Nat.beq x.1 i||(Nat.testBit m x.1||(match aY A x.1 with
    | some x=>Nat.testBit x i
    | none=>false))) with
   | true=>exact ih
   | false=>
     simp only [Bool.or_eq_false_iff] at hb
     refine (hx ⟨fun e=>?_,hb.2.1,fun y hy=>?_⟩).elim
     ·rw [e,cB] at hb; simp at hb
     ·have:=hb.2.2
      rw [bQ,hy] at this
      exact this
theorem uB {i m:Nat}:∀ {l:List Nat} {k:Nat},My i m l k=true→∀ j x,l[j]?=some x→k+j=i∨m.testBit (k+j)=true∨x.testBit i=true
 | [],k,_,j,x,hx=>by simp at hx
 | y::l,k,h,j,x,hx=>by
   obtain ⟨h1,h2⟩:=Bool.fU (show (Bool.rec false (My i m l (k+1)) (Nat.beq k i||(Nat.testBit m k||Nat.testBit y i)):Bool)=true from h)
   cases j with
   | zero=>
     simp at hx
     subst hx
     simp only [Bool.or_eq_true] at h1
     rcases h1 with h1|h1|h1
     ·exact .inl (bs h1)
     ·exact .inr (.inl h1)
     ·exact .inr (.inr h1)
   | succ j=>
     have:=uB h2 j x (by simpa using hx)
     rwa [show k+1+j=k+(j+1) by omega] at this
theorem nz {A:List Nat} {i m:Nat} (hm:A[i]?=some m) (h:AP A i=true) {j x:Nat} (hx:A[j]?=some x):¬ wH A i m j:=by
 unfold AP at h
 rw [bQ,hm] at h
 simp only at h
 rintro ⟨h1,h2,h3⟩
 rcases uB h j x hx with h4|h4|h4
 ·omega
 ·rw [Nat.zero_add] at h4; rw [h2] at h4; simp at h4
 ·rw [h3 x hx] at h4; simp at h4
theorem rp {A:List Nat} {i b:Nat} {ops:List Oper} {s:VS} {o:Oper} {u:jY} (h:j5 T lo hi A i b ops s o=some (.ok u)) :
  (kP ops s.sl o.guard=some false∧u=⟨o.dst,some (.t []),[],none,false⟩) ∨
  (kP ops s.sl o.guard=some true∧∃ e,fk T lo hi b s o.dst o.op=some e∧(∀ l,e ≠ .cp l)∧u.dst=o.dst∧
   ((∃ d,e=.val d∧u.val=some d∧u.ws=[]∧u.al=none)∨(∃ d ws,e=.wr d ws∧u.val=d∧u.ws=ws∧u.al=none)∨(∃ d rs,e=.all d rs∧u.val=some d∧u.ws=[]∧u.al=some rs∧AP A i=true) ∨
     (∃ d rs,e=.all d rs∧u.val=some d∧lo.diff s.rs rs=some u.ws∧u.al=none∧u.ex=true∧iR s.rs.length d=true))):=by
 unfold j5 at h
 split at h
 ·rename_i hw
  refine .inr ⟨hw,?_⟩
  unfold AK at h
  split at h
  ·rename_i d he
   simp only [ak,Ir.ok.injEq] at h
   subst h
   exact ⟨_,he,fun _=>bP.noConfusion,rfl,.inl ⟨d,rfl,rfl,rfl,rfl⟩⟩
  ·rename_i d ws he
   simp only [ak,Ir.ok.injEq] at h
   subst h
   exact ⟨_,he,fun _=>bP.noConfusion,rfl,.inr (.inl ⟨d,ws,rfl,rfl,rfl,rfl⟩)⟩
  ·simp at h
  ·rename_i d rs he
   cases hb:AP A i with
   | false=>
     rw [hb] at h
     have h:H5 lo o.dst d s.rs rs=some (.ok u):=h
     unfold H5 at h
     split at h
     case h_2=>simp at h
     rename_i ws hws
     obtain ⟨h1,h⟩:=Bool.aq h
     simp only [ak,Ir.ok.injEq] at h
     subst h
     exact ⟨_,he,fun _=>bP.noConfusion,rfl,.inr (.inr (.inr ⟨d,rs,rfl,rfl,hws,rfl,rfl,h1⟩))⟩
   | true=>
     rw [hb] at h
     simp only [ak,Ir.ok.injEq] at h
     subst h
     exact ⟨_,he,fun _=>bP.noConfusion,rfl,.inr (.inr (.inl ⟨d,rs,rfl,rfl,rfl,rfl,rfl⟩))⟩
  ·simp at h
 ·rename_i hw
  simp only [ak,Ir.ok.injEq] at h
  exact .inl ⟨hw,h.symm⟩
 ·simp at h
theorem H6 {A:List Nat} {i b:Nat} {ops:List Oper} {s:VS} {o:Oper} {u:jY} (h:j5 T lo hi A i b ops s o=some (.ok u)):u.dst=o.dst:=by
 rcases rp h with ⟨_,rfl⟩|⟨_,e,_,_,h,_⟩
 ·rfl
 ·exact h
theorem tE {A:List Nat} {i b:Nat} {ops:List Oper} {s:VS} {o:Oper} {u:jY} (h:j5 T lo hi A i b ops s o=some (.ok u)) (ha:u.al≠none):AP A i=true:=by
 rcases rp h with ⟨_,rfl⟩|⟨_,e,_,_,_,h|h|h|h⟩
 ·exact (ha rfl).elim
 ·obtain ⟨_,_,_,_,h⟩:=h; exact (ha h).elim
 ·obtain ⟨_,_,_,_,_,h⟩:=h; exact (ha h).elim
 ·obtain ⟨_,_,_,_,_,_,h⟩:=h; exact h
 ·obtain ⟨_,_,_,_,_,h,_⟩:=h; exact (ha h).elim
structure Open (T:dn) (lo:Lo) (hi:Hint) (N:Nat) (ops:List Oper) (A:List Nat) (W:List (Nat×List Nat)) (us:Nat→jY) (s0:VS) (b0:Nat):Prop where
 Xr:YO ops A
 below:∀ (i m:Nat),A[i]?=some m→∀ j,m.testBit j=true→j<i
 order:∀ (i:Nat) (o:Oper) (m:Nat),ops[i]?=some o→A[i]?=some m→yB m o.guard=true∧qs ops m o.op.operands.toList=true
 PI:∀ (i j:Nat) (o o':Oper) (t:Tmp),ops[i]?=some o→ops[j]?=some o'→o.dst=some t→o'.dst=some t→i=j
 keys:∀ x∈W,x.1<ops.length
 sec:∀ (k:Nat) (o:Oper),ops[k]?=some o→∃ m,A[k]?=some m∧Jk T lo hi N ops A W k (b0+dq (ops.take k)) (dH us s0 (fun _=>true) k) o m (us k)
def oS (A:List Nat) (L:Nat→Bool):Prop:=∀ (j m:Nat),A[j]?=some m→L j=true→∀ k,m.testBit k=true→L k=true
section
variable {ops:List Oper} {A:List Nat} {W:List (Nat×List Nat)} {us:Nat→jY} {s0:VS} {b0:Nat} {L:Nat→Bool} {i m:Nat} {o:Oper}
theorem Open.get (hO:Open T lo hi N ops A W us s0 b0) {k:Nat} (hk:k<ops.length):∃ o m,ops[k]?=some o∧A[k]?=some m∧Jk T lo hi N ops A W k (b0+dq (ops.take k)) (dH us s0 (fun _=>true) k) o m (us k):=by
 obtain ⟨m,h1,h2⟩:=hO.sec k ops[k] (gj hk)
 exact ⟨_,m,gj hk,h1,h2⟩
theorem Open.dst (hO:Open T lo hi N ops A W us s0 b0) {k:Nat} {o:Oper} (ho:ops[k]?=some o) {t:Tmp} (h:(KT t).l0 (us k)):o.dst=some t:=by
 obtain ⟨m,_,h2⟩:=hO.sec k o ho
 rw [← H6 h2.ev]
 exact jY.Rm h
theorem Open.loose (hO:Open T lo hi N ops A W us s0 b0) (hm:A[i]?=some m) {k q:Nat} (hk:k<ops.length) (hl:wH A i m k) (ht:(MC q).l0 (us k)):q∈dT A i m W:=by
 obtain ⟨o,x,h1,h2,h3⟩:=hO.get hk
 rcases ht with ht|ht
 ·have hb:=tE h3.ev ht
  refine (nz h2 hb hm ?_).elim
  exact ⟨fun e=>hl.1 e.symm,hl.2.2 x h2,fun y hy=>by
   rw [hm] at hy
   simp only [ak] at hy
   subst hy
   exact hl.2.1⟩
 ·obtain ⟨l,h4,h5⟩:=DS (xl h3.sub q ht)
  exact xh h4 h5 hl
theorem Open.same (hO:Open T lo hi N ops A W us s0 b0) (hL:oS A L) (hm:A[i]?=some m) (hi:L i=false) (hr:∀ k,m.testBit k=true→L k=true) {k:Nat} (hk:k<ops.length) (hl:¬ wH A i m k):((fun _=>true) k&&decide (k<i))=L k:=by
 obtain ⟨o,x,h1,h2,h3⟩:=hO.get hk
 by_cases e1:k=i
 ·subst e1; simp [hi]
 ·cases h4:m.testBit k with
  | true=>simp [hO.below i m hm k h4,hr k h4]
  | false=>
    cases h5:x.testBit i with
    | true=>
      have:=hO.below k x h2 i h5
      have h6:L k=false:=by
       cases hLk:L k with
       | false=>rfl
       | true=>rw [hL k x h2 hLk i h5] at hi; simp at hi
      rw [h6]
      simp; omega
    | false=>exact (hl ⟨e1,h4,fun y hy=>by
      rw [h2] at hy
      simp only [ak] at hy
      subst hy
      exact h5⟩).elim
theorem Open.slot (hO:Open T lo hi N ops A W us s0 b0) (hL:oS A L) (hm:A[i]?=some m) (iq:i<ops.length) (hi:L i=false) (hr:∀ k,m.testBit k=true→L k=true) {t:Tmp}
  (ht:∀ k o,ops[k]?=some o→o.dst=some t→m.testBit k=true):eb (dH us s0 (fun _=>true) i).sl t=eb (dH us s0 L ops.length).sl t:=by
 rw [← lL (L:=fun _=>true) (Nat.le_of_lt iq)]
 refine (KT t).agree fun k hk OO=>?_
 obtain ⟨o,x,h1,h2,h3⟩:=hO.get hk
 have h4:=ht k o h1 (hO.dst h1 OO)
 exact hO.same hL hm hi hr hk fun hl=>by rw [hl.2.1] at h4; simp at h4
theorem Open.root (hO:Open T lo hi N ops A W us s0 b0) (hL:oS A L) (hm:A[i]?=some m) (iq:i<ops.length) (hi:L i=false) (hr:∀ k,m.testBit k=true→L k=true) {q:Nat}
  (hq:q ∉ dT A i m W):aY (dH us s0 (fun _=>true) i).rs q=aY (dH us s0 L ops.length).rs q:=by
 rw [← lL (L:=fun _=>true) (Nat.le_of_lt iq)]
 refine (MC q).agree fun k hk OO=>?_
 exact hO.same hL hm hi hr hk fun hl=>hq (hO.loose hm hk hl OO)
theorem uV:∀ (ws:List (Nat×ae)) (rs:List ae),(writes ws rs).length=rs.length
 | [],_=>rfl
 | p::ws,rs=>by
   show (writes ws (setAt rs p.1 p.2)).length=_
   rw [uV ws,bm,List.length_set]
theorem wC:∀ (l:List Nat) (rs:List ae),(tk l rs).length=rs.length
 | [],_=>rfl
 | q::l,rs=>by
   show (tk l (setAt rs q .dead)).length=_
   rw [wC l,bm,List.length_set]
def WS:View Nat where
 f s:=s.rs.length
 act u x:=match u.al with
  | some rs=>rs.length
  | none=>x
 l0 u:=u.al≠none
 on u s:=by
  have:(u.on s).rs=writes u.ws (Ac u.al s.rs):=by
   unfold jY.on wv
   cases u.dst with
   | none=>rfl
   | some t=>cases u.val<;>rfl
  rw [this,uV]
  unfold Ac
  cases u.al<;>rfl
 idle u x h:=by
  cases hu:u.al with
  | none=>rfl
  | some rs=>exact (h (by rw [hu]; simp)).elim
theorem Open.len (hO:Open T lo hi N ops A W us s0 b0) (hL:oS A L) (hm:A[i]?=some m) (iq:i<ops.length) (hi:L i=false) (hr:∀ k,m.testBit k=true→L k=true) :
  (dH us s0 (fun _=>true) i).rs.length=(dH us s0 L ops.length).rs.length:=by
 rw [← lL (L:=fun _=>true) (Nat.le_of_lt iq)]
 refine WS.agree fun k hk OO=>?_
 refine hO.same hL hm hi hr hk fun hl=>?_
 obtain ⟨o,x,h1,h2,h3⟩:=hO.get hk
 refine (nz h2 (tE h3.ev OO) hm ?_).elim
 exact ⟨fun e=>hl.1 e.symm,hl.2.2 x h2,fun y hy=>by
  rw [hm] at hy
  simp only [ak] at hy
  subst hy
  exact hl.2.1⟩
theorem Cc {α:Type} {l l':List α} (h:∀ q,aY l q=aY l' q):l=l':=List.ext_getElem? fun q=>by rw [← bQ,← bQ,h q]
theorem Open.Np (hO:Open T lo hi N ops A W us s0 b0) (hL:oS A L) (ho:ops[i]?=some o) (hm:A[i]?=some m) (iq:i<ops.length) (hi:L i=false) :
  (dH us s0 (more L i) ops.length).rs=((us i).on (dH us s0 L ops.length)).rs∧∀ t,eb (dH us s0 (more L i) ops.length).sl t=eb ((us i).on (dH us s0 L ops.length)).sl t:=by
 refine ⟨Cc fun q=>((MC q).step iq hi fun ht k h1 h2 h3 OO=>?_).symm,fun t=>((KT t).step iq hi fun ht k h1 h2 h3 OO=>?_).symm⟩
 ·obtain ⟨o',x,h4,h5,h6⟩:=hO.get h2
  obtain ⟨m',h7,h8⟩:=hO.sec i o ho
  rw [hm] at h7
  simp only [ak] at h7
  subst h7
  have hl:wH A i m k:=by
   refine ⟨by omega,?_,fun y hy=>?_⟩
   ·cases hb:m.testBit k with
    | false=>rfl
    | true=>have:=hO.below i m hm k hb; omega
   ·cases hb:y.testBit i with
    | false=>rfl
    | true=>rw [hL k y hy h3 i hb] at hi; simp at hi
  rcases ht with ht|ht
  ·exact nz hm (tE h8.ev ht) h5 hl
  ·exact sg h8.apart q ht (hO.loose hm h2 hl OO)
 ·obtain ⟨o',x,h4,h5,h6⟩:=hO.get h2
  have:=hO.PI i k o o' t ho h4 (hO.dst ho ht) (hO.dst h4 OO)
  omega
theorem tO:∀ {sl:aG} {t:Tmp} {d:D} {c:eE},look sl t=some (d,c)→eb sl t=some d
 | [],t,d,c,h=>by simp [look] at h
 | (k,x,c')::sl,t,d,c,h=>by
   rw [vJ]
   simp only [look] at h
   split at h
   ·rename_i hb
    simp only [ak,a8] at h
    rw [hb,h.1]
   ·rename_i hb
    rw [hb]; exact tO h
theorem look_nil:∀ {sl:aG} {t:Tmp} {d:D} {c:eE},bA sl→look sl t=some (d,c)→c=[]
 | [],t,d,c,_,h=>by simp [look] at h
 | (k,x,c')::sl,t,d,c,hn,h=>by
   simp only [look] at h
   split at h
   ·simp only [ak,a8] at h
    rw [← h.2]; exact hn _ (dZ ..)
   ·exact look_nil (fun y hy=>hn y (er _ hy)) h
theorem R.like (h:R T N aw w0 sp s a w E) (hn:bA s.sl) {s':VS} (sq:bA s'.sl) (h1:s'.rs=s.rs) (h2:s'.df=s.df) (h3:∀ t,eb s'.sl t=eb s.sl t):R T N aw w0 sp s' a w E:=by
 obtain ⟨fC,aE,Aq⟩:=s'
 simp only at h1 h2
 subst h1 h2
 exact ⟨h.size,h.defers,h.spec,h.below,h.len,h.outer,h.roots,h.cT,h.eP,fun t d c hl=>by
  have hc:=look_nil sq hl
  subst hc
  exact h.slots t d [] (fq hn ((h3 t).symm.trans (tO hl))),h.fL⟩
theorem Eu {sl fC:aG} {g:Option (Nat×Bool)} (h:∀ j b p t,g=some (j,b)→ops[j]?=some p→p.dst=some t→eb sl t=eb fC t):kP ops sl g=kP ops fC g:=by
 unfold kP
 split
 ·rfl
 ·rename_i j b
  split
  ·rename_i p hp
   rw [bQ] at hp
   split
   ·rename_i t ht
    rw [h j b p t rfl hp ht]
   ·rfl
  ·rfl
theorem BB {b:Nat} {rs:List ae} {d:Option D} {ws:List (Nat×ae)} (h:Shape b rs ws) (hb:b<rs.length):B3 (.wr d ws) rs=writes ws rs:=by
 rcases h with ⟨x,rfl⟩|⟨q,x,rfl,hq⟩|⟨q,x,y,rfl⟩
 ·show place b x rs=setAt rs b x
  rw [gz x hb,bm]
 ·show place q x rs=setAt rs q x
  rw [gz x hq,bm]
 ·show place b y (setAt rs q x)=setAt (setAt rs q x) b y
  rw [gz y (by rw [bm]; simpa using hb),bm (setAt rs q x)]
theorem L5 {rs:List ae} {d:Option D} {ws:List (Nat×ae)} (h:∀ b,Shape b rs ws):B3 (.wr d ws) rs=writes ws rs:=by
 have key:∀ q x,ws=[(q,x)]→q<rs.length→B3 (.wr d ws) rs=writes ws rs:=fun q x e hq=>by
  subst e
  show place q x rs=setAt rs q x
  rw [gz x hq,bm]
 rcases h 0 with ⟨x,h0⟩|⟨q,x,h0,hq⟩|⟨q,x,y,h0⟩
 ·rcases h 1 with ⟨x',h1⟩|⟨q',x',h1,hq⟩|⟨q',x',y',h1⟩
  ·rw [h0] at h1; simp at h1
  ·exact key _ _ h1 hq
  ·rw [h0] at h1; simp at h1
 ·exact key _ _ h0 hq
 ·rcases h 1 with ⟨x',h1⟩|⟨q',x',h1,hq⟩|⟨q',x',y',h1⟩
  ·rw [h0] at h1; simp at h1
  ·exact key _ _ h1 hq
  ·rw [h0] at h1; simp at h1
theorem R.ye (h:R T N aw w0 sp s a w E) {r:Nat} (hE:E[r]?=some hole):s.rs[r]?=some .dead:=by
 have hr:r<s.rs.length:=by rw [← h.len]; exact (List.getElem?_eq_some_iff.1 hE).1
 have hx:=gj hr
 rw [hx]
 have hrel:=h.roots r _ _ hx hE
 generalize s.rs[r]=x at hrel
 cases x with
 | dead=>rfl
 | box l=>obtain ⟨b,_,_,h1,_⟩:=hrel; simp [hole] at h1
 | arr el sz n get=>
   obtain ⟨_,_,xs,h1,_⟩:=hrel
   rcases h1.2 with ⟨h2,_⟩|⟨g,cap,cur,h2,_⟩<;>simp [hole,undef] at h2
 | row el sz n l=>
   obtain ⟨_,_,xs,h1,_⟩:=hrel
   rcases h1.2 with ⟨h2,_⟩|⟨g,cap,cur,h2,_⟩<;>simp [hole,undef] at h2
 | gy el sz n get dK=>
   obtain ⟨_,_,xs,h1,_⟩:=hrel
   rcases h1.2 with ⟨h2,_⟩|⟨g,cap,cur,h2,_⟩<;>simp [hole,undef] at h2
 | own l=>
   obtain ⟨_,h0,vs,h1,h2,_⟩:=hrel
   simp only [hole,undef,Value.tuple.injEq] at h1
   rw [← h1] at h2
   exact (h0 (List.length_eq_zero_iff.1 (by simpa using h2.symm))).elim
 | set l=>obtain ⟨b,_,_,h1,_⟩:=hrel; simp [hole] at h1
 | loop f M sl ps as bd st fe=>obtain ⟨b,_,_,h1,_⟩:=hrel; simp [hole] at h1
 | l7=>obtain ⟨b,h1,_⟩:=hrel; simp [hole] at h1
structure l5 (b0:Nat) (E E':Env):Prop where
 le:Env.le E E'
 free:∀ q:Nat,q<b0→E[q]?=some hole→E'[q]?=some hole
theorem l5.trans {b0:Nat} {E F G:Env} (h:l5 b0 E F) (k:l5 b0 F G):l5 b0 E G:=⟨h.le.trans k.le,fun q hq e=>k.free q hq (h.free q hq e)⟩
theorem l5.refl (b0:Nat) (E:Env):l5 b0 E E:=⟨Env.le_refl E,fun _ _ h=>h⟩
theorem Kh {b b':Nat} {s:VS} {dst:Option Tmp} {op:Op} {d:D} {rs:List ae} (h:fk T lo hi b s dst op=some (.all d rs)):fk T lo hi b' s dst op=some (.all d rs):=by
 by_cases hm:dN op=0
 ·rw [nh hm (b':=b)]; exact h
 unfold fk at h ⊢
 split at h
 ·simp at h
 ·rename_i hl
  cases op with
  | call c=>
    have h:fQ T lo hi b s c=_:=h
    show fQ T lo hi b' s c=_
    unfold fQ at h ⊢
    split at h
    ·exfalso
     have fin:∀ {el sz k:Nat} {l':List C} {Jn:Nat} {c:C},Am el sz k l' Jn b s.rs c≠some (.all d rs):=by
      intro el sz k l' Jn c q
      unfold Am at q
      split at q
      ·split at q
       ·simp at q
       ·replace q:=(Bool.aq q).2; simp at q
      ·split at q
       ·replace q:=(Bool.aq q).2
        replace q:=(Bool.aq q).2
        simp at q
       ·split at q
        ·replace q:=(Bool.aq q).2
         replace q:=(Bool.aq q).2
         simp at q
        ·simp at q
       ·simp at q
      ·simp at q
     unfold mH at h
     split at h
     case h_2=>simp at h
     replace h:=(Bool.aq h).2
     split at h
     case h_2=>simp at h
     split at h
     ·rename_i e' he'
      subst h
      unfold nN at he'
      split at he'
      case h_2=>simp at he'
      split at he'
      case h_2=>simp at he'
      split at he'
      case h_2=>simp at he'
      simp only [ak] at he'
      unfold yY at he'
      split at he'
      ·replace he':=(Bool.aq he').2
       unfold pK at he'
       split at he'
       ·replace he':=(Bool.aq he').2
        simp at he'
       ·split at he'
        ·replace he':=(Bool.aq he').2
         replace he':=(Bool.aq he').2
         replace he':=(Bool.aq he').2
         simp at he'
        ·simp at he'
       ·simp at he'
      ·unfold mB at he'
       split at he'
       ·simp at he'
       ·simp at he'
     unfold ng at h
     split at h
     case h_2=>simp at h
     split at h
     case h_2=>simp at h
     split at h
     case h_2=>simp at h
     split at h
     case h_2=>simp at h
     split at h
     ·exact fin (Bool.aq h).2
     ·exact fin (Bool.aq h).2
    ·unfold kG at h ⊢
     split at h
     case h_2=>simp at h
     split at h
     ·exact h
     ·split at h
      case h_2=>simp at h
      unfold mL at h ⊢
      split at h
      ·exact h
      ·exact h
      ·exfalso
       unfold fH at h
       split at h
       ·simp at h
       ·revert h
        generalize eJ _=p
        intro h
        cases p with
        | true=>simp at h
        | false=>
          rcases et h with ⟨l,hl⟩|⟨hl,_⟩
          ·cases hl
          ·cases hl
       ·rcases et h with ⟨l,hl⟩|⟨hl,_⟩
        ·cases hl
        ·cases hl
       ·simp at h
      ·exfalso
       unfold MQ at h
       split at h
       ·replace h:=(Bool.aq h).2
        simp at h
       ·simp at h
      ·exfalso
       obtain ⟨is',cs,mc,L,_,_,_,_,q⟩:=jD h
       cases q
      ·exact h
    ·simp at h
  | box t x=>
    have h:sQ b s x=_:=h
    unfold sQ at h
    split at h<;>(try split at h)<;>simp at h
  | alloc t=>
    have h:jR T b t=_:=h
    unfold jR at h
    split at h<;>(try split at h)<;>simp at h
  | makeMap t r=>
    have h:jP T b t r=_:=h
    unfold jP at h
    split at h<;>simp at h
  | makeSlice t l c=>
    have h:kY T b s t l c=_:=h
    unfold kY at h
    split at h
    case h_2=>simp at h
    split at h
    case h_2=>simp at h
    split at h
    case h_2=>simp at h
    split at h
    case h_2=>simp at h
    split at h
    case h_2=>simp at h
    replace h:=(Bool.aq h).2
    replace h:=(Bool.aq h).2
    replace h:=(Bool.aq h).2
    simp at h
  | buildSlice t n ps=>
    have h:H9 T b s (qf hi dst) t n ps.toList=_:=h
    unfold H9 at h
    split at h
    case h_2=>simp at h
    split at h
    case h_2=>simp at h
    split at h
    case h_2=>simp at h
    split at h
    case h_2=>simp at h
    replace h:=(Bool.aq h).2
    rcases iV (qf hi dst) b _ _ n _ with hc|⟨_,_,hc⟩|⟨_,hc⟩<;>rw [hc] at h<;>simp at h
  | _=>exact (hm rfl).elim
def AO (ops:List Oper) (b0:Nat) (L:Nat→Bool) (E:Env):Prop:=∀ j o,ops[j]?=some o→L j=false→dN o.op≠0→E[b0+dq (ops.take j)]?=some hole
theorem ou (l m:List Oper):dq (l++m)=dq l+dq m:=by
 induction l with
 | nil=>show dq m=0+dq m; omega
 | cons o l ih=>
   show dN o.op+dq (l++m)=(dN o.op+dq l)+dq m
   rw [ih]; omega
theorem iA {ops:List Oper} {j:Nat} {o:Oper} (h:ops[j]?=some o):dq (ops.take (j+1))=dq (ops.take j)+dN o.op:=by
 rw [List.take_add_one,h,ou]
 show dq (ops.take j)+(dN o.op+0)=_
 omega
theorem jL (ops:List Oper) {j k:Nat} (h:j≤k):dq (ops.take j)≤dq (ops.take k):=by
 have h1:=List.take_append_drop j (ops.take k)
 rw [List.take_take,Nat.min_eq_left h] at h1
 rw [← h1,ou]
 omega
theorem HQ {j k:Nat} {o o':Oper} (hj:ops[j]?=some o) (hk:ops[k]?=some o') (h1:dN o.op≠0) (h2:dN o'.op≠0) (CN:j≠k):dq (ops.take j)≠dq (ops.take k):=by
 rcases Nat.lt_or_ge j k with h|h
 ·have:=jL ops (j:=j+1) (k:=k) h
  rw [iA hj] at this
  omega
 ·have:=jL ops (j:=k+1) (k:=j) (by omega)
  rw [iA hk] at this
  omega
theorem Jw {s:VS} {dst:Option Tmp} {e:bP} {u:jY} (hd:u.dst=dst) (vh:Ao N u.dst u.val=true) (hv:u.val=dt e) (OW:∀ l,e ≠ .cp l) (Il:B3 e s.rs=writes u.ws (Ac u.al s.rs)):oi N s dst e=some (u.on s):=by
 subst hd
 have key:∀ (d:D) (s1:VS),u.val=some d→s1={ s with rs:=writes u.ws (Ac u.al s.rs) }→oR N s1 u.dst d=some (u.on s):=fun d s1 hv hs=>by
  subst hs
  unfold jY.on oR wv
  unfold Ao at vh
  cases hdst:u.dst with
  | none=>rfl
  | some t=>
    rw [hdst,hv] at vh
    simp only [hv,show Nat.blt t N=true from vh]
 cases e with
 | val d=>
   refine key d s hv ?_
   obtain ⟨sl,rs,df⟩:=s
   have:rs=_:=Il
   simp only at this ⊢
   rw [← this]
 | wr d ws=>
   show FU N _ u.dst d=_
   have hv:u.val=d:=hv
   cases d with
   | some d=>exact key d _ hv (by rw [← Il])
   | none=>
     unfold Ao at vh
     unfold jY.on wv FU
     cases hdst:u.dst with
     | none=>simp only [← Il]
     | some t=>rw [hdst,hv] at vh; simp at vh
 | all d rs=>exact key d _ hv (by rw [← Il]; rfl)
 | cp l=>exact (OW l rfl).elim
theorem Open.op {ops:Array Oper} (hO:Open T lo hi N ops.toList A W us s0 b0) (bz:dk P T) (Eo:gm T P lo) (hL:oS A L) (ho:ops[i]?=some o) (hm:A[i]?=some m) (Qk:L i=false) (hr:∀ k,m.testBit k=true→L k=true)
  (h:R T N aw w0 sp (dH us s0 L ops.size) a w E) (hn:bA s0.sl) (hh:AO ops.toList b0 L E) {Q:Exit→Act→World→Prop} {K:Act→World→Prop}
  (hK:∀ a' w' E',l5 b0 E E'→R T N aw w0 sp (dH us s0 (more L i) ops.size) a' w' E'→AO ops.toList b0 (more L i) E'→K a' w'):wpOpIn (Fr ρ) 0 P ops Q i K a w:=by
 have hlen:ops.toList.length=ops.size:=by simp
 have ho':ops.toList[i]?=some o:=by simpa using ho
 have iq:i<ops.toList.length:=(List.getElem?_eq_some_iff.1 ho').1
 obtain ⟨m',h1,hs⟩:=hO.sec i o ho'
 rw [hm] at h1
 simp only [ak] at h1
 subst h1
 have hord:=hO.order i o m ho' hm
 let S:=dH us s0 L ops.size
 have hnS:bA S.sl:=nb hn _
 have slot:∀ {t:Tmp},(∀ k o,ops.toList[k]?=some o→o.dst=some t→m.testBit k=true)→eb (dH us s0 (fun _=>true) i).sl t=eb S.sl t:=fun ht=>by
  have:=hO.slot hL hm iq Qk hr ht
  rw [hlen] at this
  exact this
 have hfin:∀ {a' w' E'},l5 b0 E E'→R T N aw w0 sp ((us i).on S) a' w' E'→AO ops.toList b0 (more L i) E'→K a' w':=fun {a' w' E'} Ib hR hH=>by
  obtain ⟨q1,q2⟩:=hO.Np hL ho' hm iq Qk
  rw [hlen] at q1 q2
  exact hK _ _ _ Ib (hR.like (jY.KA _ hnS) (nb hn _) q1 (by rw [jY.Qj,ti,ti]) q2) hH
 have hwant:∀ {b:Bool},kP ops.toList (Nd (dT A i m W) (dH us s0 (fun _=>true) i)).sl o.guard=some b→Region.wanted o (yielded ops a.tmps)=b:=fun {b} hw=>by
  rw [zM] at hw
  refine oC h hnS (b:=b) ?_
  rw [← hw]
  refine (Eu fun j b p t hg hp ht=>?_).symm
  refine slot fun k o1 hk jN=>?_
  have:=hO.PI j k p o1 t hp hk ht jN
  subst this
  have:=hord.1
  rw [hg] at this
  exact this
 unfold wpOpIn
 rw [ho]
 simp only
 rcases rp hs.ev with ⟨hw,hu⟩|⟨hw,e,he,OW,hdst,hcase⟩
 ·rw [if_neg (by rw [hwant hw]; simp)]
  refine ⟨fun _ _=>trivial,?_⟩
  have mg:oR N S o.dst (.t [])=some ((us i).on S):=by
   have vh:=hs.ok
   rw [hu] at vh ⊢
   unfold oR jY.on wv
   unfold Ao at vh
   cases hd:o.dst with
   | none=>rfl
   | some t=>
     rw [hd] at vh
     simp only at vh
     simp only [vh]
     rfl
  obtain ⟨h2,h3⟩:=o4 h hnS mg xi
  refine hfin (l5.refl _ _) h2 fun j oj hj vU MV=>?_
  by_cases hji:j=i
  ·subst hji; rw [gW] at vU; simp at vU
  ·rw [gZ hji] at vU; exact hh j oj hj vU MV
 ·rw [if_pos (hwant hw)]
  rw [zM] at he
  have hops:∀ x∈o.op.operands.toList,bO (dH us s0 (fun _=>true) i).sl x=bO S.sl x:=fun x hx=>by
   cases x with
   | tmp t=>
     refine slot fun k o1 hk jN=>?_
     have:=jK hord.2 t hx
     unfold FT at this
     split at this
     ·rename_i j hj
      obtain ⟨j',o2,h4,h5,h6⟩:=vc hj
      have:=hO.PI j' k o2 o1 t h5 hk h6 jN
      subst this
      rw [Nat.zero_add] at h4
      subst h4
      assumption
     ·rename_i hj
      exact (o5 hj k o1 hk jN).elim
   | _=>rfl
  have hrle:nM (tk (dT A i m W) (dH us s0 (fun _=>true) i).rs) S.rs:=fun q x hq hx=>by
   obtain ⟨h4,h5⟩:=wy _ _ hq hx
   have:=hO.root hL hm iq Qk hr h4
   rw [hlen] at this
   rw [← this]; exact h5
  have hall:∀ d r,e=.all d r→tk (dT A i m W) (dH us s0 (fun _=>true) i).rs=S.rs:=fun d r hd=>by
   have oZ:dT A i m W=[]:=by
    rcases hcase with ⟨_,h4,_⟩|⟨_,_,h4,_⟩|⟨_,_,_,_,_,_,h4⟩|⟨_,_,_,_,_,_,h4,_⟩
    ·rw [hd] at h4; cases h4
    ·rw [hd] at h4; cases h4
    ·exact xn fun x hx=>by
      obtain ⟨_,y,_,h5,_⟩:=hO.get (hO.keys x hx)
      exact nz hm h4 h5
    ·have:=hs.ex
     rw [h4] at this
     unfold MO at this
     simp only at this
     split at this
     ·assumption
     ·simp at this
   rw [oZ]
   refine Cc fun q=>?_
   have:=hO.root hL hm iq Qk hr (q:=q) (by rw [oZ]; simp)
   rw [hlen] at this
   exact this
  have heS:fk T lo hi (b0+dq (ops.toList.take i)) S o.dst o.op=some e:=Dg (Aq:=S.df) Eo.mono (by rw [wC]; have:=hO.len hL hm iq Qk hr; rw [hlen] at this; exact this) hrle hops OW hall he
  by_cases hc4:∃ d rs,e=.all d rs∧(us i).val=some d∧lo.diff S.rs rs=some (us i).ws∧(us i).al=none∧iR S.rs.length d=true
  ·obtain ⟨d,aE,h4,h5,h6,h7,h8⟩:=hc4
   subst h4
   have he':=Kh (b':=S.rs.length) heS
   rcases oV bz Eo h hnS (.inr rfl) he' (next:=K) (fun v w' E' ha=>by
    obtain ⟨g1,g2,g3⟩:=ha
    have hk:=Kept.Gi g1 (Nat.le_of_eq h.len)
    obtain ⟨E1,hkE,hEl,k1,k2⟩:=R.trim (sl:=S.sl) (df:=S.df) h g2 hk (Eo.diff _ _ _ h6) h8 (g3 d rfl)
    have mg:oR N { S with rs:=writes (us i).ws S.rs } o.dst d=some ((us i).on S):=by
     have vh:=hs.ok
     rw [← hdst]
     unfold jY.on oR wv Ac
     unfold Ao at vh
     rw [h7,h5]
     cases hdst':(us i).dst with
     | none=>rfl
     | some t=>
       rw [hdst',h5] at vh
       simp only [show Nat.blt t N=true from vh]
    obtain ⟨k3,k4⟩:=o4 k1 hnS mg k2
    refine hfin ⟨hkE.le,fun q _ e=>hkE.free q e⟩ k3 fun j oj hj vU MV=>?_
    by_cases hji:j=i
    ·subst hji; rw [gW] at vU; simp at vU
    ·rw [gZ hji] at vU; exact hkE.free _ (hh j oj hj vU MV)) with ⟨l,hl⟩|h3
   ·exact (OW l hl).elim
   ·exact h3.wpIn
  have hcase:(∃ d,e=.val d∧(us i).val=some d∧(us i).ws=[]∧(us i).al=none)∨(∃ d ws,e=.wr d ws∧(us i).val=d∧(us i).ws=ws∧(us i).al=none)∨(∃ d rs,e=.all d rs∧(us i).val=some d∧(us i).ws=[]∧(us i).al=some rs∧AP A i=true):=by
   rcases hcase with q|q|q|⟨d,rs,q1,q2,q3,q4,q5,q6⟩
   ·exact .inl q
   ·exact .inr (.inl q)
   ·exact .inr (.inr q)
   ·refine (hc4 ⟨d,rs,q1,q2,?_,q4,?_⟩).elim
    ·have q7:=hall d rs q1
     rw [zM] at q3
     simp only at q3
     rw [q7] at q3
     exact q3
    ·have q7:=hall d rs q1
     rw [zM] at q6
     simp only at q6
     rw [q7] at q6
     exact q6
  have hbr:∃ b,fk T lo hi b S o.dst o.op=some e∧j9 S E b∧B3 e S.rs=writes (us i).ws (Ac (us i).al S.rs)∧(∀ E',kX b E E'→AO ops.toList b0 (more L i) E')∧(∀ E',kX b E E'→l5 b0 E E'):=by
   by_cases MV:dN o.op=0
   ·refine ⟨S.rs.length,by rw [nh MV (b':=b0+dq (ops.toList.take i))]; exact heS,.inr rfl,?_,fun E' hg j oj hj vU NV=>?_,fun E' hg=>⟨hg.le,fun q hq e=>hg.free q (fun e'=>by
     have:=(List.getElem?_eq_some_iff.1 e).1
     rw [h.len] at this
     exact Nat.lt_irrefl _ (e'▸this)) e⟩⟩
    ·rcases hcase with ⟨d,h4,_,h5,h6⟩|⟨d,ws,h4,_,h5,h6⟩|⟨d,rs,h4,_,h5,h6,_⟩
     ·rw [h4,h5,h6]; rfl
     ·rw [h4,h5,h6]
      refine L5 fun b=>vz (T:=T) (lo:=lo) (hi:=hi) (dst:=o.dst) (op:=o.op) (d:=d) (s:=S) ?_
      rw [nh MV (b':=b0+dq (ops.toList.take i)),heS,h4]
     ·rw [h4,h5,h6]; rfl
    ·by_cases hji:j=i
     ·subst hji; rw [gW] at vU; simp at vU
     ·rw [gZ hji] at vU
      have h7:=hh j oj hj vU NV
      refine hg.free _ ?_ h7
      have:=(List.getElem?_eq_some_iff.1 h7).1
      rw [h.len] at this
      exact Nat.ne_of_lt this
   ·have h7:=hh i o ho' Qk MV
    have dp:b0+dq (ops.toList.take i)<S.rs.length:=by
     have:=(List.getElem?_eq_some_iff.1 h7).1
     rw [h.len] at this
     exact this
    refine ⟨_,heS,.inl ⟨h.ye h7,h7⟩,?_,fun E' hg j oj hj vU NV=>?_,fun E' hg=>⟨hg.le,fun q hq e=>hg.free q (by omega) e⟩⟩
    ·rcases hcase with ⟨d,h4,_,h5,h6⟩|⟨d,ws,h4,_,h5,h6⟩|⟨d,rs,h4,_,h5,h6,_⟩
     ·rw [h4,h5,h6]; rfl
     ·rw [h4,h5,h6]
      rw [h4] at heS
      exact BB (vz heS) dp
     ·rw [h4,h5,h6]; rfl
    ·by_cases hji:j=i
     ·subst hji; rw [gW] at vU; simp at vU
     ·rw [gZ hji] at vU
      have h8:=hh j oj hj vU NV
      refine hg.free _ ?_ h8
      have:=HQ hj ho' NV MV hji
      omega
  obtain ⟨b,hb1,hb2,hb3,hb4,hb5⟩:=hbr
  have hval:(us i).val=dt e:=by
   rcases hcase with ⟨d,h4,h5,_⟩|⟨d,ws,h4,h5,_⟩|⟨d,rs,h4,h5,_⟩<;>rw [h4,h5]<;>rfl
  have mg:=Jw hdst hs.ok hval OW hb3
  have hd:=B6 hb1
  rcases oV bz Eo h hnS hb2 hb1 (next:=K) (fun v w' E' ha=>by
   obtain ⟨h3,h4⟩:=Fh hnS mg ha (fun q=>by
    rcases hd with ⟨l,hl⟩|hd|hd
    ·exact (OW l hl).elim
    ·exact (hd q).elim
    ·exact hd)
   exact hfin (hb5 _ ha.1) h3 (hb4 _ ha.1)) with ⟨l,hl⟩|h3
  ·exact (OW l hl).elim
  ·exact h3.wpIn
end
def MM:List Bool→Nat
 | []=>0
 | true::l=>MM l
 | false::l=>MM l+1
theorem E9:∀ {l:List Bool} {i:Nat},l[i]?=some false→MM (l.set i true)+1=MM l
 | [],i,h=>by simp at h
 | b::l,0,h=>by
   simp at h; subst h; rfl
 | b::l,i+1,h=>by
   have ih:=E9 (l:=l) (i:=i) (by simpa using h)
   cases b with
   | true=>exact ih
   | false=>simp only [List.set_cons_succ,MM]; omega
theorem tR:∀ {l:List Bool},MM l=0→∀ (i:Nat),l[i]?≠some false
 | [],_,i=>by simp
 | true::l,h,i=>by
   cases i with
   | zero=>simp
   | succ i=>simpa using tR (l:=l) h i
 | false::l,h,i=>by simp [MM] at h
theorem nU:∀ n,MM (List.replicate n false)=n
 | 0=>rfl
 | n+1=>by rw [List.replicate_succ]; simp only [MM]; rw [nU n]
section
variable {ops:Array Oper} {A:List Nat} {W:List (Nat×List Nat)} {us:Nat→jY} {s0:VS} {b0:Nat}
theorem rG {listed:Array Bool} {i:Nat} (h:i∈Region.ready .any ops listed):i<ops.size∧listed.getD i true=false∧∃ o,ops[i]?=some o∧∀ e∈o.after.toList,Region.binds .any e=true→listed.getD e.on false=true:=by
 unfold Region.ready at h
 rw [List.mem_filter,List.mem_range,cG] at h
 obtain ⟨h1,h2,h3⟩:=h
 refine ⟨h1,by simpa using h2,?_⟩
 rw [Array.getElem?_eq_getElem h1] at h3 ⊢
 refine ⟨_,rfl,fun e he hb=>?_⟩
 simp only [Option.map_some,Option.getD_some] at h3
 rw [← Array.all_toList,List.all_eq_true] at h3
 have:=h3 e he
 simpa [hb] using this
theorem Hl {listed:Array Bool} (hO:Open T lo hi N ops.toList A W us s0 b0) (eT:listed.size=ops.size) (h:Region.ready .any ops listed=[]):∀ k,k<ops.size→listed.getD k false=true:=by
 intro k
 induction k using Nat.strongRecOn with
 | _ k ih=>
   intro hk
   cases hL:listed.getD k false with
   | true=>rfl
   | false=>
     have jN:k<listed.size:=by omega
     have hget:listed[k]=false:=by simpa [Array.getD,jN] using hL
     have:k∈Region.ready .any ops listed:=by
      unfold Region.ready
      rw [List.mem_filter,List.mem_range,cG]
      refine ⟨hk,by simp [Array.getD,jN,hget],?_⟩
      rw [Array.getElem?_eq_getElem hk]
      simp only [Option.map_some,Option.getD_some]
      rw [← Array.all_toList,List.all_eq_true]
      intro e he
      cases hb:Region.binds .any e with
      | false=>rfl
      | true=>
        have ho:ops.toList[k]?=some ops[k]:=by simp [hk]
        obtain ⟨m,hm,_⟩:=hO.sec k _ ho
        have hbit:m.testBit e.on=true:=(hO.Xr.bits k _ m ho hm e.on).2 ⟨e,he,hb,.inl rfl⟩
        have dp:=hO.below k m hm e.on hbit
        simp only [Bool.not_true,Bool.false_or]
        exact ih e.on dp (by omega)
     rw [h] at this
     simp at this
theorem Open.run (hO:Open T lo hi N ops.toList A W us s0 b0) (bz:dk P T) (Eo:gm T P lo) (hn:bA s0.sl) {Q:Exit→Act→World→Prop}
  {E0:Env} (hQ:∀ a' w' E',l5 b0 E0 E'→R T N aw w0 sp (dH us s0 (fun _=>true) ops.size) a' w' E'→Q .normal a' w') :
  ∀ (fuel:Nat) (listed:Array Bool) (a:Act) (w:World) (E:Env),l5 b0 E0 E→listed.size=ops.size→oS A (fun k=>listed.getD k false)→R T N aw w0 sp (dH us s0 (fun k=>listed.getD k false) ops.size) a w E→
   AO ops.toList b0 (fun k=>listed.getD k false) E→MM listed.toList≤fuel→wpAnyIn (Fr ρ) 0 P .any ops Q fuel listed a w
 | fuel,listed,a,w,E,Ib,eT,hC,h,hh,hu=>by
   have hend:Region.ready .any ops listed=[]→Q .normal a w:=fun hr=>by
    have hall:=Hl hO eT hr
    rw [ly (L':=fun _=>true) fun k hk=>hall k hk] at h
    exact hQ _ _ _ Ib h
   cases fuel with
   | zero=>
     refine ⟨?_,?_⟩
     ·cases hr:Region.ready .any ops listed with
      | nil=>rfl
      | cons i l=>
        obtain ⟨h1,h2,_⟩:=rG (show i∈Region.ready .any ops listed by rw [hr]; simp)
        have iq:i<listed.size:=by omega
        refine (tR (l:=listed.toList) (by omega) i ?_).elim
        simp [Array.getD,iq] at h2
        simp [iq,h2]
     ·refine hend ?_
      cases hr:Region.ready .any ops listed with
      | nil=>rfl
      | cons i l=>
        obtain ⟨h1,h2,_⟩:=rG (show i∈Region.ready .any ops listed by rw [hr]; simp)
        have iq:i<listed.size:=by omega
        refine (tR (l:=listed.toList) (by omega) i ?_).elim
        simp [Array.getD,iq] at h2
        simp [iq,h2]
   | succ fuel=>
     refine ⟨hend,fun i hi=>?_⟩
     obtain ⟨h1,h2,o,ho,hdep⟩:=rG hi
     have iq:i<listed.size:=by omega
     have hget:listed[i]=false:=by simpa [Array.getD,iq] using h2
     have ho':ops.toList[i]?=some o:=by simpa using ho
     obtain ⟨m,hm,_⟩:=hO.sec i o ho'
     have Qk:listed.getD i false=false:=by simp [Array.getD,iq,hget]
     have hr:∀ k,m.testBit k=true→listed.getD k false=true:=fun k hk=>by
      obtain ⟨e,he,hb,h3⟩:=(hO.Xr.bits i o m ho' hm k).1 hk
      have h4:=hdep e he hb
      rcases h3 with rfl|⟨x,hx,hxk⟩
      ·exact h4
      ·rw [cN] at hx
       split at hx
       ·exact hC e.on x hx h4 k hxk
       ·simp at hx
     have Cg:∀ k,(listed.setIfInBounds i true).getD k false=more (fun k=>listed.getD k false) i k:=fun k=>by
      by_cases hk:k=i
      ·subst hk; rw [gW]; simp [Array.getD,iq]
      ·rw [gZ hk]
       simp only [Array.getD,Array.size_setIfInBounds]
       split
       ·rename_i hks
        simp only [Array.getInternal_eq_getElem]
        rw [Array.getElem_setIfInBounds,if_neg (fun e=>hk e.symm)]
       ·rfl
     refine hO.op (L:=fun k=>listed.getD k false) bz Eo hC ho hm Qk hr h hn hh fun a' w' E' Xz hR hH=>?_
     refine Open.run hO bz Eo hn hQ fuel (listed.setIfInBounds i true) a' w' E' (Ib.trans Xz) (by simpa using eT) ?_ ?_ ?_ ?_
     ·intro j x hx hj k hk
      simp only [Cg] at hj ⊢
      by_cases hji:j=i
      ·subst hji
       rw [hm] at hx
       simp only [ak] at hx
       subst hx
       have:=hr k hk
       by_cases hki:k=j
       ·subst hki; exact gW _
       ·rw [gZ hki]; exact this
      ·rw [gZ hji] at hj
       by_cases hki:k=i
       ·subst hki; exact gW _
       ·rw [gZ hki]; exact hC j x hx hj k hk
     ·rw [ly fun k _=>Cg k]; exact hR
     ·intro j oj hj vU
      simp only [Cg] at vU
      exact hH j oj hj vU
     ·have:=E9 (l:=listed.toList) (i:=i) (by simp [iq,hget])
      rw [Array.toList_setIfInBounds]
      omega
end
theorem rO (bz:dk P T) (Eo:gm T P lo) {ops:Array Oper} (mg:pV ops.toList=true) {sF:VS} {Q:Exit→Act→World→Prop} (hQ:∀ a' w' E',Kept E E'→R T N aw w0 sp sF a' w' E'→bA sF.sl→Q .normal a' w') :
  ∀ (n:Nat) {s:VS},tJ T lo hi N ops.toList n s=some sF→R T N aw w0 sp s a w E→bA s.sl→wpAnyIn (Fr ρ) 0 P .any ops Q ops.size (Array.replicate ops.size false) a w
 | 0,s,e,h,hn=>by
   have e:(none:Option VS)=some sF:=e
   simp at e
 | n+1,s,e,h,hn=>by
   have e:(match kI T lo hi N (iu ops.toList []) ops.toList ops.toList 0 s.rs.length [] (ft ops.toList s) with
    | some (.cp l)=>match fV l s with
      | some s'=>tJ T lo hi N ops.toList n s'
      | none=>none
    | some (.ok W s')=>xf T lo hi N ops.toList (ft ops.toList s) s' s.rs.length W
    | none=>none)=some sF:=e
   split at e
   ·split at e
    case h_2=>simp at e
    rename_i s' hs'
    obtain ⟨h1,h2⟩:=h.fV hs'
    exact rO bz Eo mg hQ n e h1 (h2 hn)
   ·rename_i W s' hf
    have hlen:ops.toList.length=ops.size:=by simp
    have hanc:=Q2 ops.toList
    have hsec:∃ W,(∀ x∈W,x.1<ops.toList.length)∧jx T lo hi N ops.toList (iu ops.toList []) W ops.toList (iu ops.toList []) 0 s.rs.length (ft ops.toList s)=some sF:=by
     unfold xf at e
     split at e
     ·simp only [ak] at e
      subst e
      exact ⟨[],fun x hx=>by simp at hx,(oc hf).2 _ hanc.len⟩
     ·exact ⟨_,fun x hx=>by have:=sG hf (fun x hx=>by simp at hx) x hx; omega,e⟩
    obtain ⟨W,hkeys,hsec⟩:=hsec
    obtain ⟨us,h1,h2⟩:=qI hsec
    unfold pV at mg
    simp only [cG] at mg
    have hO:Open T lo hi N ops.toList (iu ops.toList []) W us (ft ops.toList s) s.rs.length:={
     Xr:=hanc
     below:=fun i m hm j hj=>by have:=sb mg.2.2 i m hm j hj; omega
     order:=fun i o m ho hm=>sC mg.2.1 i o m ho hm
     PI:=uG mg.1
     keys:=hkeys
     sec:=fun k o hk=>by
      obtain ⟨m,h3,h4⟩:=h2 k o hk
      rw [Nat.zero_add] at h4
      exact ⟨m,h3,h4⟩ }
    have hR:=h.Ql (dq ops.toList)
    have oZ:bA (ft ops.toList s).sl:=hn
    rw [hlen] at h1
    have hget0:∀ k,(Array.replicate ops.size false).getD k false=false:=fun k=>by simp [Array.getD]
    have hS0:dH us (ft ops.toList s) (fun k=>(Array.replicate ops.size false).getD k false) ops.size=ft ops.toList s:=by
     rw [ly (L':=fun _=>false) fun k _=>hget0 k]
     have:∀ n,dH us (ft ops.toList s) (fun _=>false) n=ft ops.toList s:=by
      intro n
      induction n with
      | zero=>rfl
      | succ n ih=>simp only [dH]; exact ih
     exact this _
    refine Open.run hO bz Eo oZ (E0:=E) (fun a' w' E' Ib rJ=>hQ a' w' E' ⟨Ib.le,fun q e=>Ib.free q (by rw [← h.len]; exact (List.getElem?_eq_some_iff.1 e).1) e⟩ (by rw [h1]; exact rJ) (by rw [h1]; exact nb oZ _)) ops.size _ a w (E++List.replicate (dq ops.toList) hole)
     ⟨Env.eo _ _,fun q _ e=>by rw [dQ (List.getElem?_eq_some_iff.1 e).1]; exact e⟩ (by simp) ?_ ?_ ?_ ?_
    ·intro j m _ hj
     simp only [hget0] at hj
     simp at hj
    ·rw [hS0]; exact hR
    ·intro j o hj _ MV
     rw [← h.len,gG (by omega),List.getElem?_replicate,if_pos]
     have h5:=iA hj
     have h6:=jL ops.toList (j:=j+1) (k:=ops.toList.length) (List.getElem?_eq_some_iff.1 hj).1
     rw [List.take_length] at h6
     omega
    ·rw [Array.toList_replicate,nU]; exact bf _
   ·simp at e
theorem AA (bz:dk P T) (hl:gm T P lo) (Au:P.follows .mixedOrders=true) (h:R T N aw w0 sp s a w E) (hn:bA s.sl) {f:FuncId} {ro:Option Nat} {id:Nat} {ops:Array Oper} {s':VS} (e:regionF T lo hi N f ro id ops.toList true s=some s')
  {b:Frame} {k:List Item} {cs:List Frame}:∃ a' w' E',Kept E E'∧R T N aw w0 sp s' a' w' E'∧bA s'.sl∧Steps P (lone (b.atR a (.code (.region id ops true)::k)) cs w) (lone (b.atR a' k) cs w'):=by
 unfold regionF at e
 simp only at e
 split at e
 ·simp at e
 split at e
 case h_2=>simp at e
 rename_i mg
 split at e
 case h_2=>simp at e
 rename_i s1 hs1
 simp only [ak] at e
 subst e
 have hg:R T N aw w0 sp s a { w with drawn:=w.drawn+1 } E:=h.grown ⟨rfl,rfl,rfl,bf _,fun _ _=>rfl⟩
 have hw:=rO (ρ:=b.roundOf) (Q:=fun en a' w'=>en=.normal∧∃ E',Kept E E'∧R T N aw w0 sp s1 a' w' E'∧bA s1.sl) bz hl mg (fun a' w' E' hk h1 h2=>⟨rfl,E',hk,h1,h2⟩) 8 hs1 hg hn
 obtain ⟨en,a',w',⟨rfl,E',hk,h1,h2⟩,harr⟩:=wpIn_region_any (id:=id) Au hw b k cs rfl trivial (FX _ _)
 obtain ⟨h3,h4⟩:=EY (hi:=hi) h1 h2 f id
 exact ⟨a',w',E',hk,h3,h4,StepsIn.steps harr⟩
end
open Go.RowKit
section
variable {P:Program} {T:dn} {lo:Lo} {hi:Hint} {N:Nat} {aw:Nat→Prop} {w0:Kp} {sp:List (D×Value)} {s:VS} {a:Act} {w:World} {E:Env} {f:FuncId} {ro:Option Nat}
def gY (E:Env) (b:Frame):Option Nat→Prop
 | none=>b.roundOf=none
 | some r=>∃ l sz,b.roundOf=some l∧a7 E r l sz
theorem gY.mono {E E':Env} {b:Frame} (hE:Env.le E E'):∀ {ro:Option Nat},gY E b ro→gY E' b ro
 | none,h=>h
 | some r,⟨l,sz,h1,h2⟩=>⟨l,sz,h1,hE.at_ h2⟩
def rT:Option Code→List Item→Prop
 | none,todo=>todo=[]
 | some c,todo=>(∃ k,c=.ret∧todo=.code .ret::k)∨(∃ id k,c=.exit id∧todo=.code (.exit id)::k∧exitTo id k=none)
theorem R.loop (h:R T N aw w0 sp s a w E) {r M:Nat} {g:FuncId} {sl:aG} {ps:List Tmp} {as bd:Code} {st:LoopState} {fe:Option Code} (hr:s.rs[r]?=some (.loop g M sl ps as bd st fe)) :
  ∃ b hd sz db tm,E[r]?=some (some b,hd,sz)∧w.heap[b]?=some (.loop { state:=st,pending:=fe,fn:=g,tmps:=tm,params:=ps.toArray,assign:=as,body:=bd,defers:=db })∧tm.size=M∧gu E (AV aw s.rs E) w M sl tm∧bA sl:=by
 have dp:r<E.length:=by rw [h.len]; exact (List.getElem?_eq_some_iff.1 hr).1
 have hE:=gj dp
 obtain ⟨b,db,tm,q1,q2,q3,q4,q5⟩:=h.roots r _ _ hr hE
 generalize E[r]=e at hE q1
 obtain ⟨e1,e2,e3⟩:=e
 have q1:e1=some b:=q1
 subst q1
 exact ⟨b,e2,e3,db,tm,hE,q2,q3,q4,q5⟩
theorem R.pP (h:R T N aw w0 sp s a w E) {r M b sz:Nat} {hd:Hd} {g:FuncId} {sl:aG} {ps:List Tmp} {as bd:Code} {st:LoopState} {fe:Option Code} (hr:s.rs[r]?=some (.loop g M sl ps as bd st fe)) {db:Nat} {tm:Array Value}
  (hE:E[r]?=some (some b,hd,sz)) (hw:w.heap[b]?=some (.loop { state:=st,pending:=fe,fn:=g,tmps:=tm,params:=ps.toArray,assign:=as,body:=bd,defers:=db })) (hM:tm.size=M) (FO:gu E (AV aw s.rs E) w M sl tm) (hn:bA sl) (Uf:LoopState) (Qd:Option Code) :
  R T N aw w0 sp { s with rs:=setAt s.rs r (.loop g M sl ps as bd Uf Qd) } a (w.putObj b (.loop { state:=Uf,pending:=Qd,fn:=g,tmps:=tm,params:=ps.toArray,assign:=as,body:=bd,defers:=db })) E:=by
 have dp:b<w.heap.size:=(Array.getElem?_eq_some_iff.1 hw).1
 rw [bm]
 refine h.turn hr trivial hE (by simp) (fun k hk=>World.putObj_heap_other hk) ⟨rfl,rfl,rfl⟩ ⟨b,db,tm,rfl,World.putObj_heap_same dp,hM,?_,hn⟩
 refine FO.mono (Env.le_refl E) ⟨by simp,fun k hk eY=>World.putObj_heap_other fun e=>?_⟩ (fun _ _ q=>q)
 subst e
 exact eY (.inr ⟨r,_,sz,hr,trivial,a7.own ⟨hd,hE⟩⟩)
theorem R.kill (h:R T N aw w0 sp s a w E) {r b sz:Nat} {hd:Hd} {x:ae} (hr:s.rs[r]?=some x) (hx:x.live) (hE:E[r]?=some (some b,hd,sz)) (o:Obj):R T N aw w0 sp { s with rs:=setAt s.rs r .dead } a (w.putObj b o) E:=by
 rw [bm]
 exact h.turn hr hx hE (by simp) (fun k hk=>World.putObj_heap_other hk) ⟨rfl,rfl,rfl⟩ trivial
theorem AE (h:R T N aw w0 sp s a w E) {b:Frame} (hb:gY E b ro) {s':VS} (e:rB ro s=some s') {k:List Item} {cs:List Frame} :
  ∃ w',R T N aw w0 sp s' a w' E∧s'.sl=s.sl∧Steps P (lone (b.atR a (.beginRound::k)) cs w) (lone (b.atR a k) cs w'):=by
 unfold rB at e
 split at e
 case h_2=>simp at e
 rename_i r
 split at e
 case h_2=>simp at e
 rename_i g M sl ps as bd hr
 simp only [ak] at e
 subst e
 rw [bQ] at hr
 obtain ⟨l,hd,sz,db,tm,h1,h2,h3,h4,h5⟩:=h.loop hr
 obtain ⟨l',cj,h6,nW,h7⟩:=hb
 rw [h1] at h7
 simp only [ak,a8] at h7
 obtain ⟨rfl,rfl,rfl⟩:=h7
 exact ⟨_,h.pP hr h1 h2 h3 h4 h5 .busy none,rfl,.one (stepR_beginRound h6 (run_beginRound h2 rfl))⟩
theorem A7 (h:R T N aw w0 sp s a w E) (hn:bA s.sl) (g:FuncId) (ps:List Tmp) (as bd:Code) :
  R T N aw w0 sp { s with rs:=s.rs++[.l7,.loop g N s.sl ps as bd .ready none],df:=s.rs.length::s.df } { a with defers:=[{ target:=.collected w.heap.size,args := #[] }]++a.defers }
   ((w.alloc (.deferred (some []))).alloc (.loop { state:=.ready,pending:=none,fn:=g,tmps:=a.tmps,params:=ps.toArray,assign:=as,body:=bd,defers:=w.heap.size }))
   ((E++[(some w.heap.size,kF,1)])++[(some (w.heap.size+1),kF,1)])∧a7 ((E++[(some w.heap.size,kF,1)])++[(some (w.heap.size+1),kF,1)]) (s.rs.length+1) (w.heap.size+1) 1:=by
 let w1:=w.alloc (.deferred (some []))
 have hs1:w1.heap.size=w.heap.size+1:=World.size_alloc ..
 have hold1:∀ b,b<w.heap.size→w1.heap[b]?=w.heap[b]?:=fun b hb=>(gU w _).block b hb
 have h1:=h.new (x:=.l7) (e:=(some w.heap.size,kF,1)) (w':=w1) hs1 hold1 (gU w _) rfl ⟨w.heap.size,rfl,World.alloc_heap_new w _⟩
 let o:=Obj.loop { state:=.ready,pending:=none,fn:=g,tmps:=a.tmps,params:=ps.toArray,assign:=as,body:=bd,defers:=w.heap.size }
 let w2:=w1.alloc o
 have hs2:w2.heap.size=w1.heap.size+1:=World.size_alloc ..
 have hold2:∀ b,b<w1.heap.size→w2.heap[b]?=w1.heap[b]?:=fun b hb=>(gU w1 _).block b hb
 have hlen1:(E++[(some w.heap.size,kF,1)]).length=(s.rs++[ae.l7]).length:=h1.len
 have h2:=h1.new (x:=.loop g N s.sl ps as bd .ready none) (e:=(some w1.heap.size,kF,1)) (w':=w2) hs2 hold2 (gU w1 _) rfl ⟨w1.heap.size,w.heap.size,a.tmps,rfl,World.alloc_heap_new w1 _,h.size,by
  have FO:gu (E++[(some w.heap.size,kF,1)]) (AV aw (s.rs++[ae.l7]) (E++[(some w.heap.size,kF,1)])) w1 N s.sl a.tmps:=h1.slots
  refine FO.mono (Env.eo _ _) ⟨by omega,fun b hb _=>hold2 b hb⟩ ?_
  exact h1.Sb,hn⟩
 have e1:s.rs++[ae.l7,.loop g N s.sl ps as bd .ready none]=(s.rs++[ae.l7])++[.loop g N s.sl ps as bd .ready none]:=by simp
 have hw1:w1.heap.size=w.heap.size+1:=hs1
 have ir:∀ F:Env,a7 ((E++[(some w.heap.size,kF,1)])++F) s.rs.length w.heap.size 1:=fun F=>by
  refine ⟨kF,?_⟩
  rw [List.append_assoc,gG (by rw [h.len]; exact bf _)]
  simp [h.len]
 rw [hw1] at h2
 refine ⟨?_,⟨kF,?_⟩⟩
 ·rw [e1]
  exact ⟨h2.size,.cons ⟨w.heap.size,1,ir _,rfl⟩ h2.defers,h2.spec,h2.below,h2.len,h2.outer,h2.roots,h2.cT,h2.eP,h2.slots,h2.fL⟩
 ·rw [gG (by rw [hlen1]; simp)]
  simp [h.len]
theorem we {g:Operand} {l:Nat} {ρ:Operand→Value} {SD:FuncId} {cs:Array Value} (hg:ρ g=.func (.func SD) #[] cs) (hv:ρ (.const (.func (.yield l) #[] #[]))=.func (.yield l) #[] #[]) (he:Enters P SD) (w:World) :
  ∃ d,(resolve ρ (rangeCall g l) 0).run P w=.ok d w∧(invoke d.target d.args).run P w=.ok (.enter SD (#[.func (.yield l) #[] #[]]++cs)) w:=by
 refine ⟨_,by simp [resolve,hg,Deferred.ofValue,Sem.run_pure]; rfl,?_⟩
 simp only [invoke]
 have:=xu he (#[.func (.yield l) #[] #[]]++cs) w
 simpa [hv] using this
end
open Go.RowKit
section
variable {P:Program} {T:dn} {lo:Lo} {hi:Hint} {N:Nat} {aw:Nat→Prop} {w0:Kp} {sp:List (D×Value)} {s:VS} {a:Act} {w:World} {E:Env} {f:FuncId} {ro:Option Nat}
theorem Aw (hl:gm T P lo) (h:R T N aw w0 sp s a w E) (hn:bA s.sl) {b:Frame} (DQ:b.fn=f) (Fy:gY E b ro) {g:Operand} {ps:Array Tmp} {as bd:Code} {j:Option Code} {s':VS} (e:mM lo N f ro g ps.toList as bd s=some (j,s')) {k:List Item} {cs:List Frame} :
  ∃ a' w' E',Kept E E'∧R T N aw w0 sp s' a' w' E'∧s'.sl=s.sl∧Steps P (lone (b.atR a (.code (.rangeFunc g ps as bd)::k)) cs w) (lone (b.atR a' (xr j k)) cs w'):=by
 unfold mM at e
 split at e
 ·simp at e
 split at e
 case h_2=>simp at e
 rename_i c hc
 split at e
 case h_2=>simp at e
 rename_i hf dR tD
 split at e
 case h_2=>simp at e
 rename_i d0 aE ss
 have hbr:b.roundOf=none:=Fy
 obtain ⟨h2,ir⟩:=A7 h hn f ps.toList as bd
 generalize hE2:((E++[(some w.heap.size,kF,1)])++[(some (w.heap.size+1),kF,1)]:Env)=E2 at h2 ir
 generalize hw2:((w.alloc (.deferred (some []))).alloc (.loop { state:=.ready,pending:=none,fn:=f,tmps:=a.tmps,params:=ps.toList.toArray,assign:=as,body:=bd,defers:=w.heap.size }))=w2 at h2
 have hkE:Kept E E2:=by
  subst hE2
  refine ⟨(Env.eo _ _).trans (Env.eo _ _),fun q hq=>?_⟩
  have dp:=(List.getElem?_eq_some_iff.1 hq).1
  rw [dQ (by simp; omega),dQ dp]
  exact hq
 have hev:=h2.bO hn (bL hc)
 obtain ⟨cv,hfv,hcv⟩:=sB h2 tD hev
 obtain ⟨Nh,hcon⟩:=hl.call _ _ _ _ _ ss
 have hfv':a.eval g=.func (.func hf) #[] cv:=hfv
 obtain ⟨dd,vX,hinv⟩:=we (l:=w.heap.size+1) (ρ:=a.eval) hfv' rfl Nh w2
 have henter:(Instr.enterLoop b.fn a.tmps ps as bd b.roundOf).run P w=.ok (w.heap.size+1,[{ target:=.collected w.heap.size,args := #[] }]) w2:=by
  rw [hbr,DQ,← hw2]
  exact run_enterLoop_outer _ _ _ _ _
 have hstep:=stepR_rangeFunc (k:=k) (cs:=cs) henter vX hinv
 have oh:az (aJ E2 (AV aw (s.rs++[ae.l7,.loop f N s.sl ps.toList as bd .ready Option.none]) E2) w2) (.c (.yl (s.rs.length+1))::dR) (.func (.yield (w.heap.size+1)) #[] #[]::cv.toList):=
  .cons ⟨_,_,ir,rfl⟩ hcv
 have sP:((Value.func (.yield (w.heap.size+1)) #[] #[]::cv.toList:List Value)).toArray = #[.func (.yield (w.heap.size+1)) #[] #[]]++cv:=by
  apply Array.ext'; simp
 obtain ⟨en,w3,fr,⟨v,E3,rfl,hk3,hR3,_⟩,hcomes,hfr,hleave⟩:=hcon N aw w0 sp s.sl (s.rs.length::s.df) _ w2 E2 _ h2 oh (b.atR { a with defers:=[{ target:=.collected w.heap.size,args := #[] }]++a.defers } (.inRangeFunc (w.heap.size+1)::k)::cs)
 rw [sP] at hcomes
 have hsteps:Steps P (lone (b.atR a (.code (.rangeFunc g ps as bd)::k)) cs w) (lone (b.atR { a with defers:=[{ target:=.collected w.heap.size,args := #[] }]++a.defers } (.endRangeFunc (w.heap.size+1)::k)) cs w3):=by
  refine (Steps.one hstep).trans (Steps.trans hcomes (.one ?_))
  rw [← finish_atR_inRangeFunc (w.heap.size+1) v]
  exact step_leave_returned hleave
 have fin:∀ (st:LoopState) (fe:Option Code) (g':FuncId) (M:Nat) (fC:aG) (NF:List Tmp) (M7 Nl:Code),st ≠ .busy→aY aE (s.rs.length+1)=some (.loop g' M fC NF M7 Nl st fe)→
   ∃ a' w' E',Kept E E'∧R T N aw w0 sp { s with rs:=setAt aE (s.rs.length+1) .dead,df:=s.rs.length::s.df } a' w' E'∧Steps P (lone (b.atR a (.code (.rangeFunc g ps as bd)::k)) cs w) (lone (b.atR a' (xr fe k)) cs w'):=by
  intro st fe g' M fC NF M7 Nl mg hr
  rw [bQ] at hr
  obtain ⟨l,hd,sz,db,tm,h1,h3,h4,h5,h6⟩:=hR3.loop hr
  obtain ⟨nW,h7⟩:=hk3.le.at_ ir
  rw [h1] at h7
  simp only [ak,a8] at h7
  obtain ⟨rfl,rfl,rfl⟩:=h7
  refine ⟨_,_,E3,hkE.trans hk3,hR3.kill hr trivial h1 (.loop { state:=.exhausted,pending:=fe,fn:=g',tmps:=tm,params:=NF.toArray,assign:=M7,body:=Nl,defers:=db }),hsteps.trans (.one ?_)⟩
  have:=stepR_endRangeFunc (P:=P) (b:=b) (a:={ a with defers:=[{ target:=.collected w.heap.size,args := #[] }]++a.defers }) (k:=k) (cs:=cs) (run_endLoop h3 mg)
  rw [this]
  cases fe<;>rfl
 split at e
 ·rename_i hr
  simp only [ak,a8] at e
  obtain ⟨rfl,rfl⟩:=e
  obtain ⟨a',w',E',q1,q2,q3⟩:=fin _ _ _ _ _ _ _ _ (by simp) hr
  exact ⟨a',w',E',q1,q2,rfl,q3⟩
 ·rename_i c' hr
  simp only [ak,a8] at e
  obtain ⟨rfl,rfl⟩:=e
  obtain ⟨a',w',E',q1,q2,q3⟩:=fin _ _ _ _ _ _ _ _ (by simp) hr
  exact ⟨a',w',E',q1,q2,rfl,q3⟩
 ·simp at e
theorem pq (bz:dk P T) (hl:gm T P lo) (Au:P.follows .mixedOrders=true) {b:Frame} (DQ:b.fn=f) {cs:List Frame} {j:Option Code} {s':VS} :
  ∀ (n:Nat) {todo:List Item} {s:VS} {a:Act} {w:World} {E:Env},v8 T lo hi N f ro n todo s=some (j,s')→R T N aw w0 sp s a w E→bA s.sl→gY E b ro→
   ∃ a' w' E' cS,Kept E E'∧R T N aw w0 sp s' a' w' E'∧bA s'.sl∧rT j cS∧Steps P (lone (b.atR a todo) cs w) (lone (b.atR a' cS) cs w')
 | 0,todo,s,a,w,E,e,h,hn,Fy=>by
   have e:(none:Option (Option Code×VS))=some (j,s'):=e
   simp at e
 | n+1,todo,s,a,w,E,e,h,hn,Fy=>by
   have go:∀ {fi:List Item} {s1:VS} {a1:Act} {w1:World} {E1:Env},v8 T lo hi N f ro n fi s1=some (j,s')→Kept E E1→R T N aw w0 sp s1 a1 w1 E1→bA s1.sl→Steps P (lone (b.atR a todo) cs w) (lone (b.atR a1 fi) cs w1)→
     ∃ a' w' E' cS,Kept E E'∧R T N aw w0 sp s' a' w' E'∧bA s'.sl∧rT j cS∧Steps P (lone (b.atR a todo) cs w) (lone (b.atR a' cS) cs w'):=by
    intro fi s1 a1 w1 E1 e1 hk h1 QB mg
    obtain ⟨a',w',E',cS,q1,q2,q3,q4,q5⟩:=pq bz hl Au DQ n e1 h1 QB (Fy.mono hk.le)
    exact ⟨a',w',E',cS,hk.trans q1,q2,q3,q4,mg.trans q5⟩
   have stop:∀ {fi:List Item} {c:Option Code},some (c,s)=some (j,s')→rT c todo→∃ a' w' E' cS,Kept E E'∧R T N aw w0 sp s' a' w' E'∧bA s'.sl∧rT j cS∧Steps P (lone (b.atR a todo) cs w) (lone (b.atR a' cS) cs w'):=by
    intro fi c e1 he
    simp only [ak,a8] at e1
    obtain ⟨rfl,rfl⟩:=e1
    exact ⟨a,w,E,todo,Kept.refl E,h,hn,he,Steps.refl _ _⟩
   cases todo with
   | nil=>exact stop (fi:=[]) e rfl
   | cons x k=>
     cases x with
     | inBlock id=>exact go (fi:=k) (s1:=s) e (Kept.refl E) h hn (.one stepR_inBlock)
     | inLoop c=>exact go (fi:=.code c::.inLoop c::k) (s1:=s) e (Kept.refl E) h hn (.one stepR_inLoop)
     | beginRound=>
       have e:(match rB ro s with
        | some s'=>v8 T lo hi N f ro n k s'
        | none=>none)=some (j,s'):=e
       split at e
       case h_2=>simp at e
       rename_i s1 hs1
       obtain ⟨w',h1,h2,h3⟩:=AE h Fy hs1
       exact go e (Kept.refl E) h1 (by rw [h2]; exact hn) h3
     | code c=>
       cases c with
       | skip=>exact go (fi:=k) (s1:=s) e (Kept.refl E) h hn (.one stepR_skip)
       | label l=>exact go (fi:=k) (s1:=s) e (Kept.refl E) h hn (.one stepR_label)
       | ret=>exact stop (fi:=[]) (c:=some .ret) e (.inl ⟨k,rfl,rfl⟩)
       | seq x y=>exact go (fi:=.code x::.code y::k) (s1:=s) e (Kept.refl E) h hn (.one stepR_seq)
       | cond c x y=>
         have e:(match iz (bO s.sl c) with
          | some p=>v8 T lo hi N f ro n (.code (Bool.rec y x p)::k) s
          | none=>none)=some (j,s'):=e
         split at e
         case h_2=>simp at e
         rename_i p hp
         have hv:a.eval c=.bool p:=(h.bO hn (eu hp)).1
         refine go e (Kept.refl E) h hn ?_
         have:=Steps.one (stepR_cond (P:=P) (b:=b) (k:=k) (cs:=cs) (w:=w) (x:=x) (y:=y) hv)
         cases p<;>exact this
       | block id c=>exact go (fi:=.code c::.inBlock id::k) (s1:=s) e (Kept.refl E) h hn (.one stepR_block)
       | loop c=>exact go (fi:=.code c::.inLoop c::k) (s1:=s) e (Kept.refl E) h hn (.one stepR_loop)
       | exit id=>
         have e:(match exitTo id k with
          | some k'=>v8 T lo hi N f ro n k' s
          | none=>some (some (.exit id),s))=some (j,s'):=e
         split at e
         ·rename_i k' jN
          exact go e (Kept.refl E) h hn (.one (stepR_exit jN))
         ·rename_i jN
          exact stop (fi:=[]) e (.inr ⟨id,k,rfl,rfl,jN⟩)
       | region id ops draw=>
         have e0:(match regionF T lo hi N f ro id ops.toList draw s with
          | some s'=>v8 T lo hi N f ro n k s'
          | none=>none)=some (j,s'):=e
         clear e
         cases hs1:regionF T lo hi N f ro id ops.toList draw s with
         | none=>rw [hs1] at e0; simp at e0
         | some s1=>
         rw [hs1] at e0
         have e:v8 T lo hi N f ro n k s1=some (j,s'):=e0
         clear e0
         cases draw with
         | false=>
           obtain ⟨a',w',E',q1,q2,q3,q4⟩:=vI (b:=b) (k:=k) (cs:=cs) bz hl h hn hs1
           exact go e q1 q2 q3 q4
         | true=>
           obtain ⟨a',w',E',q1,q2,q3,q4⟩:=AA (b:=b) (k:=k) (cs:=cs) bz hl Au h hn hs1
           exact go e q1 q2 q3 q4
       | rangeFunc g ps as bd=>
         have e:(match mM lo N f ro g ps.toList as bd s with
          | some (j,s')=>v8 T lo hi N f ro n (xr j k) s'
          | none=>none)=some (j,s'):=e
         split at e
         case h_2=>simp at e
         rename_i j1 s1 hs1
         obtain ⟨a',w',E',q1,q2,q3,q4⟩:=Aw (k:=k) (cs:=cs) hl h hn DQ Fy hs1
         exact go e q1 q2 (by rw [q3]; exact hn) q4
       | _=>
         have e:(none:Option (Option Code×VS))=some (j,s'):=e
         simp at e
     | _=>
       have e:(none:Option (Option Code×VS))=some (j,s'):=e
       simp at e
end
open Go.RowKit
section
variable {P:Program} {T:dn} {lo:Lo} {hi:Hint} {N:Nat} {aw:Nat→Prop} {w0:Kp} {sp:List (D×Value)} {s:VS} {a:Act} {w:World} {E:Env} {f:FuncId} {ro:Option Nat}
def JK (E:Env) (av:Nat→Prop) (w:World) (x:Bool×List C) (y:Value):Prop:=match x with
 | (true,l)=>∃ cs:Array Value,y=.agg cs∧az (aU E av w) l cs.toList
 | (false,l)=>∃ c,l=[c]∧aU E av w c y
def oK (tmps:Array Value):ResultVar→Sem Value
 | .tmp t=>pure (tmps.getD t undef)
 | .cell a t=>do loadVar t (← asAddr (tmps.getD a undef))
theorem yR (bz:dk P T) (h:R T N aw w0 sp s a w E) {x:ResultVar} {p:Option Prop} {q:Bool×List C} (e:pL T s x=some (p,q)) (hp:need p) :
  ∃ v,(oK a.tmps x).run P w=.ok v w∧JK E (AV aw s.rs E) w q v:=by
 have nil:bt a []:=fun p hp=>by cases hp
 cases x with
 | tmp t=>
   simp only [pL] at e
   split at e
   ·rename_i x hx
    have hx:=h.ev nil hx
    simp only [ak,a8] at e
    obtain ⟨rfl,rfl⟩:=e
    exact ⟨_,rfl,x,rfl,hx⟩
   ·rename_i l hx
    obtain ⟨cs,hv,hl⟩:=h.ev nil hx
    simp only [ak,a8] at e
    obtain ⟨rfl,rfl⟩:=e
    exact ⟨_,rfl,cs,hv,hl⟩
   ·simp at e
 | cell ad t=>
   simp only [pL] at e
   have run:∀ v,(Instr.loadAt t (a.eval (.tmp ad))).run P w=.ok v w→(oK a.tmps (.cell ad t)).run P w=.ok v w:=by
    intro v hv
    have he:a.eval (.tmp ad)=a.tmps.getD ad undef:=rfl
    rw [he] at hv
    unfold oK
    cases hu:a.tmps.getD ad undef<;>rw [hu] at hv<;>simp [Instr.loadAt,Instr.sureAddr,stuck] at hv
    rename_i oa
    cases oa with
    | none=>simp at hv
    | some x=>
      simp only [hu,asAddr,Sem.run_bind]
      exact hv
   split at e
   ·rename_i p' x hx
    simp only [ak,a8] at e
    obtain ⟨rfl,rfl⟩:=e
    obtain ⟨v,h1,h2⟩:=oH bz h nil hx hp
    exact ⟨v,run v (h1 w (Below.refl _ _)),x,rfl,h2⟩
   ·rename_i p' l hx
    simp only [ak,a8] at e
    obtain ⟨rfl,rfl⟩:=e
    obtain ⟨v,h1,cs,h2,h3⟩:=oH bz h nil hx hp
    exact ⟨v,run v (h1 w (Below.refl _ _)),cs,h2,h3⟩
   ·simp at e
theorem jy (bz:dk P T) (h:R T N aw w0 sp s a w E):∀ {rs:List ResultVar} {p:Option Prop} {l:List (Bool×List C)},oW T s rs=some (p,l)→need p→
  ∃ vs,(rs.mapM (oK a.tmps)).run P w=.ok vs w∧az (JK E (AV aw s.rs E) w) l vs
 | [],p,l,e,hp=>by
   simp only [oW,ak,a8] at e
   obtain ⟨rfl,rfl⟩:=e
   exact ⟨[],rfl,.nil⟩
 | x::rs,p,l,e,hp=>by
   simp only [oW] at e
   split at e
   ·rename_i p1 q p2 l' h1 h2
    simp only [ak,a8] at e
    obtain ⟨rfl,rfl⟩:=e
    have hp':need p1∧need p2:=by
     cases p1<;>cases p2<;>simp_all [Ff,need]
    obtain ⟨v,h3,h4⟩:=yR bz h h1 hp'.1
    obtain ⟨vs,h5,h6⟩:=jy bz h h2 hp'.2
    refine ⟨v::vs,?_,.cons h4 h6⟩
    rw [List.mapM_cons]
    simp only [Sem.run_bind,h3,Result.andThen_ok,h5,Sem.run_pure]
   ·simp at e
theorem kH (bz:dk P T) (h:R T N aw w0 sp s a w E) {fn:Func} {p:Option Prop} {d:D} (e:Pd T s fn.results.toList=some (p,d)) (hp:need p) :
  ∃ v,(results fn a.tmps).run P w=.ok v w∧aJ E (AV aw s.rs E) w d v:=by
 have run:∀ vs,(fn.results.toList.mapM (oK a.tmps)).run P w=.ok vs w→(results fn a.tmps).run P w=.ok (if h:vs.toArray.size=1 then vs.toArray[0] else .tuple vs.toArray) w:=by
  intro vs sP
  have hm:(fn.results.mapM (oK a.tmps)).run P w=.ok vs.toArray w:=by
   have hgs:fn.results=fn.results.toList.toArray:=rfl
   rw [hgs,List.mapM_toArray]
   simp only [Sem.run_map,sP,Result.andThen_ok]
  show ((do let vs ← fn.results.mapM (oK a.tmps); pure (if h:vs.size=1 then vs[0] else .tuple vs)):Sem Value).run P w=_
  rw [Sem.run_bind,hm]
  rfl
 unfold Pd at e
 split at e
 ·rename_i p' x hx
  simp only [ak,a8] at e
  obtain ⟨rfl,rfl⟩:=e
  obtain ⟨vs,h1,h2⟩:=jy bz h hx hp
  cases h2 with
  | cons q1 q2=>
    cases q2
    obtain ⟨c,hc,q⟩:=q1
    simp only [List.cons.injEq,and_true] at hc
    subst hc
    exact ⟨_,run _ h1,q⟩
 ·rename_i p' l hx
  simp only [ak,a8] at e
  obtain ⟨rfl,rfl⟩:=e
  obtain ⟨vs,h1,h2⟩:=jy bz h hx hp
  cases h2 with
  | cons q1 q2=>cases q2; exact ⟨_,run _ h1,q1⟩
 ·rename_i p' l hne1 hne2 hx
  simp only [ak,a8] at e
  obtain ⟨rfl,rfl⟩:=e
  obtain ⟨vs,h1,h2⟩:=jy bz h hx hp
  refine ⟨_,run vs h1,?_⟩
  have hlen:vs.length≠1:=by
   intro hl
   have:=h2.length
   rw [hl] at this
   match l,this with
   | [(true,l)],_=>exact hne2 _ rfl
   | [(false,k)],_=>
     cases h2 with
     | cons q1 q2=>
       obtain ⟨c,hc,_⟩:=q1
       exact hne1 _ (by rw [hc])
  rw [dif_neg (by simpa using hlen)]
  exact ⟨_,rfl,h2⟩
 ·simp at e
theorem kv:∀ {ds:List D} {k t:Nat} {d:D} {c:eE},look (cH k ds) t=some (d,c)→c=[]∧k≤t∧ds[t-k]?=some d
 | [],k,t,d,c,h=>by simp [cH,look] at h
 | x::ds,k,t,d,c,h=>by
   simp only [cH,look] at h
   split at h
   ·rename_i he
    have he:=bs he
    simp only [ak,a8] at h
    obtain ⟨rfl,rfl⟩:=h
    subst he
    exact ⟨rfl,bf _,by simp⟩
   ·obtain ⟨h1,h2,h3⟩:=kv h
    refine ⟨h1,by omega,?_⟩
    rw [show t-k=(t-(k+1))+1 by omega]
    simpa using h3
theorem jv:∀ {ds:List D} {k:Nat},bA (cH k ds)
 | [],k,x,hx=>by simp [cH] at hx
 | d::ds,k,x,hx=>by
   simp only [cH] at hx
   rcases List.mem_cons.1 hx with rfl|hx
   ·rfl
   ·exact jv x hx
theorem Bc (hn:bA s.sl) {x:ResultVar} {q:Bool×List C} (e:s8 T s x=some q):∃ p,pL T s x=some (p,q)∧need p:=by
 unfold s8 at e
 cases x with
 | tmp t=>
   simp only at e
   simp only [pL]
   split at e
   ·rename_i c hc
    have:s.ev [] (.tmp t)=some (.c c):=dm (x:=.tmp t) hn hc
    rw [this]
    simp only [ak] at e
    subst e; exact ⟨_,rfl,trivial⟩
   ·rename_i l hc
    have:s.ev [] (.tmp t)=some (.a l):=dm (x:=.tmp t) hn hc
    rw [this]
    simp only [ak] at e
    subst e; exact ⟨_,rfl,trivial⟩
   ·simp at e
 | cell ad t=>
   simp only at e
   simp only [pL]
   split at e
   ·rename_i c hc
    obtain ⟨p,h1,h2⟩:=pJ hn hc
    rw [h1]
    simp only [ak] at e
    subst e; exact ⟨p,rfl,h2⟩
   ·rename_i l hc
    obtain ⟨p,h1,h2⟩:=pJ hn hc
    rw [h1]
    simp only [ak] at e
    subst e; exact ⟨p,rfl,h2⟩
   ·simp at e
theorem kq (hn:bA s.sl):∀ {l:List ResultVar} {q:List (Bool×List C)},zY T s l=some q→∃ p,oW T s l=some (p,q)∧need p
 | [],q,e=>by
   have e:some []=some q:=e
   simp only [ak] at e
   subst e; exact ⟨_,rfl,trivial⟩
 | x::l,q,e=>by
   have e:(match s8 T s x,zY T s l with
    | some q,some l=>some (q::l)
    | _,_=>none)=some q:=e
   split at e
   case h_2=>simp at e
   rename_i h1 h2
   simp only [ak] at e
   subst e
   obtain ⟨p1,k1,k2⟩:=Bc hn h1
   obtain ⟨p2,k3,k4⟩:=kq hn h2
   refine ⟨Ff p1 p2,by simp only [oW,k1,k3],?_⟩
   cases p1<;>cases p2<;>simp_all [Ff,need]
theorem Ex (hn:bA s.sl) {l:List ResultVar} {d:D} (e:Rs T s l=some d):∃ p,Pd T s l=some (p,d)∧need p:=by
 unfold Rs at e
 unfold Pd
 split at e
 ·rename_i h1
  obtain ⟨p,k1,k2⟩:=kq hn h1
  rw [k1]
  simp only [ak] at e
  subst e; exact ⟨p,rfl,k2⟩
 ·rename_i h1
  obtain ⟨p,k1,k2⟩:=kq hn h1
  rw [k1]
  simp only [ak] at e
  subst e; exact ⟨p,rfl,k2⟩
 ·rename_i l' h1 h2 h3
  obtain ⟨p,k1,k2⟩:=kq hn h3
  rw [k1]
  simp only [ak] at e
  subst e
  refine ⟨p,?_,k2⟩
  split
  ·rename_i h4; simp only [ak,a8] at h4; exact (h1 _ h4.2).elim
  ·rename_i h4; simp only [ak,a8] at h4; exact (h2 _ h4.2).elim
  ·rename_i h4; simp only [ak,a8] at h4; obtain ⟨rfl,rfl⟩:=h4; rfl
  ·rename_i h4; simp at h4
 ·simp at e
open Classical in
def ma (sl:aG) (a:Act):List (D×Value):=sl.filterMap fun x=>if look sl x.1=some x.2∧bt a x.2.2 then some (x.2.1,a.tmps.getD x.1 undef) else none
theorem BL:∀ {sl:aG} {t:Tmp} {x:D×eE},look sl t=some x→(t,x)∈sl
 | [],t,x,h=>by simp [look] at h
 | (k,d,c)::sl,t,x,h=>by
   simp only [look] at h
   split at h
   ·rename_i hb
    simp only [ak] at h
    rw [← bs hb,← h]
    exact dZ ..
   ·exact er _ (BL h)
theorem Ky {sl:aG} {t:Tmp} {d:D} {c:eE} (hl:look sl t=some (d,c)) (hc:bt a c):(d,a.tmps.getD t undef)∈ma sl a:=by
 unfold ma
 rw [List.mem_filterMap]
 refine ⟨(t,d,c),BL hl,?_⟩
 rw [if_pos ⟨hl,hc⟩]
theorem MB (h:R T N aw w0 sp s a w E):∀ x∈ma s.sl a,aJ E (AV aw s.rs E) w x.1 x.2:=by
 intro x hx
 unfold ma at hx
 rw [List.mem_filterMap] at hx
 obtain ⟨⟨t,d,c⟩,h1,h2⟩:=hx
 split at h2
 ·rename_i h3
  simp only [ak] at h2
  subst h2
  exact (h.slots t d c h3.1).2.1 h3.2
 ·simp at h2
theorem R.xW {sl:aG} {rs:List ae} {df:List Nat} (h:R T N aw w0 sp ⟨sl,rs,df⟩ a w E) {M:Nat} {Ft:aG} {tm:Array Value} (hM:tm.size=M)
  (hs:gu E (AV aw rs E) w M Ft tm):R T M aw w0 (ma sl a++sp) ⟨Ft,rs,[]⟩ { tmps:=tm,defers:=[] } w E:=
 ⟨hM,.nil,fun x hx=>(List.mem_append.1 hx).elim (fun q=>MB h x q) (h.spec x),h.below,h.len,h.outer,h.roots,h.cT,h.eP,hs,h.fL⟩
theorem R.back {sl:aG} {rs:List ae} {df:List Nat} (h:R T N aw w0 sp ⟨sl,rs,df⟩ a w E) {M:Nat} {s':VS} {a':Act} {w':World} {E':Env} (h':R T M aw w0 (ma sl a++sp) s' a' w' E') (hE:Env.le E E') :
  R T N aw w0 sp ⟨sl,s'.rs,df⟩ a w' E' :=
 ⟨h.size,h.defers.mono fun _ _ ⟨b,sz,q,e⟩=>⟨b,sz,hE.at_ q,e⟩,fun x hx=>h'.spec x (List.mem_append_right _ hx),h'.below,h'.len,h'.outer,h'.roots,h'.cT,h'.eP,fun t d c hl=>
  ⟨(h.slots t d c hl).1,fun hc=>h'.spec _ (List.mem_append_left _ (Ky hl hc)),(h.slots t d c hl).2.2⟩,h'.fL⟩
theorem qo {cs:List Frame}:∀ (l:List Nat) {sl:aG} {rs fx:List ae} {a:Act} {w:World} {fr:Frame},MG l rs=some fx→R T N aw w0 sp ⟨sl,rs,l⟩ a w E→fr.mode=.returning→fr.defers=a.defers→
  ∃ w',R T N aw w0 sp ⟨sl,fx,[]⟩ { a with defers:=[] } w' E∧Steps P (lone fr cs w) (lone { fr with defers:=[] } cs w')
 | [],sl,rs,fx,a,w,fr,e,h,hm,hd=>by
   have e:some rs=some fx:=e
   simp only [ak] at e
   subst e
   have oZ:a.defers=[]:=by
    have:=h.defers
    generalize a.defers=l at this
    cases this; rfl
   have ha:({ a with defers:=[] }:Act)=a:=by rw [← oZ]
   have hf:({ fr with defers:=[] }:Frame)=fr:=by rw [← oZ,← hd]
   rw [ha,hf]
   exact ⟨w,h,Steps.refl _ _⟩
 | r::l,sl,rs,fx,a,w,fr,e,h,hm,hd=>by
   have e:(match aY rs r with
    | some .l7=>MG l (setAt rs r .dead)
    | _=>none)=some fx:=e
   split at e
   case h_2=>simp at e
   rename_i hr
   rw [bQ] at hr
   have Ie:=h.defers
   generalize hads:a.defers=ads at Ie
   cases Ie with
   | cons h1 h2=>
     rename_i d ds
     obtain ⟨b,sz,⟨nW,hE⟩,rfl⟩:=h1
     obtain ⟨b',h3,h4⟩:=h.roots r _ _ hr hE
     have h3:some b=some b':=h3
     simp only [ak] at h3
     subst h3
     have hk:=h.kill hr trivial hE (.deferred none)
     have hR:R T N aw w0 sp ⟨sl,setAt rs r .dead,l⟩ { a with defers:=ds } (w.putObj b (.deferred none)) E:=
      ⟨hk.size,h2,hk.spec,hk.below,hk.len,hk.outer,hk.roots,hk.cT,hk.eP,hk.slots,hk.fL⟩
     have mg:=step_collected (P:=P) (cs:=cs) (fr:=fr) (by rw [hm]; simp) (hd.trans hads) rfl (run_takeDeferred h4)
     obtain ⟨w',q1,q2⟩:=qo l (fr:={ fr with defers:=[]++ds }) e hR hm rfl
     exact ⟨w',q1,(Steps.one mg).trans q2⟩
def E8 (P:Program) (F:FuncId→Option Func):Prop:=∀ f fn,F f=some fn→P.funcs[f]?=some fn∧(fn.name == "runtime.NumGoroutine")=false
theorem AX (bz:dk P T) (Au:P.follows .mixedOrders=true) {F:FuncId→Option Func} (hF:E8 P F) (hl:gm T P lo) {fuel:Nat} {ds:List D} {rs aE:List ae} {d:D} (e:KD T hi F fuel lo f ds rs=some (d,aE)) :
  Enters P f∧∀ (N:Nat) (aw:Nat→Prop) (w0:Kp) (sp:List (D×Value)) (sl:aG) (df:List Nat) (a:Act) (w:World) (E:Env) (vs:List Value),R T N aw w0 sp ⟨sl,rs,df⟩ a w E→az (aJ E (AV aw rs E) w) ds vs→
  Go.Calls P f vs.toArray w fun e w'=>∃ v E',e=.returned v∧Kept E E'∧R T N aw w0 sp ⟨sl,aE,df⟩ a w' E'∧aJ E' (AV aw aE E') w' d v:=by
 unfold KD at e
 split at e
 case h_2=>simp at e
 rename_i fn Xx
 split at e
 case h_2=>simp at e
 rename_i c hc
 obtain ⟨hlen,e⟩:=Bool.aq e
 have hlen:=dL hlen
 split at e
 case h_2=>simp at e
 rename_i j s hrun
 obtain ⟨hret,e⟩:=Bool.aq e
 unfold JH at e
 split at e
 case h_2=>simp at e
 rename_i fx htake
 split at e
 case h_2=>simp at e
 rename_i d1 vX
 simp only [ak,a8] at e
 obtain ⟨rfl,rfl⟩:=e
 obtain ⟨hf,mR⟩:=hF f fn Xx
 refine ⟨⟨fn,hf,mR,by simp [hc]⟩,?_⟩
 intro N aw w0 sp sl df a w E vs h hv cs
 let b:Frame:={ (default:Frame) with fn:=f,kind:=.normal,roundOf:=none }
 let tm:=vs.toArray++Array.replicate (fn.ntmps-vs.toArray.size) undef
 have hvl:=hv.length
 have henter:Frame.enter P f vs.toArray .normal=b.atR { tmps:=tm,defers:=[] } [.code c]:=by
  simp [Frame.enter,Frame.atR,hf,hc,b,tm]
 have htm:tm.size=fn.ntmps:=by simp only [tm,Array.size_append,Array.size_replicate,List.size_toArray]; omega
 have hR:=h.xW (M:=fn.ntmps) (Ft:=cH 0 ds) (tm:=tm) htm (fun t d' c' hl=>by
  obtain ⟨rfl,_,h2⟩:=kv hl
  simp only [Nat.sub_zero] at h2
  have ht:t<ds.length:=(List.getElem?_eq_some_iff.1 h2).1
  obtain ⟨v,h3,h4⟩:=hv.nth (i:=t) (x:=d') (by rw [bc]; exact h2)
  refine ⟨Nat.lt_of_lt_of_le ht hlen,fun _=>?_,fun q=>(q fun p hp=>by cases hp).elim⟩
  have hg:tm.getD t undef=v:=by
   have htv:t<vs.length:=by rw [← hvl]; exact ht
   have:vs[t]?=some v:=h3
   simp only [tm]
   rw [Array.getD_eq_getD_getElem?,Array.getElem?_append_left (by simpa using htv)]
   simp [this]
  rw [hg]
  exact h4)
 obtain ⟨a',w1,E',cS,hk,rJ,sq,hend,hsteps⟩:=pq (hi:=hi) (ro:=none) (b:=b) (cs:=cs) bz hl Au rfl fuel hrun hR jv rfl
 have hback:Steps P (lone (b.atR a' cS) cs w1) (lone { b.atR a' cS with mode:=.returning } cs w1):=by
  cases j with
  | none=>
    have hend:cS=[]:=hend
    subst hend
    exact .one (stepR_end rfl)
  | some c' =>
    rcases hend with ⟨k,rfl,rfl⟩|⟨id,k,rfl,_,_⟩
    ·exact .one (stepR_ret rfl)
    ·simp [J1] at hret
 have hR'':R T fn.ntmps aw w0 (ma sl a++sp) ⟨s.sl,s.rs,s.df⟩ a' w1 E':=rJ
 obtain ⟨w2,hR2,hst2⟩:=qo (P:=P) (cs:=cs) s.df (fr:={ b.atR a' cS with mode:=.returning }) htake hR'' rfl rfl
 obtain ⟨pr,hpr1,hpr2⟩:=Ex (s:=⟨s.sl,fx,[]⟩) sq vX
 obtain ⟨v,hrv,hdv⟩:=kH bz hR2 hpr1 hpr2
 refine ⟨.returned v,w2,{ { b.atR a' cS with mode:=.returning } with defers:=[] },⟨v,E',rfl,hk,h.back hR2 hk.le,hdv⟩,?_,rfl,rfl,rfl,rfl,fn,hf,hrv⟩
 rw [henter]
 exact (hsteps.trans hback).trans hst2
theorem Cd (bz:dk P T) (Au:P.follows .mixedOrders=true) {F:FuncId→Option Func} (hF:E8 P F) {Kn:FuncId→Option D} (Ub:∀ f d,Kn f=some d→Enters P f∧Cp T P f [] d) (hl:gm T P lo) {fuel:Nat} {ds:List D} {rs aE:List ae} {d:D}
  (e:Mn T hi F Kn fuel lo f ds rs=some (d,aE)) :
  Enters P f∧∀ (N:Nat) (aw:Nat→Prop) (w0:Kp) (sp:List (D×Value)) (sl:aG) (df:List Nat) (a:Act) (w:World) (E:Env) (vs:List Value),R T N aw w0 sp ⟨sl,rs,df⟩ a w E→az (aJ E (AV aw rs E) w) ds vs→
  Go.Calls P f vs.toArray w fun e w'=>∃ v E',e=.returned v∧Kept E E'∧R T N aw w0 sp ⟨sl,aE,df⟩ a w' E'∧aJ E' (AV aw aE E') w' d v:=by
 unfold Mn at e
 split at e
 ·rename_i d0 hd0
  split at e
  case h_2=>simp at e
  simp only [ak,a8] at e
  obtain ⟨rfl,rfl⟩:=e
  obtain ⟨h1,h2⟩:=Ub f _ hd0
  refine ⟨h1,?_⟩
  intro N aw w0 sp sl df a w E vs h hv
  cases hv
  have avlt:∀ b,AV aw rs E b→b<w.heap.size:=by
   rintro b (q|⟨r,x,sz,q1,q2,q3⟩)
   ·exact h.iQ q
   ·exact (h.cT r x b sz q1 q2 q3).2
  refine (h2 (AV aw rs E) w [] avlt h.fL .nil).mono ?_
  rintro en w' ⟨v,rfl,hd,hb⟩
  exact ⟨v,E,rfl,Kept.refl E,h.grown hb,aJ.mono (fun r e q=>by simp at q) (aZ.refl _ w') (fun b _ q=>q) hd⟩
 ·exact AX bz Au hF hl e
theorem DK {rs:List ae} {Wr:Array Value→Array Value}:∀ {ps:List Tmp} {ds:List D} {vs:List Value} {sl fC:aG} {tm:Array Value},K8 N ps ds sl=some fC→R T N aw w0 sp ⟨sl,rs,[]⟩ { tmps:=tm,defers:=[] } w E→bA sl→
  az (aJ E (AV aw rs E) w) ds vs→ps.length=vs.length∧R T N aw w0 sp ⟨fC,rs,[]⟩ { tmps:=(ps.zip vs).foldl (fun tmps x=>tmps.setIfInBounds x.1 x.2) tm,defers:=[] } w E∧bA fC
 | [],[],vs,sl,fC,tm,e,h,hn,hv=>by
   have e:some sl=some fC:=e
   simp only [ak] at e
   subst e
   cases hv
   exact ⟨rfl,h,hn⟩
 | [],d::ds,vs,sl,fC,tm,e,h,hn,hv=>by
   have e:(none:Option aG)=some fC:=e
   simp at e
 | t::ps,[],vs,sl,fC,tm,e,h,hn,hv=>by
   have e:(none:Option aG)=some fC:=e
   simp at e
 | t::ps,d::ds,vs,sl,fC,tm,e,h,hn,hv=>by
   obtain ⟨ht,e⟩:=Bool.aq (show (Bool.rec none (K8 N ps ds ((t,d,[])::sl)) (Nat.blt t N):Option aG)=some fC from e)
   cases hv with
   | cons q k=>
     rename_i v vs
     have hp:oR N ⟨sl,rs,[]⟩ (some t) d=some ⟨(t,d,[])::sl,rs,[]⟩:=by
      unfold oR; simp only [ht]
     obtain ⟨h1,h2⟩:=o4 h hn hp q
     obtain ⟨h3,h4,h5⟩:=DK (Wr:=Wr) e h1 h2 k
     exact ⟨by simp [h3],h4,h5⟩
theorem EH (bz:dk P T) (Au:P.follows .mixedOrders=true) (hl:gm T P lo) {fuel r:Nat} {ds:List D} {rs aE:List ae} {d:D} (e:QY T hi fuel lo r ds rs=some (d,aE)) :
  ∀ (N:Nat) (aw:Nat→Prop) (w0:Kp) (sp:List (D×Value)) (sl:aG) (df:List Nat) (a:Act) (w:World) (E:Env) (vs:List Value),R T N aw w0 sp ⟨sl,rs,df⟩ a w E→az (aJ E (AV aw rs E) w) ds vs→
  ∃ b sz f tm as bd,a7 E r b sz∧(Instr.yield b vs.toArray).run P w=.ok (.round b f tm as bd) w∧
   vb P b f tm as bd w fun v w'=>∃ E',Kept E E'∧R T N aw w0 sp ⟨sl,aE,df⟩ a w' E'∧aJ E' (AV aw aE E') w' d v:=by
 intro N aw w0 sp sl df a w E vs h hv
 unfold QY at e
 split at e
 case h_2=>simp at e
 rename_i g M Ap ps as bd hr
 split at e
 case h_2=>simp at e
 rename_i Ft Ll
 split at e
 case h_2=>simp at e
 rename_i j s hrun
 rw [bQ] at hr
 obtain ⟨l,hd,sz,db,tm,h1,h2,h3,h4,h5⟩:=h.loop hr
 have hR:=h.xW (M:=M) (Ft:=Ap) (tm:=tm) h3 h4
 obtain ⟨hlen,hR1,QB⟩:=DK (Wr:=id) Ll hR h5 hv
 have hy:=run_yield (P:=P) (args:=vs.toArray) h2 (by simp [hlen])
 refine ⟨l,sz,g,_,as,bd,⟨hd,h1⟩,hy,?_⟩
 have htm:(Array.foldl (fun tmps x=>match x with
   | (t,a)=>tmps.setIfInBounds t a) tm (ps.toArray.zip vs.toArray))=(ps.zip vs).foldl (fun tmps x=>tmps.setIfInBounds x.1 x.2) tm:=by
  simp
 intro c cs
 simp only at htm ⊢
 rw [htm]
 let b:Frame:={ (default:Frame) with fn:=g,kind:=.normal,roundOf:=some l }
 have hb0:∀ tm,Frame.round l g tm as bd .normal=b.atR { tmps:=tm,defers:=[] } [.code as,.beginRound,.code bd]:=fun tm=>by
  simp [Frame.round,Frame.atR,b]
 rw [hb0]
 obtain ⟨a',w1,E',cS,hk,rJ,sq,hend,hsteps⟩:=pq (hi:=hi) (ro:=some r) (b:=b) (cs:=c::cs) bz hl Au rfl fuel hrun hR1 QB ⟨l,sz,rfl,hd,h1⟩
 unfold yv at e
 split at e
 case h_2=>simp at e
 split at e
 case h_2=>simp at e
 rename_i g' M' fC NF M7 Nl MU
 rw [bQ] at MU
 obtain ⟨l',nW,cj,db',tm',q1,q2,q3,q4,q5⟩:=rJ.loop MU
 obtain ⟨K,hE',_⟩:=hk.le r _ h1 (gr.Gl rfl)
 rw [hE'] at q1
 simp only [gr.wk,ak,a8] at q1
 obtain ⟨rfl,rfl,rfl⟩:=q1
 cases j with
 | none=>
   simp only [ak,a8] at e
   obtain ⟨rfl,rfl⟩:=e
   have hend:cS=[]:=hend
   subst hend
   exact ⟨.bool true,_,⟨E',hk,h.back (rJ.pP MU hE' q2 q3 q4 q5 .ready none) hk.le,rfl,rfl⟩,hsteps.trans (.one (stepR_round_end rfl rfl (run_endRound none q2)))⟩
 | some c' =>
   simp only [ak,a8] at e
   obtain ⟨rfl,rfl⟩:=e
   refine ⟨.bool false,_,⟨E',hk,h.back (rJ.pP MU hE' q2 q3 q4 q5 .done (some c')) hk.le,rfl,rfl⟩,hsteps.trans (.one ?_)⟩
   rcases hend with ⟨k,rfl,rfl⟩|⟨id,k,rfl,rfl,hx⟩
   ·exact stepR_round_ret rfl rfl (run_endRound (some .ret) q2)
   ·exact stepR_round_exit rfl rfl hx (run_endRound (some (.exit id)) q2)
theorem rz (bz:dk P T) (Au:P.follows .mixedOrders=true) {F:FuncId→Option Func} (hF:E8 P F) {Kn:FuncId→Option D} (Ub:∀ f d,Kn f=some d→Enters P f∧Cp T P f [] d) {fuel:Nat} :
  ∀ n,gm T P (Y2 T hi F Kn fuel n)
 | 0=>⟨fun f ds rs d aE e=>by
   have e:(none:Option (D×List ae))=some (d,aE):=e
   simp at e,fun r ds rs d aE e=>by
   have e:(none:Option (D×List ae))=some (d,aE):=e
   simp at e,Cz,fun f ds rs d q x e=>by
   have e:(none:Option (D×Nat×ae))=some (d,q,x):=e
   simp at e,fun f ds rs nr r _ _ e=>by
   have e:(none:Option (D×Nat×ae))=some r:=e
   simp at e⟩
 | n+1=>⟨fun f ds rs d aE e=>Cd bz Au hF Ub (rz bz Au hF Ub n) e,fun r ds rs d aE e=>EH bz Au (rz bz Au hF Ub n) e,Cz,fun f ds rs d q x e=>by
   have e:(none:Option (D×Nat×ae))=some (d,q,x):=e
   simp at e,fun f ds rs nr r _ _ e=>by
   have e:(none:Option (D×Nat×ae))=some r:=e
   simp at e⟩
end
section
def nd (b:Bool) (A:Prop):Prop:=Bool.rec False A b
def br (b:Bool) (A B:Prop):Prop:=Bool.rec B A b
theorem bG {b:Bool} {A:Prop}:nd b A↔b=true∧A:=by cases b<;>simp [nd]
theorem aA {b:Bool} {A:Prop} (h:b=true) (a:A):nd b A:=bG.2 ⟨h,a⟩
theorem ay {b:Bool} {A B:Prop} (h:b=true→A) (k:b=false→B):br b A B:=by
 cases b
 ·exact k rfl
 ·exact h rfl
theorem ue {b:Bool} {A B:Prop} (h:br b A B):(b=true∧A)∨(b=false∧B):=by
 cases b
 ·exact .inr ⟨rfl,h⟩
 ·exact .inl ⟨rfl,h⟩
def cn {α:Type} (x:Option α) (k:α→Prop):Prop:=match x with
 | some a=>k a
 | none=>False
theorem b6 {α:Type} {x:Option α} {k:α→Prop} (h:cn x k):∃ a,x=some a∧k a:=by
 cases x with
 | none=>exact h.elim
 | some a=>exact ⟨a,rfl,h⟩
structure cl (T:dn) (P:Program) (f:FuncId) (ds:List D) (rs:List ae) (d:D) (aE:List ae):Prop where
 out:Enters P f∧∀ (N:Nat) (aw:Nat→Prop) (w0:Kp) (sp:List (D×Value)) (sl:aG) (df:List Nat) (a:Act) (w:World) (E:Env) (vs:List Value),R T N aw w0 sp ⟨sl,rs,df⟩ a w E→az (aJ E (AV aw rs E) w) ds vs→
  Go.Calls P f vs.toArray w fun e w'=>∃ v E',e=.returned v∧Kept E E'∧R T N aw w0 sp ⟨sl,aE,df⟩ a w' E'∧aJ E' (AV aw aE E') w' d v
structure rk (T:dn) (P:Program) (r:Nat) (ds:List D) (rs:List ae) (d:D) (aE:List ae):Prop where
 out:∀ (N:Nat) (aw:Nat→Prop) (w0:Kp) (sp:List (D×Value)) (sl:aG) (df:List Nat) (a:Act) (w:World) (E:Env) (vs:List Value),R T N aw w0 sp ⟨sl,rs,df⟩ a w E→az (aJ E (AV aw rs E) w) ds vs→
  ∃ b sz f tm as bd,a7 E r b sz∧(Instr.yield b vs.toArray).run P w=.ok (.round b f tm as bd) w∧
   vb P b f tm as bd w fun v w'=>∃ E',Kept E E'∧R T N aw w0 sp ⟨sl,aE,df⟩ a w' E'∧aJ E' (AV aw aE E') w' d v
structure uk (T:dn) (P:Program) (f:FuncId) (ds:List D) (rs:List ae) (d:D) (q:Nat) (x:ae):Prop where
 out:∀ nr:List ae,rs.length=nr.length→(∀ (k:Nat) (y:ae),aY rs k=some y→y.live→aY nr k=some y)→cl T P f ds nr d (place q x nr)
abbrev Out:=D×List (Nat×ae)×List ae
inductive Rd where
 | no
 | ret (o:D×Nat×ae)
 | get (q:Nat) (k:ae→Rd)
def tL (rs:List ae) (r:Rd):Option (D×Nat×ae):=Rd.rec none (fun o=>some o) (fun q _ ih=>match aY rs q with
 | some x=>match x with
   | .dead=>none
   | x=>ih x
 | none=>none) r
structure iZ where
 F:FuncId→List D→List ae→Out
 FY:Nat→List D→List ae→Out:=fun _ _ _=>(.t [],[],[])
 B:FuncId→List D→List ae→Bool:=fun _ _ _=>true
 R1:FuncId→List D→List ae→Out:=fun _ _ _=>(.t [],[],[])
 R2:FuncId→List D→List ae→Out:=fun _ _ _=>(.t [],[],[])
 S:List Nat:=[]
 W:FuncId→List D→Rd:=fun _ _=>.no
def js (rs:List ae) (x:Out):List ae:=writes x.2.1 rs++x.2.2
def BR (S:List Nat) (ws:List (Nat×ae)):Bool:=List.rec true (fun p _ ih=>Bool.rec false ih (mj p.1 S)) ws
def jo (S:List Nat) (aE:List ae):List (Nat×ae):=List.rec [] (fun q _ ih=>match aY aE q with
 | some x=>(q,x)::ih
 | none=>ih) S
def J9 (n:Nat) (ws:List (Nat×ae)):Bool:=List.rec true (fun p _ ih=>Bool.rec false ih (j6 n p.2)) ws
def jn (X:iZ):Lo:=⟨fun f ds rs=>some ((X.F f ds rs).1,js rs (X.F f ds rs)),fun r ds rs=>some ((X.FY r ds rs).1,js rs (X.FY r ds rs)),fun rs aE=>some (jo X.S aE),fun f ds rs=>tL rs (X.W f ds)⟩
def Grown (S:List Nat) (rs aE:List ae):Prop:=∃ ws ex,BR S ws=true∧aE=writes ws rs++ex
open Classical in
def bZ (T:dn) (P:Program) (X:iZ):Lo:=⟨fun f ds rs=>if cl T P f ds rs (X.F f ds rs).1 (js rs (X.F f ds rs)) then some ((X.F f ds rs).1,js rs (X.F f ds rs)) else none,
 fun r ds rs=>if rk T P r ds rs (X.FY r ds rs).1 (js rs (X.FY r ds rs)) then some ((X.FY r ds rs).1,js rs (X.FY r ds rs)) else none,
 fun rs aE=>if Grown X.S rs aE∧J9 rs.length (jo X.S aE)=true then some (jo X.S aE) else none,
 fun f ds rs=>match tL rs (X.W f ds) with
  | some o=>if uk T P f ds rs o.1 o.2.1 o.2.2 then some o else none
  | none=>none⟩
section
variable (T:dn) (P:Program) (X:iZ) (hi:Hint)
def D1 (s:VS) (t:Nat) (x ix:Operand) (k:D→Prop):Prop:=match G9 T t with
 | some a=>match gO (bO s.sl ix) with
   | some i=>match cO (bO s.sl x) with
     | some (.rt r q j)=>nd (cC i a.1) (k (.c (.rt r q (j+i.toNat*a.2.size))))
     | some (.im (.gp q))=>cn (Ey T a.1 a.2.size i q) k
     | _=>False
   | none=>False
 | none=>match pW T t with
   | some y=>match gO (bO s.sl ix) with
     | some i=>match cO (bO s.sl x) with
       | some (.im (.sl sz n get))=>nd (Nat.beq sz y.size) (nd (cC i n) (k (.c (.im (.pt sz (get i.toNat))))))
       | some (.sa r m)=>match aY s.rs r with
         | some (.row _ sz _ _)=>nd (Nat.beq sz y.size) (nd (cC i m) (k (.c (.rt r i.toNat 0))))
         | some (.arr _ sz _ _)=>nd (Nat.beq sz y.size) (nd (cC i m) (k (.c (.rt r i.toNat 0))))
         | some (.gy _ sz _ _ _)=>nd (Nat.beq sz y.size) (nd (cC i m) (k (.c (.rt r i.toNat 0))))
         | _=>False
       | _=>False
     | none=>False
   | none=>False
def KC (s:VS) (c x y:Operand) (k:D→Prop):Prop:=match iz (bO s.sl c) with
 | some b=>br b (cn (iz (bO s.sl x)) fun z=>k (bool z)) (cn (iz (bO s.sl y)) fun z=>k (bool z))
 | none=>False
def yd (rs:List ae) (c:C) (h:Int) (k:D→Prop):Prop:=match c with
 | .im (.sl sz n get)=>nd (Ia h n) (k (.c (.im (.sl sz h.toNat get))))
 | .sa r m=>match aY rs r with
   | some (.row _ _ _ _)=>nd (Ia h m) (k (.c (.sa r h.toNat)))
   | some (.arr _ _ _ _)=>nd (Ia h m) (k (.c (.sa r h.toNat)))
   | some (.gy _ _ _ _ _)=>nd (Ia h m) (k (.c (.sa r h.toNat)))
   | _=>False
 | _=>cn (lx rs c h) k
def Ag (sz:Nat) (c:C) (h:Int) (k:D→Prop):Prop:=match c with
 | .im (.sl cj n get)=>nd (Ia h n) (nd (Nat.beq cj sz) (k (.c (.im (.sl cj (n-h.toNat) fun i j=>get (h.toNat+i) j)))))
 | _=>False
def D7 (s:VS) (t:Nat) (x:Operand) (lo hi mx:Option Operand) (k:D→Prop):Prop:=match lo,hi,mx with
 | none,some h,none=>match pW T t with
   | some _=>match cO (bO s.sl x),gO (bO s.sl h) with
     | some c,some n=>yd s.rs c n k
     | _,_=>False
   | none=>False
 | some l,none,none=>match pW T t with
   | some y=>match cO (bO s.sl x),gO (bO s.sl l) with
     | some c,some n=>Ag y.size c n k
     | _,_=>False
   | none=>False
 | _,_,_=>False
def Mt (y:Ty) (sz n:Nat) (get:Nat→Nat→I) (i j:Nat) (k:D→Prop):Prop:=match y.kd.agg with
 | true=>nd (Nat.ble (j+y.size) sz) (nd (Nat.blt i n) (k (.a (dr (get i) j y.size))))
 | false=>nd (Nat.blt j sz) (nd (Nat.blt i n) (k (.c (.im (get i j)))))
def yy (i:Nat) (K:Nat→Prop) (m:Nat):Nat→Prop:=Nat.rec (fun _=>False) (fun _ ih c=>br (Nat.beq i c) (K c) (ih (c+1))) m
def B8 (y:Ty) (f:Nat→Option C) (j:Nat) (k:D→Prop):Prop:=match y.kd.agg with
 | true=>cn (nu f j y.size) fun l=>k (.a l)
 | false=>cn (f j) fun c=>k (.c c)
def Up (y:Ty) (sz j:Nat):Bool:=match y.kd.agg with
 | true=>Nat.ble (j+y.size) sz
 | false=>Nat.blt j sz
def EB (y:Ty) (sz n:Nat) (get:Nat→Nat→O) (dK:Option (Nat×List Fc)) (i j:Nat) (k:D→Prop):Prop:=nd (Up y sz j) (nd (Nat.blt i n) (match dK with
 | none=>B8 y (fun j=>H8 (get i j)) j k
 | some x=>nd (Nat.beq i x.1) (B8 y (fun j=>Hu (aY x.2 j)) j k)))
def JW (s:VS) (t:Nat) (x:Operand) (k:D→Prop):Prop:=match T.ty t,cO (bO s.sl x) with
 | some y,some c=>match c with
   | .rt r i j=>match aY s.rs r with
     | some (.arr _ sz n get)=>Mt y sz n get i j k
     | some (.row _ sz n l)=>yy i (fun c=>cn (pS y l (c*sz+j)) k) n 0
     | some (.gy _ sz n get dK)=>EB y sz n get dK i j k
     | _=>cn (jS T s t x) k
   | _=>cn (jS T s t x) k
 | _,_=>False
def RG (op:BinOp) (a b:Int) (k:D→Prop):Prop:=match op with
 | .quo=>nd (!(b==0)) (k (int (IntKind.i64.wrap (a.tdiv b))))
 | .rem=>nd (!(b==0)) (k (int (a.tmod b)))
 | _=>cn (sJ op a b) fun z=>k (.v z)
def QV (s:VS) (op:BinOp) (t:Nat) (x y:Operand) (k:D→Prop):Prop:=match isNil y with
 | true=>cn (sE T s op t x) k
 | false=>match gO (bO s.sl x),gO (bO s.sl y) with
   | some a,some b=>RG op a b k
   | _,_=>cn (vP T s op t x y) k
def yI (el sz n:Nat) (get:Nat→Nat→O) (dK:Option (Nat×List Fc)) (r i j:Nat) (cs:List C) (k:bP→Prop):Prop:=match zo cs with
 | some ys=>nd (Nat.blt i n) (k (.wr none [(r,.gy el sz n (G3 get i j ys) dK)]))
 | none=>False
def zC (el sz n:Nat) (get:Nat→Nat→O) (dK:Option (Nat×List Fc)) (size r i j:Nat) (cs:List C) (k:bP→Prop):Prop:=nd (Nat.ble (j+size) sz) (match dK with
 | none=>yI el sz n get none r i j cs k
 | some x=>nd (Nat.beq i x.1) (cn (G2 cs x.2 j) fun l=>k (.wr none [(r,.gy el sz n get (some (x.1,l)))])))
def Gb (rs:List ae) (size r i j:Nat) (cs:List C) (k:bP→Prop):Prop:=match aY rs r with
 | some (.arr el sz n get)=>match zo cs with
   | some ys=>nd (Nat.ble (j+size) sz) (nd (Nat.blt i n) (k (.wr none [(r,.arr el sz n (fE get i j ys))])))
   | none=>cn (mB rs cs) k
 | some (.gy el sz n get dK)=>zC el sz n get dK size r i j cs k
 | _=>cn (kB rs size r i j cs) k
def DA (s:VS) (dst:Option Tmp) (t:Nat) (x v:Operand) (k:bP→Prop):Prop:=match dst with
 | some _=>False
 | none=>match T.ty t,bO s.sl v with
   | some y,some d=>match d.cells with
     | some cs=>nd (Nat.beq cs.length y.size&&Nat.blt 0 y.size) (match cO (bO s.sl x) with
       | some (.rt r i j)=>Gb s.rs y.size r i j cs k
       | _=>False)
     | none=>False
   | _,_=>False
def Km (b:Nat) (s:VS) (t:Nat) (l c:Operand) (k:bP→Prop):Prop:=match T.ty t with
 | some { kd:=.slice el,.. }=>match T.ty el with
   | some y=>match uJ y with
     | some z=>match gO (bO s.sl l),gO (bO s.sl c) with
       | some (.ofNat n),some (.ofNat m)=>match zo z with
         | some is=>nd (Nat.blt 0 y.size) (nd (Nat.ble n maxLen&&Nat.ble (n*y.bytes) 281474976710656) (nd (Nat.beq n m) (k (.wr (some (.c (.sa b n))) [(b,.arr el y.size n (fun _=>bu is))]))))
         | none=>False
       | _,_=>False
     | none=>False
   | none=>False
 | _=>False
def J0 (el sz n':Nat) (get':Nat→Nat→I) (bytes b:Nat) (rs:List ae) (c:C) (k:bP→Prop):Prop:=match c with
 | .im (.v (.slice none 0 0))=>nd (dX n' bytes) (k (.wr (some (.c (.sa b n'))) [(b,.arr el sz n' get')]))
 | .sa r m=>match aY rs r with
   | some (.arr nL cj n get)=>nd (Nat.beq el nL&&Nat.beq sz cj) (nd (dX (n+n') bytes) (nd (Nat.beq m n) (k (.wr (some (.c (.sa b (n+n')))) [(r,.dead),(b,.arr el sz (n+n') (j0 n get get'))]))))
   | _=>False
 | _=>False
def JV (sz:Nat) (rs:List ae) (c:C) (k:Nat×(Nat→Nat→I)→Prop) (K:Prop):Prop:=match c with
 | .sa q m=>match aY rs q with
   | some (.arr _ cj n get)=>nd (Nat.beq cj sz) (nd (Nat.ble m n) (k (m,get)))
   | _=>match qF sz rs c with
     | some x=>k x
     | none=>K
 | _=>match qF sz rs c with
   | some x=>k x
   | none=>K
def Qe (ty:Ty) (el b:Nat) (rs:List ae) (c src:C) (k:bP→Prop):Prop:=JV ty.size rs src (fun x=>nd (Nat.blt 0 ty.size) (J0 el ty.size x.1 x.2 ty.bytes b rs c k)) (cn (mB rs [src]) k)
def QA (ty:Ty) (el nL cj n:Nat) (get:Nat→Nat→O) (b r m:Nat) (rs:List ae) (src:C) (k:bP→Prop):Prop:=match tF rs src with
 | some (sz,1,l)=>nd (Nat.beq sz ty.size&&Nat.blt 0 sz) (nd (Nat.beq el nL&&Nat.beq sz cj) (nd (dX (n+1) ty.bytes) (nd (Nat.beq m n) (k (.wr (some (.c (.sa b (n+1)))) [(r,.dead),(b,.gy el sz (n+1) get (some (n,l.map Fc.c)))])))))
 | _=>False
def Jp (el b:Nat) (rs:List ae) (c src:C) (k:bP→Prop):Prop:=match c with
 | .sa r m=>match aY rs r with
   | some (.gy nL cj n get none)=>match T.ty el with
     | some ty=>QA ty el nL cj n get b r m rs src k
     | none=>False
   | _=>cn (ng T el b rs (some c) (some src)) k
 | _=>cn (ng T el b rs (some c) (some src)) k
def RU (el b:Nat) (rs:List ae) (x src:Option C) (k:bP→Prop):Prop:=match x,src with
 | some c,some src=>match Ik rs c src with
   | true=>match T.ty el with
     | some ty=>Qe ty el b rs c src k
     | none=>False
   | false=>Jp T el b rs c src k
 | _,_=>False
def Si (b:Nat) (s:VS) (ts:List TypeId) (xs:List Operand) (k:bP→Prop):Prop:=match ts,xs with
 | [t,t'],[x,y]=>nd (Nat.beq t t') (match T.ty t with
   | some { kd:=.slice el,.. }=>RU T el b s.rs (cO (bO s.sl x)) (cO (bO s.sl y)) k
   | _=>False)
 | _,_=>False
def xJ (rs:List ae) (g:FuncId) (ds:List D) (k:bP→Prop):Prop:=match cP rs ds with
 | some is=>cl T P g is [] (X.F g is []).1 (js [] (X.F g is []))∧cn (gn (jn X) rs g ds) k
 | none=>False
def L8 (rs:List ae) (g:FuncId) (ds:List D) (k:bP→Prop):Prop:=
 cl T P g ds rs (X.F g ds rs).1 (js rs (X.F g ds rs))∧nd (BR X.S (X.F g ds rs).2.1) (k (.all (X.F g ds rs).1 (js rs (X.F g ds rs))))
def VM (rs:List ae) (g:FuncId) (ds:List D) (k:bP→Prop):Prop:=match tL rs (X.W g ds) with
 | some o=>uk T P g ds rs o.1 o.2.1 o.2.2∧nd (Nat.blt o.2.1 rs.length) (k (.wr (some o.1) [(o.2.1,o.2.2)]))
 | none=>False
def yV (x:Option bP):Option (Bool×bP):=match x with
 | some e=>some (true,e)
 | none=>none
def CV (lo:Lo) (rs:List ae) (f:FuncId) (ds:List D) (b:Nat):Option (Bool×bP):=match cP rs ds with
 | some is=>match lo.call f is [] with
   | some (.c (.sa q m),aE)=>match aY aE q with
     | some (.arr el sz n get)=>match iy rs ds (.wr (some (.c (.sa b n))) [(b,.arr el sz n get)]) with
       | some e=>some (Nat.beq m n,e)
       | none=>none
     | _=>yV (fH lo rs f ds b)
   | _=>yV (fH lo rs f ds b)
 | none=>none
def Df (rs:List ae) (b:Nat) (g:FuncId) (ds:List D) (k:bP→Prop):Prop:=match hi.mode g with
 | 0=>xJ T P X rs g ds k
 | 1=>L8 T P X rs g ds k
 | 2=>match cP rs ds with
   | some is=>cl T P g is [] (X.F g is []).1 (js [] (X.F g is []))∧cn (CV (jn X) rs g ds b) fun e=>nd e.1 (k e.2)
   | none=>False
 | 4=>VM T P X rs g ds k
 | 5=>match cP rs ds with
   | some is=>cl T P g is [] (X.F g is []).1 (js [] (X.F g is []))∧cn (wq (jn X) rs g ds b) k
   | none=>False
 | _=>Bool.rec (L8 T P X rs g ds k) (xJ T P X rs g ds k) (eQ ds)
def Us (rs:List ae) (r:Nat) (ds:List D) (k:bP→Prop):Prop:=
 rk T P r ds rs (X.FY r ds rs).1 (js rs (X.FY r ds rs))∧nd (BR X.S (X.FY r ds rs).2.1) (k (.all (X.FY r ds rs).1 (js rs (X.FY r ds rs))))
def Eg (b:Nat) (s:VS) (f:Operand) (xs:List Operand) (k:bP→Prop):Prop:=match cO (bO s.sl f),vV s.sl xs with
 | some c,some ds=>match c with
   | .yl r=>Us T P X s.rs r ds k
   | _=>match nA c with
     | some (g,dR)=>Df T P X hi s.rs b g (ds++dR) k
     | none=>False
 | _,_=>False
def JX (b:Nat) (s:VS) (c:Call) (k:bP→Prop):Prop:=match CR T s c with
 | some d=>k (.val d)
 | none=>match c.callee with
   | .builtin .append=>Si T b s c.argTypes.toList c.args.toList k
   | .value f=>Eg T P X hi b s f c.args.toList k
   | _=>False
def Mo (b:Nat) (s:VS) (dst:Option Tmp) (op:Op) (k:bP→Prop):Prop:=match op with
 | .indexAddr t x i=>D1 T s t x i fun d=>k (.val d)
 | .pick c x y=>KC s c x y fun d=>k (.val d)
 | .slice t x lo h mx=>D7 T s t x lo h mx fun d=>k (.val d)
 | .load t x=>JW T s t x fun d=>k (.val d)
 | .binOp o t x y _=>QV T s o t x y fun d=>k (.val d)
 | .store t x v=>DA T s dst t x v k
 | .makeSlice t l c=>Km T b s t l c k
 | .call c=>JX T P X hi b s c k
 | op=>cn (fk T (jn X) hi b s dst op) k
def KO (t:Tmp) (b:Bool) (sl:aG):aG:=List.rec [] (fun x l ih=>Bool.rec (x::ih) ((x.1,bool b,x.2.2)::l) (Nat.beq x.1 t)) sl
def sw (t:Tmp) (b:Bool) (s:VS):VS:={ s with sl:=KO t b s.sl }
def Gu (s:VS) (c:Operand) (p:Bool) (A B:VS→Prop):Prop:=match c with
 | .tmp t=>br p (A (sw t true s)) (B (sw t false s))
 | _=>br p (A s) (B s)
def EP (ops:List Oper) (s:VS) (g:Option (Nat×Bool)) (A B:VS→Prop):Prop:=match g with
 | none=>A s
 | some (j,want)=>match aY ops j with
   | some p=>match p.dst with
     | some t=>match eb s.sl t with
       | some (.t [])=>B s
       | d=>match iz d with
         | some x=>Bool.rec (br x (B (sw t true s)) (A (sw t false s))) (br x (A (sw t true s)) (B (sw t false s))) want
         | none=>False
     | none=>False
   | none=>False
def Gm (N:Nat) (s:VS) (dst:Option Tmp) (k:VS→Prop) (again:List Nat→Prop) (e:bP):Prop:=match e with
 | .cp l=>again l
 | e=>cn (oi N s dst e) k
def Ls (N:Nat) (s:VS) (dst:Option Tmp) (op:Op) (k:VS→Prop):Prop:=
 Mo T P X hi s.rs.length s dst op (Gm N s dst k fun l=>cn (fV l s) fun s1=>Mo T P X hi s1.rs.length s1 dst op (Gm N s1 dst k fun _=>False))
def Wu (N:Nat) (ops:List Oper) (s:VS) (o:Oper) (k:VS→Prop):Prop:=
 EP ops s o.guard (fun s=>Ls T P X hi N s o.dst o.op k) fun s=>cn (oR N s o.dst (.t [])) k
def Sk (N:Nat) (ops l:List Oper):VS→(VS→Prop)→Prop:=List.rec (fun s k=>k s) (fun o _ ih s k=>Wu T P X hi N ops s o fun s'=>ih s' k) l
def Um (rs:List ae) (b4:List Nat) (i:Nat) (dst:Option Tmp) (e:bP) (k:Ir→Prop):Prop:=cn (AK (jn X) rs b4 i dst (some e)) fun u=>match u with
 | .ok ⟨t,d,ws,none,true⟩=>nd (J9 rs.length ws) (k (.ok ⟨t,d,ws,none,true⟩))
 | u=>k u
def evalW (b4:List Nat) (i b:Nat) (ops:List Oper) (s:VS) (o:Oper) (k:VS→Ir→Prop):Prop:=
 EP ops s o.guard (fun s=>Mo T P X hi b s o.dst o.op fun e=>Um X s.rs b4 i o.dst e (k s)) fun s=>k s (.ok ⟨o.dst,some (.t []),[],none,false⟩)
def zZ (N:Nat) (b4:List Nat) (ops l:List Oper):Nat→Nat→List (Nat×List Nat)→VS→(xQ→Prop)→Prop:=List.rec (fun _ _ W s q=>q (.ok W s)) (fun o _ ih k b W s q=>
 evalW T P X hi b4 k b ops s o fun s u=>match u with
  | .ok u=>nd (Ao N u.dst u.val) (ih (k+1) (b+dN o.op) (Bu k u W) (u.on s) q)
  | .cp c=>q (.cp c)) l
def zc (N:Nat) (ops:List Oper) (b4:List Nat) (W:List (Nat×List Nat)) (l:List Oper):List Nat→Nat→Nat→VS→(VS→Prop)→Prop:=List.rec (fun _ _ _ s q=>q s) (fun o _ ih ms i b s q=>
 match ms with
 | m::ms=>evalW T P X hi b4 i b ops (Nd (dT b4 i m W) s) o fun s1 u=>match u with
   | .ok u=>nd (Ao N u.dst u.val&&(xz (u.ws.map (·.1)) (lA i W)&&(lU (u.ws.map (·.1)) (dT b4 i m W)&&MO u.ex (dT b4 i m W)))) (ih ms (i+1) (b+dN o.op) (u.on { s with sl:=s1.sl }) q)
   | .cp _=>False
 | []=>False) l
def zB (N:Nat) (ops:List Oper) (s0 s':VS) (b:Nat) (W:List (Nat×List Nat)) (k:VS→Prop):Prop:=match W with
 | []=>k s'
 | _=>zc T P X hi N ops (iu ops []) W ops (iu ops []) 0 b s0 k
def Ea (N:Nat) (ops:List Oper) (n:Nat):VS→(VS→Prop)→Prop:=Nat.rec (fun _ _=>False) (fun _ ih s k=>
 zZ T P X hi N (iu ops []) ops ops 0 s.rs.length [] (ft ops s) fun r=>match r with
  | .cp l=>cn (fV l s) fun s'=>ih s' k
  | .ok W s'=>zB T P X hi N ops (ft ops s) s' s.rs.length W k) n
def ta (N:Nat) (f:FuncId) (ro:Option Nat) (id:Nat) (ops:List Oper) (draw:Bool) (s:VS) (k:VS→Prop):Prop:=match draw with
 | false=>Sk T P X hi N ops ops s fun s'=>k (pT hi f id s')
 | true=>match ro with
   | some _=>False
   | none=>match pV ops with
     | true=>Ea T P X hi N ops 8 s fun s'=>k (pT hi f id s')
     | false=>False
def zG (b:Nat) (s:VS) (aE:List ae) (k:Option Code→VS→Prop):Prop:=match aY aE (b+1) with
 | some (.loop _ _ _ _ _ _ .ready none)=>k none { s with rs:=setAt aE (b+1) .dead,df:=b::s.df }
 | some (.loop _ _ _ _ _ _ .done (some c))=>k (some c) { s with rs:=setAt aE (b+1) .dead,df:=b::s.df }
 | _=>False
def MH (s:VS) (h:FuncId) (ds:List D) (rs:List ae) (k:Option Code→VS→Prop):Prop:=
 br (X.B h ds rs) (cl T P h ds rs (X.R1 h ds rs).1 (js rs (X.R1 h ds rs))∧zG s.rs.length s (js rs (X.R1 h ds rs)) k) (cl T P h ds rs (X.R2 h ds rs).1 (js rs (X.R2 h ds rs))∧zG s.rs.length s (js rs (X.R2 h ds rs)) k)
def zd (N:Nat) (f:FuncId) (ro:Option Nat) (g:Operand) (ps:List Tmp) (as b:Code) (s:VS) (k:Option Code→VS→Prop):Prop:=match ro with
 | some _=>False
 | none=>match cO (bO s.sl g) with
   | some c=>match nA c with
     | some (h,dR)=>MH T P X s h (.c (.yl (s.rs.length+1))::dR) (s.rs++[.l7,.loop f N s.sl ps as b .ready none]) k
     | none=>False
   | none=>False
def sI (N:Nat) (f:FuncId) (ro:Option Nat) (stop:Nat→Bool) (L:List Item→VS→Prop) (Q:Option Code→VS→Prop) (n:Nat):Bool→List Item→VS→Prop:=Nat.rec (fun _ _ _=>False) (fun _ ih go todo s=>match todo with
 | []=>Q none s
 | x::k=>match x with
   | .inBlock _=>ih go k s
   | .inLoop c=>ih go (.code c::.inLoop c::k) s
   | .beginRound=>cn (rB ro s) fun s'=>ih go k s'
   | .code c=>match c with
     | .skip=>ih go k s
     | .label _=>ih go k s
     | .ret=>Q (some .ret) s
     | .seq a b=>ih go (.code a::.code b::k) s
     | .cond c a b=>match iz (bO s.sl c) with
       | some p=>Gu s c p (ih go (.code a::k)) (ih go (.code b::k))
       | none=>False
     | .block id c=>ih go (.code c::.inBlock id::k) s
     | .loop c=>ih go (.code c::.inLoop c::k) s
     | .exit id=>match exitTo id k with
       | some k'=>ih go k' s
       | none=>Q (some (.exit id)) s
     | .region id ops draw=>Bool.rec (ta T P X hi N f ro id ops.toList draw s fun s'=>ih false k s') (L (.code (.region id ops draw)::k) s) (!go&&stop id)
     | .rangeFunc g ps as b=>zd T P X N f ro g ps.toList as b s fun j s'=>ih false (xr j k) s'
     | _=>False
   | _=>False) n
end
def qu (T:dn) (res:List ResultVar) (Q:D→List ae→Prop) (j:Option Code) (s:VS):Prop:=nd (J1 j) (cn (JH T s res) fun x=>Q x.1 x.2)
def PV (r:Nat) (Q:D→List ae→Prop) (j:Option Code) (s:VS):Prop:=cn (yv r j s) fun x=>Q x.1 x.2
end
section
variable {T:dn} {P:Program} {X:iZ} {hi:Hint} {N:Nat} {s:VS}
theorem Ho {t:Nat} {x ix:Operand} {k:D→Prop} (h:D1 T s t x ix k):∃ d,lz T s t x ix=some d∧k d:=by
 unfold D1 at h
 unfold lz
 split at h
 ·rename_i a ha
  split at h
  case h_2=>exact h.elim
  rename_i i iq
  split at h
  case h_3=>exact h.elim
  ·rename_i r q j hc
   obtain ⟨h1,h2⟩:=bG.1 h
   refine ⟨_,?_,h2⟩
   simp only [ha,iq,hc,tl,zh,h1]
  ·rename_i q hc
   obtain ⟨d,h1,h2⟩:=b6 h
   exact ⟨d,by simp only [ha,iq,hc,tl,h1],h2⟩
 ·rename_i ha
  split at h
  case h_2=>exact h.elim
  rename_i y hy
  split at h
  case h_2=>exact h.elim
  rename_i i iq
  split at h
  ·rename_i sz n get hc
   obtain ⟨h1,h2⟩:=bG.1 h
   obtain ⟨h3,h4⟩:=bG.1 h2
   refine ⟨_,?_,h4⟩
   simp only [ha,hy,iq,hc,po,h1,h3]
  ·rename_i r m hc
   split at h
   case h_4=>exact h.elim
   all_goals
    rename_i hr
    obtain ⟨h1,h2⟩:=bG.1 h
    obtain ⟨h3,h4⟩:=bG.1 h2
    refine ⟨_,?_,h4⟩
    simp only [ha,hy,iq,hc,po,hr,h1,h3]
  ·exact h.elim
theorem Mq {c x y:Operand} {k:D→Prop} (h:KC s c x y k):∃ d,xo s c x y=some d∧k d:=by
 unfold KC at h
 unfold xo
 split at h
 case h_2=>exact h.elim
 rename_i b hb
 rcases ue h with ⟨rfl,h⟩|⟨rfl,h⟩
 ·obtain ⟨z,h1,h2⟩:=b6 h
  refine ⟨_,?_,h2⟩
  simp only [hb,h1]
 ·obtain ⟨z,h1,h2⟩:=b6 h
  refine ⟨_,?_,h2⟩
  simp only [hb,h1]
theorem El {rs:List ae} {c:C} {h0:Int} {k:D→Prop} (h:yd rs c h0 k):∃ d,lx rs c h0=some d∧k d:=by
 unfold yd at h
 split at h
 ·obtain ⟨h1,h2⟩:=bG.1 h
  exact ⟨_,by simp only [lx,h1],h2⟩
 ·split at h
  case h_4=>exact h.elim
  all_goals
   rename_i hr
   obtain ⟨h1,h2⟩:=bG.1 h
   exact ⟨_,by simp only [lx,hr,h1],h2⟩
 ·exact b6 h
theorem Ej {sz:Nat} {c:C} {h0:Int} {k:D→Prop} (h:Ag sz c h0 k):∃ d,uH sz c h0=some d∧k d:=by
 unfold Ag at h
 split at h
 case h_2=>exact h.elim
 obtain ⟨h1,h2⟩:=bG.1 h
 obtain ⟨h3,h4⟩:=bG.1 h2
 exact ⟨_,by simp only [uH,h1,h3,Bool.and_self],h4⟩
theorem Hk {t:Nat} {x:Operand} {l h0 mx:Option Operand} {k:D→Prop} (h:D7 T s t x l h0 mx k):∃ d,jI T s t x l h0 mx=some d∧k d:=by
 unfold D7 at h
 unfold jI
 split at h
 ·split at h
  case h_2=>exact h.elim
  rename_i y hy
  split at h
  case h_2=>exact h.elim
  rename_i c n hc hn
  obtain ⟨d,h1,h2⟩:=El h
  exact ⟨d,by simp only [hy,hc,hn,h1],h2⟩
 ·split at h
  case h_2=>exact h.elim
  rename_i y hy
  split at h
  case h_2=>exact h.elim
  rename_i c n hc hn
  obtain ⟨d,h1,h2⟩:=Ej h
  exact ⟨d,by simp only [hy,hc,hn,h1],h2⟩
 ·exact h.elim
theorem tA {i:Nat} {K:Nat→Prop}:∀ {m c:Nat},yy i K m c→K i
 | 0,c,h=>h.elim
 | m+1,c,h=>by
   have h:br (Nat.beq i c) (K c) (yy i K m (c+1)):=h
   rcases ue h with ⟨h1,h2⟩|⟨_,h2⟩
   ·rw [bs h1]; exact h2
   ·exact tA h2
theorem LR {y:Ty} {f g:Nat→Option C} {j:Nat} {k:D→Prop} (Zf:f=g) (h:B8 y f j k):∃ d,(match y.kd.agg with
  | true=>match nu g j y.size with
    | some l=>some (.a l)
    | none=>none
  | false=>match g j with
    | some c=>some (.c c)
    | none=>none)=some d∧k d:=by
 subst Zf
 unfold B8 at h
 split at h
 ·rename_i ha
  obtain ⟨l,h1,h2⟩:=b6 h
  exact ⟨_,by simp only [ha,h1],h2⟩
 ·rename_i ha
  obtain ⟨l,h1,h2⟩:=b6 h
  exact ⟨_,by simp only [ha,h1],h2⟩
theorem Hp {y:Ty} {sz n:Nat} {get:Nat→Nat→O} {dK:Option (Nat×List Fc)} {i j:Nat} {k:D→Prop} (h:EB y sz n get dK i j k):∃ d,AY y sz n (wc get dK i) i j=some d∧k d:=by
 unfold EB at h
 obtain ⟨h1,h2⟩:=bG.1 h
 obtain ⟨h3,h4⟩:=bG.1 h2
 have fin:∀ {f:Nat→Option C},f=wc get dK i→B8 y f j k→∃ d,AY y sz n (wc get dK i) i j=some d∧k d:=by
  intro f hf hp
  obtain ⟨d,q1,q2⟩:=LR hf hp
  refine ⟨d,?_,q2⟩
  unfold AY
  unfold Up at h1
  cases ha:y.kd.agg with
  | true=>simp only [ha] at h1 q1 ⊢; simp only [h1,h3]; exact q1
  | false=>simp only [ha] at h1 q1 ⊢; simp only [h1,h3]; exact q1
 split at h4
 ·exact fin rfl h4
 ·rename_i x
  obtain ⟨q1,q2⟩:=bG.1 h4
  exact fin (by funext j; simp only [wc,q1]) q2
theorem JB {t:Nat} {x:Operand} {k:D→Prop} (h:JW T s t x k):∃ d,jS T s t x=some d∧k d:=by
 unfold JW at h
 split at h
 case h_2=>exact h.elim
 rename_i y c hy hc
 split at h
 case h_2=>exact b6 h
 rename_i r i j
 split at h
 case h_4=>exact b6 h
 case h_2=>
  rename_i el sz n l hr
  obtain ⟨d,h1,h2⟩:=b6 (tA h)
  exact ⟨d,by simp only [jS,hy,hc,qG,hr,vu,h1],h2⟩
 case h_3=>
  rename_i el sz n get dK hr
  obtain ⟨d,h1,h2⟩:=Hp h
  exact ⟨d,by simp only [jS,hy,hc,qG,hr,vu,h1],h2⟩
 rename_i el sz n get hr
 unfold Mt at h
 split at h
 ·rename_i ha
  obtain ⟨h1,h2⟩:=bG.1 h
  obtain ⟨h3,h4⟩:=bG.1 h2
  exact ⟨_,by simp only [jS,hy,hc,qG,hr,vu,Gz,ha,h1,h3],h4⟩
 ·rename_i ha
  obtain ⟨h1,h2⟩:=bG.1 h
  obtain ⟨h3,h4⟩:=bG.1 h2
  exact ⟨_,by simp only [jS,hy,hc,qG,hr,vu,Gz,ha,h1,h3],h4⟩
theorem Na {op:BinOp} {a b:Int} {k:D→Prop} (h:RG op a b k):∃ z,sJ op a b=some z∧k (.v z):=by
 unfold RG at h
 split at h
 ·obtain ⟨h1,h2⟩:=bG.1 h
  simp only [Bool.not_eq_true'] at h1
  exact ⟨_,by simp only [sJ,h1],h2⟩
 ·obtain ⟨h1,h2⟩:=bG.1 h
  simp only [Bool.not_eq_true'] at h1
  exact ⟨_,by simp only [sJ,h1],h2⟩
 ·exact b6 h
theorem Bn {d:Option D} {n:Int} (e:gO d=some n):∃ v,B5 d=some v∧Du v=some n:=by
 unfold gO at e
 split at e
 ·rename_i v hv; exact ⟨v,hv,e⟩
 ·simp at e
theorem N7 {op:BinOp} {t:Nat} {x y:Operand} {k:D→Prop} (h:QV T s op t x y k):∃ d,vP T s op t x y=some d∧k d:=by
 unfold QV at h
 split at h
 ·rename_i hn
  obtain ⟨d,h1,h2⟩:=b6 h
  exact ⟨d,by simp only [vP,hn,h1],h2⟩
 ·rename_i hn
  split at h
  ·rename_i a b ha hb
   obtain ⟨z,h1,h2⟩:=Na h
   obtain ⟨u,hu,hu2⟩:=Bn ha
   obtain ⟨v,hv,hv2⟩:=Bn hb
   have hp:DC y=false:=by
    unfold DC
    split
    ·rename_i q
     have hb:gO (some (.c (.im (.v (.pointer none)))))=some b:=hb
     cases hb
    ·have hb:gO (some (.c (.im (.v .nilFunc))))=some b:=hb
     cases hb
    ·rfl
   exact ⟨_,by simp only [vP,hn,hp,hu,hv,Db,hu2,hv2,h1],h2⟩
  ·exact b6 h
theorem D5 {el sz n size r i j:Nat} {get:Nat→Nat→O} {dK:Option (Nat×List Fc)} {cs:List C} {k:bP→Prop} (hb:Nat.ble (j+size) sz=true) (h:yI el sz n get dK r i j cs k):∃ e,mr el sz n get dK size r i j cs=some e∧k e:=by
 unfold yI at h
 split at h
 case h_2=>exact h.elim
 rename_i ys hys
 obtain ⟨h1,h2⟩:=bG.1 h
 exact ⟨_,by simp only [mr,hys,h1,hb],h2⟩
theorem C3 {el sz n size r i j:Nat} {get:Nat→Nat→O} {dK:Option (Nat×List Fc)} {cs:List C} {k:bP→Prop} (h:zC el sz n get dK size r i j cs k):∃ e,oE el sz n get dK size r i j cs=some e∧k e:=by
 unfold zC at h
 obtain ⟨h1,h2⟩:=bG.1 h
 split at h2
 ·exact D5 h1 h2
 ·rename_i x
  obtain ⟨q1,q2⟩:=bG.1 h2
  obtain ⟨l,q3,q4⟩:=b6 q2
  exact ⟨_,by simp only [oE,q1,q3,h1],q4⟩
theorem H0 {lo:Lo} {hi:Hint} {b:Nat} {dst:Option Tmp} {t:Nat} {x v:Operand} {k:bP→Prop} (h:DA T s dst t x v k):∃ e,gh T s dst t x v=some e∧k e:=by
 unfold DA at h
 split at h
 ·exact h.elim
 split at h
 case h_2=>exact h.elim
 rename_i y d hy hd
 split at h
 case h_2=>exact h.elim
 rename_i cs hcs
 obtain ⟨h1,h2⟩:=bG.1 h
 split at h2
 case h_2=>exact h2.elim
 rename_i r i j hx
 have fin:∀ {e:bP},kB s.rs y.size r i j cs=some e→gh T s none t x v=some e:=fun he=>by
  simp only [gh,hy,hd,hcs,h1,hx,he]
 unfold Gb at h2
 split at h2
 ·rename_i el sz n get hr
  split at h2
  ·rename_i ys hys
   obtain ⟨h3,h4⟩:=bG.1 h2
   obtain ⟨h5,h6⟩:=bG.1 h4
   exact ⟨_,fin (by simp only [kB,hr,hys,h3,h5]),h6⟩
  ·rename_i hys
   obtain ⟨e,h3,h4⟩:=b6 h2
   exact ⟨e,fin (by simp only [kB,hr,hys,h3]),h4⟩
 ·rename_i el sz n get dK hr
  obtain ⟨e,h3,h4⟩:=C3 h2
  exact ⟨e,fin (by simp only [kB,hr,h3]),h4⟩
 ·obtain ⟨e,h3,h4⟩:=b6 h2
  exact ⟨e,fin h3,h4⟩
theorem Mx {b:Nat} {t:Nat} {l c:Operand} {k:bP→Prop} (h:Km T b s t l c k):∃ e,kY T b s t l c=some e∧k e:=by
 unfold Km at h
 split at h
 case h_2=>exact h.elim
 rename_i qE
 split at h
 case h_2=>exact h.elim
 rename_i hy
 split at h
 case h_2=>exact h.elim
 rename_i hz
 split at h
 case h_2=>exact h.elim
 rename_i hl hc
 split at h
 case h_2=>exact h.elim
 rename_i his
 obtain ⟨h1,h2⟩:=bG.1 h
 obtain ⟨h3,h4⟩:=bG.1 h2
 obtain ⟨h5,h6⟩:=bG.1 h4
 exact ⟨_,by simp only [kY,qE,hy,hz,hl,hc,his,h1,h3,h5],h6⟩
theorem IA {el sz n':Nat} {get':Nat→Nat→I} {bytes b:Nat} {rs:List ae} {c:C} {k:bP→Prop} (h:J0 el sz n' get' bytes b rs c k):∃ e,pK el sz n' get' bytes b rs c=some e∧k e:=by
 unfold J0 at h
 split at h
 ·obtain ⟨h1,h2⟩:=bG.1 h
  exact ⟨_,by simp only [pK,h1],h2⟩
 ·split at h
  case h_2=>exact h.elim
  rename_i hr
  obtain ⟨h1,h2⟩:=bG.1 h
  obtain ⟨h3,h4⟩:=bG.1 h2
  obtain ⟨h5,h6⟩:=bG.1 h4
  exact ⟨_,by simp only [pK,hr,h1,h3,h5],h6⟩
 ·exact h.elim
theorem IX {sz:Nat} {rs:List ae} {c:C} {k:Nat×(Nat→Nat→I)→Prop} {K:Prop} (h:JV sz rs c k K):(∃ x,qF sz rs c=some x∧k x)∨(qF sz rs c=none∧K):=by
 have fin:(match qF sz rs c with
  | some x=>k x
  | none=>K)→(∃ x,qF sz rs c=some x∧k x)∨(qF sz rs c=none∧K):=fun q=>by
  split at q
  ·rename_i x hx; exact .inl ⟨x,hx,q⟩
  ·rename_i hx; exact .inr ⟨hx,q⟩
 unfold JV at h
 split at h
 ·split at h
  ·rename_i hr
   obtain ⟨h1,h2⟩:=bG.1 h
   obtain ⟨h3,h4⟩:=bG.1 h2
   exact .inl ⟨_,by simp only [qF,hr,h1,h3],h4⟩
  ·exact fin h
 ·exact fin h
theorem KL {el b:Nat} {rs:List ae} {c src:C} {k:bP→Prop} (h:Jp T el b rs c src k):∃ e,ng T el b rs (some c) (some src)=some e∧k e:=by
 unfold Jp at h
 split at h
 ·split at h
  ·rename_i hr
   split at h
   case h_2=>exact h.elim
   rename_i ty bz
   unfold QA at h
   split at h
   case h_2=>exact h.elim
   rename_i hs
   obtain ⟨h1,h2⟩:=bG.1 h
   obtain ⟨h3,h4⟩:=bG.1 h2
   obtain ⟨h5,h6⟩:=bG.1 h4
   obtain ⟨h7,h8⟩:=bG.1 h6
   exact ⟨_,by simp only [ng,bz,hs,h1,Am,hr,h3,h5,h7,Bool.and_self],h8⟩
  ·exact b6 h
 ·exact b6 h
theorem Ou {el b:Nat} {x src:Option C} {k:bP→Prop} (h:RU T el b s.rs x src k):∃ e,(match nN T el b s.rs x src with
   | some e=>e
   | none=>ng T el b s.rs x src)=some e∧k e:=by
 unfold RU at h
 split at h
 case h_2=>exact h.elim
 rename_i c src
 split at h
 ·rename_i hg
  split at h
  case h_2=>exact h.elim
  rename_i ty bz
  simp only [nN,hg,bz]
  unfold Qe at h
  rcases IX h with ⟨x,h1,h2⟩|⟨h1,h2⟩
  ·obtain ⟨h3,h4⟩:=bG.1 h2
   obtain ⟨e,h5,h6⟩:=IA h4
   refine ⟨e,?_,h6⟩
   simp only [yY,h1,h3]
   exact h5
  ·obtain ⟨e,h3,h4⟩:=b6 h2
   exact ⟨e,by simp only [yY,h1,h3],h4⟩
 ·rename_i hg
  simp only [nN,hg]
  exact KL h
theorem PC {b:Nat} {ts:List TypeId} {xs:List Operand} {k:bP→Prop} (h:Si T b s ts xs k):∃ e,mH T b s ts xs=some e∧k e:=by
 unfold Si at h
 split at h
 case h_2=>exact h.elim
 obtain ⟨h1,h2⟩:=bG.1 h
 split at h2
 case h_2=>exact h2.elim
 rename_i hy
 obtain ⟨e,h3,h4⟩:=Ou h2
 refine ⟨e,?_,h4⟩
 simp only [mH,h1,hy]
 exact h3
theorem zP {dst:Option Tmp} {t:Nat} {x v:Operand} {d:D} {aE:List ae} (h:gh T s dst t x v=some (.all d aE)):False:=by
 unfold gh at h
 split at h
 ·simp at h
 split at h
 case h_2=>simp at h
 split at h
 case h_2=>simp at h
 replace h:=(Bool.aq h).2
 split at h
 case h_2=>simp at h
 unfold kB at h
 split at h
 ·split at h
  ·split at h<;>simp at h
  ·simp at h
 ·split at h<;>simp at h
 ·split at h
  ·replace h:=(Bool.aq h).2
   replace h:=(Bool.aq h).2
   simp at h
  ·obtain ⟨m,hm⟩:=jE h; cases hm
 ·obtain ⟨x,hx⟩:=qi h
  cases hx
 ·simp at h
theorem En {b:Nat} {ts:List TypeId} {xs:List Operand} {d:D} {aE:List ae} (h:mH T b s ts xs=some (.all d aE)):False:=by
 unfold mH at h
 split at h
 case h_2=>simp at h
 replace h:=(Bool.aq h).2
 split at h
 case h_2=>simp at h
 split at h
 ·rename_i e' he'
  subst h
  unfold nN at he'
  split at he'
  case h_2=>simp at he'
  split at he'
  case h_2=>simp at he'
  split at he'
  case h_2=>simp at he'
  simp only [ak] at he'
  unfold yY at he'
  split at he'
  ·replace he':=(Bool.aq he').2
   unfold pK at he'
   split at he'
   ·replace he':=(Bool.aq he').2; simp at he'
   ·split at he'
    ·replace he':=(Bool.aq he').2
     replace he':=(Bool.aq he').2
     replace he':=(Bool.aq he').2
     simp at he'
    ·simp at he'
   ·simp at he'
  ·obtain ⟨m,hm⟩:=jE he'; cases hm
 ·have fin:∀ {el sz k:Nat} {l':List C} {Jn:Nat} {c:C},Am el sz k l' Jn b s.rs c≠some (.all d aE):=by
   intro el sz k l' Jn c q
   unfold Am at q
   split at q
   ·split at q
    ·simp at q
    ·replace q:=(Bool.aq q).2; simp at q
   ·split at q
    ·replace q:=(Bool.aq q).2
     replace q:=(Bool.aq q).2
     simp at q
    ·split at q
     ·replace q:=(Bool.aq q).2
      replace q:=(Bool.aq q).2
      simp at q
     ·simp at q
    ·simp at q
   ·simp at q
  unfold ng at h
  split at h
  case h_2=>simp at h
  split at h
  case h_2=>simp at h
  split at h
  case h_2=>simp at h
  split at h
  case h_2=>simp at h
  split at h
  ·exact fin (Bool.aq h).2
  ·exact fin (Bool.aq h).2
theorem Dh {lo:Lo} {b:Nat} {dst:Option Tmp} {op:Op} {d:D} {aE:List ae} (h1:∀ c,op ≠ .call c) (h2:∀ t x v,op ≠ .store t x v) (h3:∀ t l c,op ≠ .makeSlice t l c) (h:fk T lo hi b s dst op=some (.all d aE)):False:=by
 unfold fk at h
 split at h
 ·simp at h
 ·cases op with
  | call c=>exact h1 c rfl
  | store t x v=>exact h2 t x v rfl
  | makeSlice t l c=>exact h3 t l c rfl
  | box t x=>
    have h:sQ b s x=_:=h
    unfold sQ at h
    split at h<;>(try split at h)<;>simp at h
  | alloc t=>
    have h:jR T b t=_:=h
    unfold jR at h
    split at h<;>(try split at h)<;>simp at h
  | makeMap t r=>
    have h:jP T b t r=_:=h
    unfold jP at h
    split at h<;>simp at h
  | buildSlice t n ps=>
    have h:H9 T b s (qf hi dst) t n ps.toList=_:=h
    unfold H9 at h
    split at h
    case h_2=>simp at h
    split at h
    case h_2=>simp at h
    split at h
    case h_2=>simp at h
    split at h
    case h_2=>simp at h
    replace h:=(Bool.aq h).2
    rcases iV (qf hi dst) b _ _ n _ with hc|⟨_,_,hc⟩|⟨_,hc⟩<;>rw [hc] at h<;>simp at h
  | mapUpdate t m k v=>
    have h:kO T s dst t m k v=_:=h
    unfold kO at h
    split at h
    ·simp at h
    ·replace h:=(Bool.aq h).2
     split at h
     case h_2=>simp at h
     split at h<;>simp at h
  | _=>simp [fY] at h
def Good (X:iZ) (rs:List ae) (e:bP):Prop:=∀ d aE,e=.all d aE→Grown X.S rs aE
theorem lC {f:FuncId} {ds:List D} {rs:List ae} (h:cl T P f ds rs (X.F f ds rs).1 (js rs (X.F f ds rs))):(bZ T P X).call f ds rs=(jn X).call f ds rs:=by
 simp [bZ,jn,h]
theorem GZ {r:Nat} {ds:List D} {rs:List ae} (h:rk T P r ds rs (X.FY r ds rs).1 (js rs (X.FY r ds rs))):(bZ T P X).Jc r ds rs=(jn X).Jc r ds rs:=by
 simp [bZ,jn,h]
theorem J3 {rs:List ae} {g:FuncId} {ds is:List D} (hr:cP rs ds=some is) (hk:cl T P g is [] (X.F g is []).1 (js [] (X.F g is []))):wu (bZ T P X) rs g ds=wu (jn X) rs g ds:=by
 simp only [wu,hr,lC hk]
theorem Le {rs:List ae} {g:FuncId} {ds is:List D} {b:Nat} (hr:cP rs ds=some is) (hk:cl T P g is [] (X.F g is []).1 (js [] (X.F g is []))):tQ (bZ T P X) rs g ds b=tQ (jn X) rs g ds b:=by
 simp only [tQ,hr,lC hk]
theorem oA {rs:List ae} {ds:List D} {e e':bP} (h:iy rs ds e=some e') (he:∀ d aE,e ≠ .all d aE):Good X rs e':=by
 intro d aE q
 subst q
 rcases et h with ⟨l,hl⟩|⟨hl,_⟩
 ·cases hl
 ·exact (he _ _ hl.symm).elim
theorem Ck {lo:Lo} {rs:List ae} {g:FuncId} {ds:List D} {e:bP} (h:gn lo rs g ds=some e):Good X rs e:=by
 unfold gn at h
 split at h
 case h_2=>simp at h
 rename_i d hd
 cases hp:gK d with
 | true=>rw [hp] at h; simp only [ak] at h; subst h; intro _ _ q; cases q
 | false=>
   rw [hp] at h
   obtain ⟨_,h⟩:=Bool.aq (show (Bool.rec none (iy rs ds (.val d)) (jl d):Option bP)=some e from h)
   exact oA h fun _ _ q=>by cases q
theorem Bt {lo:Lo} {rs:List ae} {g:FuncId} {ds:List D} {b:Nat} {e:bP} (h:fH lo rs g ds b=some e):Good X rs e:=by
 unfold fH at h
 split at h
 ·simp only [ak] at h; subst h; intro _ _ q; cases q
 ·revert h
  generalize eJ _=p
  intro h
  cases p with
  | true=>simp only [ak] at h; subst h; intro _ _ q; cases q
  | false=>exact oA h fun _ _ q=>by cases q
 ·exact oA h fun _ _ q=>by cases q
 ·simp at h
theorem wY {rs:List ae} {g:FuncId} {ds:List D} {k:bP→Prop} (h:xJ T P X rs g ds k):∃ e,gn (bZ T P X) rs g ds=some e∧Good X rs e∧k e:=by
 unfold xJ at h
 split at h
 case h_2=>exact h.elim
 rename_i is hr
 obtain ⟨hk,h⟩:=h
 obtain ⟨e,h1,h2⟩:=b6 h
 refine ⟨e,?_,Ck h1,h2⟩
 rw [← h1]
 simp only [gn,J3 hr hk]
theorem BO {rs:List ae} {g:FuncId} {ds:List D} {k:bP→Prop} (h:L8 T P X rs g ds k):∃ e,rl (bZ T P X) rs g ds=some e∧Good X rs e∧k e:=by
 obtain ⟨hk,h⟩:=h
 obtain ⟨h1,h2⟩:=bG.1 h
 refine ⟨_,by simp only [rl,lC hk,jn],?_,h2⟩
 intro d aE q
 simp only [bP.all.injEq] at q
 exact ⟨_,_,h1,q.2.symm⟩
theorem N3 {rs:List ae} {r:Nat} {ds:List D} {k:bP→Prop} (h:Us T P X rs r ds k):∃ e,yC (bZ T P X) rs r ds=some e∧Good X rs e∧k e:=by
 obtain ⟨hk,h⟩:=h
 obtain ⟨h1,h2⟩:=bG.1 h
 refine ⟨_,by simp only [yC,GZ hk,jn],?_,h2⟩
 intro d aE q
 simp only [bP.all.injEq] at q
 exact ⟨_,_,h1,q.2.symm⟩
theorem Ha {lo:Lo} {rs:List ae} {f:FuncId} {ds:List D} {b:Nat} {e:bP} (h:CV lo rs f ds b=some (true,e)):fH lo rs f ds b=some e:=by
 have tt:∀ {x:Option bP},yV x=some (true,e)→x=some e:=fun {x} q=>by
  cases x with
  | none=>cases q
  | some y=>simp only [yV,ak,a8,true_and] at q; rw [q]
 unfold CV at h
 split at h
 case h_2=>cases h
 rename_i is hi
 split at h
 case h_2=>exact tt h
 rename_i q m aE hc
 split at h
 case h_2=>exact tt h
 rename_i el sz n get hq
 split at h
 case h_2=>cases h
 rename_i e' he
 simp only [ak,a8] at h
 obtain ⟨h1,rfl⟩:=h
 simp only [fH,tQ,hi,hc,hq,h1]
 exact he
theorem HM {rs:List ae} {b:Nat} {g:FuncId} {ds:List D} {k:bP→Prop} (h:Df T P X hi rs b g ds k):∃ e,mL (bZ T P X) hi rs b g ds=some e∧Good X rs e∧k e:=by
 unfold Df at h
 unfold mL
 split at h
 ·rename_i hm
  simp only [hm]
  exact wY h
 ·rename_i hm
  simp only [hm]
  exact BO h
 ·rename_i hm
  simp only [hm]
  split at h
  case h_2=>exact h.elim
  rename_i is hr
  obtain ⟨hk,h⟩:=h
  obtain ⟨⟨c,e⟩,h1,h2⟩:=b6 h
  obtain ⟨h3,h4⟩:=bG.1 h2
  have h3:c=true:=h3
  subst h3
  have h1:=Ha h1
  exact ⟨e,by rw [← h1]; simp only [fH,Le hr hk],Bt h1,h4⟩
 ·rename_i hm
  simp only [hm]
  unfold VM at h
  split at h
  case h_2=>exact h.elim
  rename_i x hx
  obtain ⟨h2,h3⟩:=h
  obtain ⟨h4,h5⟩:=bG.1 h3
  refine ⟨.wr (some x.1) [(x.2.1,x.2.2)],?_,(by intro d aE q; cases q),h5⟩
  unfold MQ bZ
  simp only [hx,if_pos h2,h4]
 ·rename_i hm
  simp only [hm]
  split at h
  case h_2=>exact h.elim
  rename_i is hr
  obtain ⟨hk,h⟩:=h
  obtain ⟨e,h1,h2⟩:=b6 h
  refine ⟨e,by rw [← h1]; simp only [wq,hr,lC hk],?_,h2⟩
  obtain ⟨is',cs,mc,L,_,_,_,_,rfl⟩:=jD h1
  intro d aE q; cases q
 ·rename_i h0 h1 h2 h4 h5
  split
  ·exact absurd (by assumption) h0
  ·exact absurd (by assumption) h1
  ·exact absurd (by assumption) h2
  ·exact absurd (by assumption) h4
  ·exact absurd (by assumption) h5
  ·cases hp:eQ ds with
   | true=>
     rw [hp] at h
     exact wY h
   | false=>
     rw [hp] at h
     exact BO h
theorem HJ {b:Nat} {f:Operand} {xs:List Operand} {k:bP→Prop} (h:Eg T P X hi b s f xs k):∃ e,kG (bZ T P X) hi b s f xs=some e∧Good X s.rs e∧k e:=by
 unfold Eg at h
 unfold kG
 split at h
 case h_2=>exact h.elim
 rename_i c ds hc hd
 simp only [hc,hd]
 split at h
 ·exact N3 h
 ·rename_i hy
  split at h
  case h_2=>exact h.elim
  rename_i g dR hg
  obtain ⟨e,h1,h2⟩:=HM h
  refine ⟨e,?_,h2⟩
  cases c<;>first|(simp only [hg]; exact h1)|exact absurd rfl (hy _)
theorem Mp {b:Nat} {c:Call} {dst:Option Tmp} {k:bP→Prop} (h:JX T P X hi b s c k):∃ e,fk T (bZ T P X) hi b s dst (.call c)=some e∧Good X s.rs e∧k e:=by
 unfold JX at h
 unfold fk
 split at h
 ·rename_i d hd
  have hl:eK T s (.call c)=some d:=hd
  rw [hl]
  exact ⟨_,rfl,(fun _ _ q=>by cases q),h⟩
 ·rename_i hd
  have hl:eK T s (.call c)=none:=hd
  rw [hl]
  show ∃ e,fQ T (bZ T P X) hi b s c=some e∧Good X s.rs e∧k e
  unfold fQ
  split at h
  ·rename_i hc
   simp only [hc]
   obtain ⟨e,h1,h2⟩:=PC h
   refine ⟨e,h1,fun d aE q=>?_,h2⟩
   subst q
   have h3:fk T (bZ T P X) hi b s dst (.call c)=some (.all d aE):=by
    unfold fk; rw [hl]; show fQ T (bZ T P X) hi b s c=_; unfold fQ; simp only [hc]; exact h1
   exact (En h1).elim
  ·rename_i hc
   simp only [hc]
   exact HJ h
  ·exact h.elim
theorem yz {b:Nat} {dst:Option Tmp} {op:Op} {k:bP→Prop} (h:Mo T P X hi b s dst op k):∃ e,fk T (bZ T P X) hi b s dst op=some e∧Good X s.rs e∧k e:=by
 have gv:∀ d:D,Good X s.rs (.val d):=fun d _ _ q=>by cases q
 unfold Mo at h
 split at h
 ·rename_i t x i
  obtain ⟨d,h1,h2⟩:=Ho h
  have hl:eK T s (.indexAddr t x i)=some d:=h1
  exact ⟨_,by unfold fk; rw [hl],gv _,h2⟩
 ·rename_i c x y
  obtain ⟨d,h1,h2⟩:=Mq h
  have hl:eK T s (.pick c x y)=some d:=h1
  exact ⟨_,by unfold fk; rw [hl],gv _,h2⟩
 ·rename_i t x lo h0 mx
  obtain ⟨d,h1,h2⟩:=Hk h
  have hl:eK T s (.slice t x lo h0 mx)=some d:=h1
  exact ⟨_,by unfold fk; rw [hl],gv _,h2⟩
 ·rename_i t x
  obtain ⟨d,h1,h2⟩:=JB h
  have hl:eK T s (.load t x)=some d:=h1
  exact ⟨_,by unfold fk; rw [hl],gv _,h2⟩
 ·rename_i o t x y t2
  obtain ⟨d,h1,h2⟩:=N7 h
  have hl:eK T s (.binOp o t x y t2)=some d:=h1
  exact ⟨_,by unfold fk; rw [hl],gv _,h2⟩
 ·rename_i t x v
  obtain ⟨e,h1,h2⟩:=H0 (lo:=bZ T P X) (hi:=hi) (b:=b) h
  exact ⟨e,h1,fun d aE q=>(zP (q▸h1)).elim,h2⟩
 ·rename_i t l c
  obtain ⟨e,h1,h2⟩:=Mx h
  refine ⟨e,h1,fun d aE q=>?_,h2⟩
  subst q
  unfold kY at h1
  repeat (first|(split at h1)|(replace h1:=(Bool.aq h1).2))
  all_goals simp at h1
 ·exact Mp h
 ·rename_i op0 n1 n2 n3 n4 n5 n6 n7 n8
  obtain ⟨e,h1,h2⟩:=b6 h
  have hw:fY T (bZ T P X) hi b s dst op=fY T (jn X) hi b s dst op:=by
   cases op<;>first|(simp only [fY]; done)|exact (n8 _ rfl).elim
  refine ⟨e,?_,fun d aE q=>?_,h2⟩
  ·rw [← h1]
   unfold fk
   rw [hw]
  ·subst q
   exact (Dh (fun c q=>n8 c q) (fun t x v q=>n6 t x v q) (fun t l c q=>n7 t l c q) h1).elim
theorem ud {t:Tmp} {b:Bool}:∀ {sl:aG},eb sl t=some (bool b)→KO t b sl=sl
 | [],h=>by simp [eb] at h
 | x::l,h=>by
   have h:(Bool.rec (eb l t) (some x.2.1) (Nat.beq x.1 t):Option D)=some (bool b):=h
   show (Bool.rec (x::KO t b l) ((x.1,bool b,x.2.2)::l) (Nat.beq x.1 t):aG)=x::l
   cases hb:Nat.beq x.1 t with
   | true=>
     rw [hb] at h
     simp only [ak] at h
     rw [← h]
   | false=>
     rw [hb] at h
     simp only
     rw [ud h]
theorem iF {t:Tmp} {b:Bool} {s:VS} (h:eb s.sl t=some (bool b)):sw t b s=s:=by
 unfold sw
 rw [ud h]
theorem Jr {s:VS} {c:Operand} {p:Bool} {A B:VS→Prop} (hp:iz (bO s.sl c)=some p) (h:Gu s c p A B):(p=true∧A s)∨(p=false∧B s):=by
 unfold Gu at h
 split at h
 ·rcases ue h with ⟨rfl,h⟩|⟨rfl,h⟩
  ·rw [iF (eu hp)] at h; exact .inl ⟨rfl,h⟩
  ·rw [iF (eu hp)] at h; exact .inr ⟨rfl,h⟩
 ·exact ue h
theorem Bq {ops:List Oper} {s:VS} {g:Option (Nat×Bool)} {A B:VS→Prop} (h:EP ops s g A B):(kP ops s.sl g=some true∧A s)∨(kP ops s.sl g=some false∧B s):=by
 unfold EP at h
 unfold kP
 split at h
 ·exact .inl ⟨rfl,h⟩
 ·rename_i j want
  split at h
  case h_2=>exact h.elim
  rename_i p hp
  split at h
  case h_2=>exact h.elim
  rename_i t ht
  simp only [hp,ht]
  split at h
  ·rename_i hl
   exact .inr ⟨by rw [hl]; rfl,h⟩
  ·rename_i d hl
   split at h
   case h_2=>exact h.elim
   rename_i x hx
   have hw:FI (eb s.sl t) want=some (G0 x want):=by
    unfold FI
    split
    ·exact absurd (by assumption) hl
    ·rw [hx]
   rw [hw]
   have Tz:=eu hx
   cases want with
   | true=>
     rcases ue (b:=x) h with ⟨rfl,h⟩|⟨rfl,h⟩
     ·exact .inl ⟨rfl,by rw [iF Tz] at h; exact h⟩
     ·exact .inr ⟨rfl,by rw [iF Tz] at h; exact h⟩
   | false=>
     rcases ue (b:=x) h with ⟨rfl,h⟩|⟨rfl,h⟩
     ·exact .inr ⟨rfl,by rw [iF Tz] at h; exact h⟩
     ·exact .inl ⟨rfl,by rw [iF Tz] at h; exact h⟩
theorem BX {dst:Option Tmp} {k:VS→Prop} {again:List Nat→Prop} {e:bP} (h:Gm N s dst k again e):(∃ l,e=.cp l∧again l)∨((∀ l,e ≠ .cp l)∧∃ s',oi N s dst e=some s'∧k s'):=by
 unfold Gm at h
 split at h
 ·exact .inl ⟨_,rfl,h⟩
 ·rename_i hn
  exact .inr ⟨hn,b6 h⟩
theorem Jb {dst:Option Tmp} {op:Op} {k:VS→Prop} (h:Ls T P X hi N s dst op k):∃ s',AU T (bZ T P X) hi N s dst op=some s'∧k s':=by
 unfold Ls at h
 obtain ⟨e,h1,_,h2⟩:=yz h
 unfold AU
 rw [h1]
 rcases BX h2 with ⟨l,rfl,h2⟩|⟨hn,s',h2,h3⟩
 ·obtain ⟨s1,h3,h4⟩:=b6 h2
  obtain ⟨e1,h5,_,h6⟩:=yz h4
  simp only [h3,Mc,h5]
  rcases BX h6 with ⟨l,rfl,h7⟩|⟨_,s',h7,h8⟩
  ·exact h7.elim
  ·exact ⟨s',h7,h8⟩
 ·refine ⟨s',?_,h3⟩
  cases e<;>first|exact h2|exact absurd rfl (hn _)
theorem Tm {ops:List Oper} {o:Oper} {k:VS→Prop} (h:Wu T P X hi N ops s o k):∃ s',Tv T (bZ T P X) hi N ops s o=some s'∧k s':=by
 unfold Wu at h
 unfold Tv
 rcases Bq h with ⟨h1,h2⟩|⟨h1,h2⟩
 ·rw [h1]; exact Jb h2
 ·rw [h1]; exact b6 h2
theorem Fg {ops:List Oper}:∀ (l:List Oper) {s:VS} {k:VS→Prop},Sk T P X hi N ops l s k→∃ s',Hs T (bZ T P X) hi N ops l s=some s'∧k s'
 | [],s,k,h=>⟨s,rfl,h⟩
 | o::l,s,k,h=>by
   have h:Wu T P X hi N ops s o (fun s'=>Sk T P X hi N ops l s' k):=h
   obtain ⟨s1,h1,h2⟩:=Tm h
   obtain ⟨s2,h3,h4⟩:=Fg l h2
   refine ⟨s2,?_,h4⟩
   show (match Tv T (bZ T P X) hi N ops s o with
    | some s'=>Hs T (bZ T P X) hi N ops l s'
    | none=>none)=some s2
   rw [h1]
   exact h3
theorem Bm {b4:List Nat} {i b:Nat} {ops:List Oper} {o:Oper} {k:VS→Ir→Prop} (h:evalW T P X hi b4 i b ops s o k):∃ u,j5 T (bZ T P X) hi b4 i b ops s o=some u∧k s u:=by
 unfold evalW at h
 unfold j5
 rcases Bq h with ⟨h1,h2⟩|⟨h1,h2⟩
 ·rw [h1]
  obtain ⟨e,h3,h4,h5⟩:=yz h2
  simp only [h3]
  unfold Um at h5
  obtain ⟨u,h6,h7⟩:=b6 h5
  cases e with
  | val d=>
    simp only [AK,ak] at h6 ⊢
    subst h6
    exact ⟨_,rfl,h7⟩
  | wr d ws=>
    simp only [AK,ak] at h6 ⊢
    subst h6
    exact ⟨_,rfl,h7⟩
  | cp l=>
    simp only [AK,ak] at h6 ⊢
    subst h6
    exact ⟨_,rfl,h7⟩
  | all d aE=>
    simp only [AK] at h6 ⊢
    cases hb:AP b4 i with
    | true=>
      rw [hb] at h6
      simp only [ak] at h6 ⊢
      subst h6
      exact ⟨_,rfl,h7⟩
    | false=>
      rw [hb] at h6
      have h6:H5 (jn X) o.dst d s.rs aE=some u:=h6
      show ∃ u,H5 (bZ T P X) o.dst d s.rs aE=some u∧k s u
      unfold H5 at h6 ⊢
      simp only [jn] at h6
      obtain ⟨h8,h9⟩:=Bool.aq h6
      simp only [ak] at h9
      subst h9
      obtain ⟨Ar,S8⟩:=bG.1 h7
      have hd:(bZ T P X).diff s.rs aE=some (jo X.S aE):=by
       simp only [bZ]
       rw [if_pos ⟨h4 d aE rfl,Ar⟩]
      simp only [hd,h8]
      exact ⟨_,rfl,S8⟩
 ·rw [h1]; exact ⟨_,rfl,h2⟩
theorem wZ {b4:List Nat} {ops:List Oper}:∀ (l:List Oper) {k b:Nat} {W:List (Nat×List Nat)} {s:VS} {q:xQ→Prop},zZ T P X hi N b4 ops l k b W s q→∃ r,kI T (bZ T P X) hi N b4 ops l k b W s=some r∧q r
 | [],k,b,W,s,q,h=>⟨_,rfl,h⟩
 | o::l,k,b,W,s,q,h=>by
   have h:evalW T P X hi b4 k b ops s o (fun s u=>match u with
    | .ok u=>nd (Ao N u.dst u.val) (zZ T P X hi N b4 ops l (k+1) (b+dN o.op) (Bu k u W) (u.on s) q)
    | .cp c=>q (.cp c)):=h
   obtain ⟨u,h1,h2⟩:=Bm h
   have hf:kI T (bZ T P X) hi N b4 ops (o::l) k b W s=(match j5 T (bZ T P X) hi b4 k b ops s o with
    | some (.ok u)=>Bool.rec none (kI T (bZ T P X) hi N b4 ops l (k+1) (b+dN o.op) (Bu k u W) (u.on s)) (Ao N u.dst u.val)
    | some (.cp c)=>some (.cp c)
    | none=>none):=rfl
   rw [hf,h1]
   cases u with
   | cp c=>exact ⟨_,rfl,h2⟩
   | ok u=>
     obtain ⟨h3,h4⟩:=bG.1 h2
     obtain ⟨r,h5,h6⟩:=wZ l h4
     refine ⟨r,?_,h6⟩
     simp only [h3]
     exact h5
theorem vp {ops:List Oper} {b4:List Nat} {W:List (Nat×List Nat)}:∀ (l:List Oper) {ms:List Nat} {i b:Nat} {s:VS} {q:VS→Prop},zc T P X hi N ops b4 W l ms i b s q→∃ r,jx T (bZ T P X) hi N ops b4 W l ms i b s=some r∧q r
 | [],ms,i,b,s,q,h=>⟨_,rfl,h⟩
 | o::l,ms,i,b,s,q,h=>by
   cases ms with
   | nil=>exact (show False from h).elim
   | cons m ms=>
     have h:evalW T P X hi b4 i b ops (Nd (dT b4 i m W) s) o (fun s1 u=>match u with
      | .ok u=>nd (Ao N u.dst u.val&&(xz (u.ws.map (·.1)) (lA i W)&&(lU (u.ws.map (·.1)) (dT b4 i m W)&&MO u.ex (dT b4 i m W)))) (zc T P X hi N ops b4 W l ms (i+1) (b+dN o.op) (u.on { s with sl:=s1.sl }) q)
      | .cp _=>False):=h
     obtain ⟨u,h1,h2⟩:=Bm h
     have FO:(Nd (dT b4 i m W) s).sl=s.sl:=by cases dT b4 i m W<;>rfl
     simp only [FO] at h2
     have hf:jx T (bZ T P X) hi N ops b4 W (o::l) (m::ms) i b s=(match j5 T (bZ T P X) hi b4 i b ops (Nd (dT b4 i m W) s) o with
      | some (.ok u)=>Bool.rec none (jx T (bZ T P X) hi N ops b4 W l ms (i+1) (b+dN o.op) (u.on s)) (Ao N u.dst u.val&&(xz (u.ws.map (·.1)) (lA i W)&&(lU (u.ws.map (·.1)) (dT b4 i m W)&&MO u.ex (dT b4 i m W))))
      | _=>none):=rfl
     rw [hf,h1]
     cases u with
     | cp c=>exact h2.elim
     | ok u=>
       obtain ⟨h3,h4⟩:=bG.1 h2
       obtain ⟨r,h5,h6⟩:=vp l h4
       refine ⟨r,?_,h6⟩
       simp only [h3]
       exact h5
theorem w6 {ops:List Oper}:∀ (n:Nat) {s:VS} {k:VS→Prop},Ea T P X hi N ops n s k→∃ s',tJ T (bZ T P X) hi N ops n s=some s'∧k s'
 | 0,s,k,h=>(show False from h).elim
 | n+1,s,k,h=>by
   have h:zZ T P X hi N (iu ops []) ops ops 0 s.rs.length [] (ft ops s) (fun r=>match r with
    | .cp l=>cn (fV l s) fun s'=>Ea T P X hi N ops n s' k
    | .ok W s'=>zB T P X hi N ops (ft ops s) s' s.rs.length W k):=h
   obtain ⟨r,h1,h2⟩:=wZ _ h
   have hf:tJ T (bZ T P X) hi N ops (n+1) s=(match kI T (bZ T P X) hi N (iu ops []) ops ops 0 s.rs.length [] (ft ops s) with
    | some (.cp l)=>match fV l s with
      | some s'=>tJ T (bZ T P X) hi N ops n s'
      | none=>none
    | some (.ok W s')=>xf T (bZ T P X) hi N ops (ft ops s) s' s.rs.length W
    | none=>none):=rfl
   rw [hf,h1]
   cases r with
   | cp l=>
     obtain ⟨s1,h3,h4⟩:=b6 h2
     simp only [h3]
     exact w6 n h4
   | ok W s' =>
     have h2:zB T P X hi N ops (ft ops s) s' s.rs.length W k:=h2
     show ∃ s2,xf T (bZ T P X) hi N ops (ft ops s) s' s.rs.length W=some s2∧k s2
     unfold zB at h2
     unfold xf
     split at h2
     ·exact ⟨_,rfl,h2⟩
     ·rename_i hW
      split
      ·exact absurd rfl hW
      ·exact vp _ h2
theorem CO {f:FuncId} {ro:Option Nat} {id:Nat} {ops:List Oper} {draw:Bool} {k:VS→Prop} (h:ta T P X hi N f ro id ops draw s k):∃ s',regionF T (bZ T P X) hi N f ro id ops draw s=some s'∧k s':=by
 unfold ta at h
 cases draw with
 | false=>
   obtain ⟨s1,h1,h2⟩:=Fg _ h
   refine ⟨_,?_,h2⟩
   show (match Hs T (bZ T P X) hi N ops ops s with
    | some s'=>some (pT hi f id s')
    | none=>none)=_
   rw [h1]
 | true=>
   simp only at h
   cases ro with
   | some r=>exact (show False from h).elim
   | none=>
   simp only at h
   split at h
   case h_2=>exact h.elim
   rename_i mg
   obtain ⟨s1,h1,h2⟩:=w6 _ h
   refine ⟨_,?_,h2⟩
   show (match pV ops with
    | true=>match tJ T (bZ T P X) hi N ops 8 s with
      | some s'=>some (pT hi f id s')
      | none=>none
    | false=>none)=_
   rw [mg,h1]
end
end
end Go.V
