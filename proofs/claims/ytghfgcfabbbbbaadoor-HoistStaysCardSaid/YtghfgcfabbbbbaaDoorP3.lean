/- Operations that turn memory: what they read, which roots they write. -/
import Derived.Test.YtghfgcfabbbbbaaDoorP2
import Derived.OrdersIn
import Derived.RangeFuncNested
import Derived.RangeFuncLeaves
set_option linter.unusedSimpArgs false
set_option linter.unusedVariables false
namespace Go.V
noncomputable section
section
variable {T:dY} {lo:Lo} {hi:Hint} {sl gy:aN} {rs aG:List ah} {df C2:List Nat}
theorem jH (hr:pJ rs aG) {q:Nat} {rec Ps:List C→Option (List I)} (mb:∀ l r,rec l=some r→Ps l=some r) {x:I} (e:kb rs q rec=some x):kb aG q Ps=some x:=by
 unfold kb at e ⊢
 split at e
 case h_2=>simp at e
 rename_i h1
 split at e
 case h_2=>simp at e
 rename_i h2
 simp only [hr.nth h1 trivial,mb _ _ h2]
 exact e
theorem yW (hr:pJ rs aG) {rec Ps:List C→Option (List I)} (mb:∀ l r,rec l=some r→Ps l=some r) {c:C} {x:I} (e:nr rs rec c=some x):nr aG Ps c=some x:=by
 unfold nr at e ⊢
 split at e
 ·exact e
 ·exact jH hr mb e
 ·split at e
  ·rename_i h1; rw [hr.nth h1 trivial]; exact e
  ·rename_i h1
   rw [hr.nth h1 trivial]
   split at e
   case h_2=>simp at e
   rename_i h2
   split at e
   case h_2=>simp at e
   rename_i h3
   simp only [h2,mb _ _ h3]
   exact e
  ·rename_i h1; rw [hr.nth h1 trivial]; exact e
  ·simp at e
 ·split at e
  ·rename_i h1; rw [hr.nth h1 trivial]; exact e
  ·simp at e
 ·exact e
 ·split at e
  case h_2=>simp at e
  rename_i h1
  simp only [jH hr mb h1]
  exact e
 ·split at e
  case h_2=>simp at e
  rename_i h1 h2
  simp only [jH hr mb h1,jH hr mb h2]
  exact e
 ·split at e
  case h_2=>simp at e
  rename_i h1 h2 h3
  simp only [jH hr mb h1,jH hr mb h2,jH hr mb h3]
  exact e
 ·simp at e
theorem Cg {α β:Type} {f g:α→Option β} (h:∀ x y,f x=some y→g x=some y):∀ {l:List α} {r:List β},re f l=some r→re g l=some r
 | [],r,e=>e
 | x::l,r,e=>by
   simp only [re] at e ⊢
   split at e
   case h_2=>simp at e
   rename_i h1 h2
   simp only [h _ _ h1,Cg h h2]
   exact e
theorem sB (hr:pJ rs aG):∀ (k:Nat) (l:List C) (r:List I),reify k rs l=some r→reify k aG l=some r
 | 0,l,r,e=>Cg (fun x y h=>yW hr (fun _ _ h=>h) h) e
 | k+1,l,r,e=>Cg (fun x y h=>yW hr (sB hr k) h) e
theorem zL (hr:pJ rs aG):∀ {l r:List (Bool×List C)},bj.reifyT rs l=some r→bj.reifyT aG l=some r
 | [],r,e=>e
 | (b,l)::m,r,e=>by
   simp only [bj.reifyT] at e ⊢
   split at e
   case h_2=>simp at e
   rename_i h1 h2
   simp only [sB hr _ _ _ h1,zL hr h2]
   exact e
theorem Ki (hr:pJ rs aG) {d d':D} (e:bj rs d=some d'):bj aG d=some d':=by
 cases d with
 | c x=>
   simp only [bj] at e ⊢
   split at e
   case h_2=>simp at e
   rename_i h1
   simp only [sB hr _ _ _ h1]
   exact e
 | a l=>
   simp only [bj] at e ⊢
   split at e
   case h_2=>simp at e
   rename_i h1
   simp only [sB hr _ _ _ h1]
   exact e
 | t l=>
   simp only [bj] at e ⊢
   split at e
   case h_2=>simp at e
   rename_i h1
   simp only [zL hr h1]
   exact e
theorem nu (hr:pJ rs aG):∀ {l r:List D},dG rs l=some r→dG aG l=some r
 | [],r,e=>e
 | d::l,r,e=>by
   simp only [dG] at e ⊢
   split at e
   case h_2=>simp at e
   rename_i h1 h2
   simp only [Ki hr h1,nu hr h2]
   exact e
theorem qN {rec:List C→Option (List Nat)}:∀ {l:List C},fX l=true→EV rec rs l=some []
 | [],_=>rfl
 | c::l,h=>by
   cases c with
   | im x=>
     have:=qN (rec:=rec) (l:=l) (by simpa [fX] using h)
     show (match (some []:Option (List Nat)) with
      | some a=>match EV rec rs l with
        | some b=>some (a++b)
        | none=>none
      | none=>none)=some []
     rw [this]; rfl
   | _=>simp [fX] at h
theorem Eo:∀ {ds:List D},uF rs ds=some []→uF aG ds=some []
 | [],_=>rfl
 | d::ds,h=>by
   have h:(match HO rs d,uF rs ds with
    | some a,some b=>some (a++b)
    | _,_=>none)=some []:=h
   split at h
   case h_2=>simp at h
   rename_i m k hm hk
   simp only [aq,List.append_eq_nil_iff] at h
   obtain ⟨rfl,rfl⟩:=h
   have hd:HO aG d=some []:=by
    cases d with
    | c x=>exact qN (mK (l:=[x]) hm)
    | a l=>exact qN (mK (l:=l) hm)
    | t l=>simp [HO] at hm
   show (match HO aG d,uF aG ds with
    | some a,some b=>some (a++b)
    | _,_=>none)=some []
   rw [hd,Eo hk]; rfl
theorem yh {ds:List D} {e e':cF} (hc:∀ l,e' ≠ .cX l) (h:jQ rs ds e=some e'):jQ aG ds e=some e':=by
 rcases fh h with ⟨l,hl⟩|⟨rfl,hs⟩
 ·exact (hc l hl).elim
 ·unfold jQ
  rw [Eo hs]
theorem Ti (hr:pJ rs aG) {f:FuncId} {ds:List D} {d:D} (e:yP lo rs f ds=some d):yP lo aG f ds=some d:=by
 unfold yP at e ⊢
 split at e
 case h_2=>simp at e
 rename_i h1
 simp only [nu hr h1]
 exact e
theorem Cl (hr:pJ rs aG) {f:FuncId} {ds:List D} {b:Nat} {d:cF} (e:yz lo rs f ds b=some d):yz lo aG f ds b=some d:=by
 unfold yz at e ⊢
 split at e
 case h_2=>simp at e
 rename_i h1
 simp only [nu hr h1]
 exact e
theorem zQ (hr:pJ rs aG) {f:FuncId} {ds:List D} {e:cF} (hc:∀ l,e ≠ .cX l) (h:ie lo rs f ds=some e):ie lo aG f ds=some e:=by
 unfold ie at h ⊢
 split at h
 case h_2=>simp at h
 rename_i d hd
 simp only [Ti hr hd]
 cases hp:iG d with
 | true=>rw [hp] at h; exact h
 | false=>
   rw [hp] at h
   cases hq:kr d with
   | true=>rw [hq] at h; exact yh hc h
   | false=>rw [hq] at h; simp at h
theorem LF (hr:pJ rs aG) {f:FuncId} {ds:List D} {b:Nat} {e:cF} (hc:∀ l,e ≠ .cX l) (h:iD lo rs f ds b=some e):iD lo aG f ds b=some e:=by
 unfold iD at h ⊢
 split at h
 ·rename_i ho; rw [Cl hr ho]; exact h
 ·rename_i ho
  rw [Cl hr ho]
  simp only
  revert h
  generalize fB _=p
  intro h
  cases p with
  | true=>exact h
  | false=>exact yh hc h
 ·rename_i ho
  rw [Cl hr ho]
  exact yh hc h
 ·simp at h
theorem QC (hr:pJ rs aG) {f:FuncId} {ds:List D} {b:Nat} {e:cF} (h:yN lo rs f ds b=some e):yN lo aG f ds b=some e:=by
 obtain ⟨is,cs,ob,L,hp,hi,hc,hm,rfl⟩:=kD h
 simp only [yN,hp,nu hr hi,hc,hm]
theorem HA {b:Nat} {f:FuncId} {ds:List D} {d:Option D} {ws:List (Nat×ah)} (h:yN lo rs f ds b=some (.wr d ws)):∃ x,ws=[(b,x)]:=by
 obtain ⟨is,cs,ob,L,hp,hi,hc,hm,he⟩:=kD h
 simp only [cF.wr.injEq] at he
 exact ⟨_,he.2⟩
def Cq (lo:Lo):Prop:=∀ f ds rs pQ r,rs.length=pQ.length→(∀ (q:Nat) (x:ah),aV rs q=some x→x.live→aV pQ q=some x)→lo.wr f ds rs=some r→lo.wr f ds pQ=some r
theorem XF (hm:Cq lo) (hlen:rs.length=aG.length) (hr:pJ rs aG) {f:FuncId} {ds:List D} {e:cF} (h:Qx lo rs f ds=some e):Qx lo aG f ds=some e:=by
 unfold Qx at h ⊢
 split at h
 case h_2=>simp at h
 rename_i d q x hd
 rw [hm _ _ _ _ _ hlen hr hd,← hlen]
 exact h
theorem Nb (hm:Cq lo) (hlen:rs.length=aG.length) (hr:pJ rs aG) {b:Nat} {f:FuncId} {ds:List D} {e:cF} (hc:∀ l,e ≠ .cX l) (ha:∀ d r,e=.all d r→rs=aG) (h:oi lo hi rs b f ds=some e):oi lo hi aG b f ds=some e:=by
 have hE:tn lo rs f ds=some e→tn lo aG f ds=some e:=fun h=>by
  have h0:=h
  unfold tn at h
  split at h
  ·simp only [aq] at h
   rw [← ha _ _ h.symm]; exact h0
  ·simp at h
 unfold oi at h ⊢
 split at h
 ·exact zQ hr hc h
 ·exact hE h
 ·exact LF hr hc h
 ·exact XF hm hlen hr h
 ·exact QC hr h
 ·cases hp:fH ds with
  | true=>rw [hp] at h; exact zQ hr hc h
  | false=>rw [hp] at h; exact hE h
theorem TC {r:Nat} {ds:List D} {e:cF} (ha:∀ d r,e=.all d r→rs=aG) (h:Ak lo rs r ds=some e):Ak lo aG r ds=some e:=by
 have h0:=h
 unfold Ak at h
 split at h
 ·simp only [aq] at h
  rw [← ha _ _ h.symm]; exact h0
 ·simp at h
theorem R4 (hr:pJ rs aG) {c:C} {x:Nat×Nat×List C} (e:wS rs c=some x):wS aG c=some x:=by
 unfold wS at e ⊢
 split at e
 ·exact e
 ·exact e
 ·split at e
  ·rename_i hq; rw [hr _ _ hq trivial]; exact e
  ·rename_i hq; rw [hr _ _ hq trivial]; exact e
  ·simp at e
 ·simp at e
theorem SL (hr:pJ rs aG) {sz:Nat} {c:C} {x:Nat×(Nat→Nat→I)} (e:sQ sz rs c=some x):sQ sz aG c=some x:=by
 unfold sQ at e ⊢
 split at e
 ·exact e
 ·exact e
 ·split at e
  ·rename_i hq; rw [hr _ _ hq trivial]; exact e
  ·rename_i hq; rw [hr _ _ hq trivial]; exact e
  ·simp at e
 ·simp at e
theorem Vi (hr:pJ rs aG) {c src:C} (e:LQ rs c src=true):LQ aG c src=true:=by
 unfold LQ at e ⊢
 split at e
 ·split at e
  ·rename_i hq; rw [hr _ _ hq trivial]
  ·simp at e
 ·split at e
  ·rfl
  ·split at e
   ·rename_i hq; rw [hr _ _ hq trivial]
   ·simp at e
  ·simp at e
 ·simp at e
theorem Tt (hr:pJ rs aG) {el sz k:Nat} {l':Nat→Nat→I} {bytes b:Nat} {c:C} {e:cF} (h:qx el sz k l' bytes b rs c=some e):qx el sz k l' bytes b aG c=some e:=by
 unfold qx at h ⊢
 split at h
 ·exact h
 ·split at h
  ·rename_i hq; rw [hr _ _ hq trivial]; exact h
  ·simp at h
 ·simp at h
theorem kT {l:List C} {e:cF} (h:ot rs l=some e):∃ m,e=.cX m:=by
 unfold ot at h
 split at h
 ·simp only [aq] at h; exact ⟨_,h.symm⟩
 ·simp at h
theorem GP {b:Nat} {t t':TypeId} {x y:Operand} {e:cF} {s:VS} (h:pw T b s [t,t'] [x,y]=some e):∃ xo wZ z0 el,T.ty t=some ⟨xo,wZ,z0,.slice el⟩∧Nat.beq t t'=true∧
  ((pX T el b s.rs (dE (cA s.sl x)) (dE (cA s.sl y))=some (some e))∨(pX T el b s.rs (dE (cA s.sl x)) (dE (cA s.sl y))=none∧pj T el b s.rs (dE (cA s.sl x)) (dE (cA s.sl y))=some e)):=by
 obtain ⟨h1,h2⟩:=Bool.au (show (Bool.rec none _ (Nat.beq t t'):Option cF)=some e from h)
 split at h2
 case h_2=>simp at h2
 rename_i hy
 refine ⟨_,_,_,_,hy,h1,?_⟩
 split at h2
 ·rename_i h3; subst h2; exact .inl h3
 ·rename_i h3; exact .inr ⟨h3,h2⟩
theorem Nq (hr:pJ rs aG) {el sz k:Nat} {l':List C} {bytes b:Nat} {c:C} {e:cF} (h:C3 el sz k l' bytes b rs c=some e):C3 el sz k l' bytes b aG c=some e:=by
 unfold C3 at h ⊢
 split at h
 ·exact h
 ·split at h
  ·rename_i hq; rw [hr _ _ hq trivial]; exact h
  ·rename_i hq; rw [hr _ _ hq trivial]; exact h
  ·simp at h
 ·simp at h
theorem Sg (hr:pJ rs aG) {el b:Nat} {x src:Option C} {e:cF} (h:pj T el b rs x src=some e):pj T el b aG x src=some e:=by
 unfold pj at h ⊢
 split at h
 case h_2=>simp at h
 rename_i h1
 split at h
 case h_2=>simp at h
 split at h
 case h_2=>simp at h
 rename_i h3
 split at h
 case h_2=>simp at h
 simp only [R4 hr h3]
 split at h
 ·obtain ⟨h5,h6⟩:=Bool.au h
  simp only [h5]
  exact Nq hr h6
 ·obtain ⟨h5,h6⟩:=Bool.au h
  simp only [h5]
  exact Nq hr h6
theorem TN (hr:pJ rs aG) {el b:Nat} {x src:Option C} {e:cF} (hc:∀ l,e ≠ .cX l) (h:pX T el b rs x src=some (some e)):pX T el b aG x src=some (some e):=by
 unfold pX at h ⊢
 split at h
 case h_2=>simp at h
 split at h
 case h_2=>simp at h
 rename_i hg
 simp only [Vi hr hg]
 split at h
 case h_2=>simp at h
 rename_i hy
 simp only [aq] at h ⊢
 unfold Bb at h ⊢
 split at h
 ·rename_i h1
  obtain ⟨h2,h3⟩:=Bool.au h
  simp only [SL hr h1,h2]
  exact Tt hr h3
 ·obtain ⟨m,hm⟩:=kT h
  exact (hc m hm).elim
theorem W9 (hr:pJ rs aG) {el b:Nat} {c src:C} {e:cF} (h:pj T el b rs (some c) (some src)=some e) (hg:LQ rs c src=false):LQ aG c src=false:=by
 unfold pj at h
 split at h
 case h_2=>simp at h
 simp only at h
 split at h
 case h_2=>simp at h
 rename_i h3
 have hap:∃ sz k l' bytes,C3 el sz k l' bytes b rs c=some e:=by
  split at h
  ·exact ⟨_,_,_,_,(Bool.au h).2⟩
  ·exact ⟨_,_,_,_,(Bool.au h).2⟩
 obtain ⟨sz,k,l',bytes,hap⟩:=hap
 unfold C3 at hap
 split at hap
 ·unfold wS at h3
  split at h3
  ·simp [LQ] at hg
  ·rfl
  ·split at h3
   ·rename_i hq; simp only [LQ,hr _ _ hq trivial]
   ·rename_i hq; simp [LQ,hq] at hg
   ·simp at h3
  ·simp at h3
 ·split at hap
  ·rename_i hq; simp only [LQ,hr _ _ hq trivial]
  ·rename_i hq; simp only [LQ,hr _ _ hq trivial]
  ·simp at hap
 ·simp at hap
theorem Sm (hr:pJ rs aG) {b:Nat} {ts:List TypeId} {xs:List Operand} {e:cF} (hc:∀ l,e ≠ .cX l) (h:pw T b ⟨sl,rs,df⟩ ts xs=some e):pw T b ⟨sl,aG,df⟩ ts xs=some e:=by
 have h0:=h
 unfold pw at h ⊢
 split at h
 case h_2=>simp at h
 rename_i t t' x y
 obtain ⟨xo,wZ,z0,el,hy,ht,hcase⟩:=GP h0
 simp only at hcase
 simp only [ht,hy]
 rcases hcase with hcase|⟨hn,hcase⟩
 ·rw [TN hr hc hcase]
 ·have xY:pX T el b aG (dE (cA sl x)) (dE (cA sl y))=none:=by
   unfold pX at hn ⊢
   split at hn
   ·rename_i c src h1 h2
    rw [h1,h2] at hcase
    split at hn
    ·split at hn<;>simp at hn
    ·rename_i hg
     simp only [W9 hr hcase hg]
   ·rfl
  rw [xY]
  exact Sg hr hcase
theorem MD (hm:Cq lo) (hlen:rs.length=aG.length) (hr:pJ rs aG) {b:Nat} {dst:Option Tmp} {op:Op} {e:cF} (hc:∀ l,e ≠ .cX l) (ha:∀ d r,e=.all d r→rs=aG)
  (h:hJ T lo hi b ⟨sl,rs,df⟩ dst op=some e):hJ T lo hi b ⟨sl,aG,df⟩ dst op=some e:=by
 cases op with
 | store t x v=>
   have h:ij T ⟨sl,rs,df⟩ dst t x v=some e:=h
   show ij T ⟨sl,aG,df⟩ dst t x v=some e
   unfold ij at h ⊢
   split at h
   ·simp at h
   ·split at h
    case h_2=>simp at h
    rename_i h1 h2
    split at h
    case h_2=>simp at h
    rename_i h3
    obtain ⟨h4,h⟩:=Bool.au h
    split at h
    case h_2=>simp at h
    rename_i h5
    simp only at h2 h5 ⊢
    simp only [h1,h2,h3,h4,h5]
    unfold mn at h ⊢
    split at h
    ·rename_i hq; rw [hr _ _ hq trivial]; exact h
    ·rename_i hq; rw [hr _ _ hq trivial]; exact h
    ·rename_i hq
     simp only [hr _ _ hq trivial]
     split at h
     ·rename_i hi; try simp only [hi]
      exact h
     ·obtain ⟨m,hm⟩:=kT h
      exact (hc m hm).elim
    ·rename_i hq; rw [hr _ _ hq trivial]; exact h
    ·simp at h
 | mapUpdate t m k v=>
   have h:mQ T ⟨sl,rs,df⟩ dst t m k v=some e:=h
   show mQ T ⟨sl,aG,df⟩ dst t m k v=some e
   unfold mQ at h ⊢
   split at h
   ·simp at h
   ·obtain ⟨h4,h⟩:=Bool.au h
    split at h
    case h_2=>simp at h
    rename_i h1 h2 h3
    split at h
    case h_2=>simp at h
    rename_i h5
    simp only at h1 h2 h3 h5 ⊢
    simp only [h1,h2,h3,h4,hr _ _ h5 trivial]
    exact h
 | call c=>
   have h:gI T lo hi b ⟨sl,rs,df⟩ c=some e:=h
   show gI T lo hi b ⟨sl,aG,df⟩ c=some e
   unfold gI at h ⊢
   split at h
   ·exact Sm hr hc h
   ·unfold mo at h ⊢
    split at h
    case h_2=>simp at h
    rename_i h1 h2
    simp only at h1 h2 ⊢
    simp only [h1,h2]
    split at h
    ·exact TC ha h
    ·split at h
     case h_2=>simp at h
     rename_i h3
     try simp only [h3]
     exact Nb hm hlen hr hc ha h
   ·simp at h
 | _=>exact h
theorem Hr {b:Nat} {s:VS} {dst:Option Tmp} {op:Op} {e:cF} (h:hJ T lo hi b s dst op=some e):fL T s op=none:=by
 cases op with
 | call c=>
   have h:gI T lo hi b s c=some e:=h
   show FQ T s c=none
   unfold gI at h
   unfold FQ
   split at h
   ·rename_i hc; rw [hc]; rfl
   ·rename_i hc; rw [hc]
   ·simp at h
 | _=>first|rfl|simp [hJ] at h
theorem Hl (hm:Cq lo) (hlen:rs.length=aG.length) (hr:pJ rs aG) {b:Nat} {dst:Option Tmp} {op:Op} (hs:∀ x∈op.operands.toList,cA sl x=cA gy x) {e:cF} (hc:∀ l,e ≠ .cX l) (ha:∀ d r,e=.all d r→rs=aG)
  (h:gk T lo hi b ⟨sl,rs,df⟩ dst op=some e):gk T lo hi b ⟨gy,aG,C2⟩ dst op=some e:=by
 rw [← LD (df:=df) (C2:=C2) hs]
 unfold gk at h ⊢
 split at h
 ·rename_i d hd
  rw [Nc hr hd]; exact h
 ·have h1:=MD hm hlen hr hc ha h
  rw [Hr h1]
  exact h1
def Shape (b:Nat) (rs:List ah) (ws:List (Nat×ah)):Prop:=
 (∃ x,ws=[(b,x)])∨(∃ q x,ws=[(q,x)]∧q<rs.length)∨(∃ q x y,ws=[(q,x),(b,y)])
theorem ln {α:Type} {l:List α} {q:Nat} {x:α} (h:aV l q=some x):q<l.length:=by
 rw [cl,bp] at h; exact (List.getElem?_eq_some_iff.1 h).1
theorem zK {el sz k:Nat} {l':List C} {bytes b:Nat} {c:C} {d:Option D} {ws:List (Nat×ah)} (h:C3 el sz k l' bytes b rs c=some (.wr d ws)):Shape b rs ws:=by
 unfold C3 at h
 split at h
 ·split at h
  ·simp at h
  ·replace h:=(Bool.au h).2
   simp only [aq,cF.wr.injEq] at h
   exact .inl ⟨_,h.2.symm⟩
 ·split at h
  ·replace h:=(Bool.au h).2
   replace h:=(Bool.au h).2
   simp only [aq,cF.wr.injEq] at h
   exact .inr (.inr ⟨_,_,_,h.2.symm⟩)
  ·split at h
   ·replace h:=(Bool.au h).2
    replace h:=(Bool.au h).2
    simp only [aq,cF.wr.injEq] at h
    exact .inr (.inr ⟨_,_,_,h.2.symm⟩)
   ·simp at h
  ·simp at h
 ·simp at h
theorem rF {el sz n size r i j:Nat} {get:Nat→Nat→O} {eG:Option (Nat×List Fc)} {cs:List C} {e:cF} (h:oW el sz n get eG size r i j cs=some e):∃ x,e=.wr none [(r,x)]:=by
 unfold oW at h
 split at h
 case h_2=>simp at h
 replace h:=(Bool.au h).2
 replace h:=(Bool.au h).2
 simp only [aq] at h
 exact ⟨_,h.symm⟩
theorem rR {el sz n size r i j:Nat} {get:Nat→Nat→O} {eG:Option (Nat×List Fc)} {cs:List C} {e:cF} (h:qH el sz n get eG size r i j cs=some e):∃ x,e=.wr none [(r,x)]:=by
 unfold qH at h
 split at h
 ·exact rF h
 ·rename_i x
  cases hb:Nat.beq i x.1 with
  | false=>rw [hb] at h; exact rF h
  | true=>
    rw [hb] at h
    have h:(match KH cs x.2 j with
     | some l=>(Bool.rec none (some (.wr none [(r,.cR el sz n get (some (x.1,l)))])) (Nat.ble (j+size) sz):Option cF)
     | none=>none)=some e:=h
    split at h
    case h_2=>simp at h
    replace h:=(Bool.au h).2
    simp only [aq] at h
    exact ⟨_,h.symm⟩
theorem HK {el sz k:Nat} {l':Nat→Nat→I} {bytes b:Nat} {c:C} {d:Option D} {ws:List (Nat×ah)} (h:qx el sz k l' bytes b rs c=some (.wr d ws)):Shape b rs ws:=by
 unfold qx at h
 split at h
 ·replace h:=(Bool.au h).2
  simp only [aq,cF.wr.injEq] at h
  exact .inl ⟨_,h.2.symm⟩
 ·split at h
  ·replace h:=(Bool.au h).2
   replace h:=(Bool.au h).2
   replace h:=(Bool.au h).2
   simp only [aq,cF.wr.injEq] at h
   exact .inr (.inr ⟨_,_,_,h.2.symm⟩)
  ·simp at h
 ·simp at h
theorem xM {ds:List D} {e:cF} {d:Option D} {ws:List (Nat×ah)} (h:jQ rs ds e=some (.wr d ws)):e=.wr d ws:=by
 rcases fh h with ⟨l,hl⟩|⟨h,_⟩
 ·cases hl
 ·exact h.symm
theorem rM {f:FuncId} {ds:List D} {d:Option D} {ws:List (Nat×ah)} (h:ie lo rs f ds=some (.wr d ws)):False:=by
 unfold ie at h
 split at h
 case h_2=>simp at h
 rename_i d hd
 cases hp:iG d with
 | true=>rw [hp] at h; simp at h
 | false=>
   rw [hp] at h
   have h:=xM (Bool.au h).2
   cases h
theorem CY {b:Nat} {f:FuncId} {ds:List D} {d:Option D} {ws:List (Nat×ah)} (h:iD lo rs f ds b=some (.wr d ws)):Shape b rs ws:=by
 unfold iD at h
 split at h
 ·simp at h
 ·rename_i d1 q el sz n l ho
  rcases mG ho with ⟨is,q',n',pQ,pM,cQ,l',_,_,_,_,_,hws⟩|⟨is,q',n',pQ,pM,cQ,l',_,_,_,_,hws⟩
  case inr=>simp at hws
  simp only [List.cons.injEq,bs,and_true] at hws
  obtain ⟨rfl,_⟩:=hws
  revert h
  generalize fB _=p
  intro h
  cases p with
  | true=>simp only [aq,cF.wr.injEq] at h; exact .inl ⟨_,h.2.symm⟩
  | false=>have h:=xM h; simp only [cF.wr.injEq] at h; exact .inl ⟨_,h.2.symm⟩
 ·rename_i d1 q el sz n get ho
  rcases mG ho with ⟨is,q',n',pQ,pM,cQ,l',_,_,_,_,_,hws⟩|⟨is,q',n',pQ,pM,cQ,l',_,_,_,_,hws⟩
  case inl=>simp at hws
  simp only [List.cons.injEq,bs,and_true] at hws
  obtain ⟨rfl,_⟩:=hws
  have h:=xM h
  simp only [cF.wr.injEq] at h
  exact .inl ⟨_,h.2.symm⟩
 ·simp at h
theorem vZ {f:FuncId} {ds:List D} {d:Option D} {ws:List (Nat×ah)} (h:tn lo rs f ds=some (.wr d ws)):False:=by
 unfold tn at h
 split at h<;>simp at h
theorem xu {b:Nat} {s:VS} {dst:Option Tmp} {op:Op} {d:Option D} {ws:List (Nat×ah)} (h:gk T lo hi b s dst op=some (.wr d ws)):Shape b s.rs ws:=by
 unfold gk at h
 split at h
 ·simp at h
 ·cases op with
  | box t x=>
    have h:uR b s x=_:=h
    unfold uR at h
    split at h
    ·split at h
     ·simp only [aq,cF.wr.injEq] at h; exact .inl ⟨_,h.2.symm⟩
     ·simp at h
    ·simp at h
  | alloc t=>
    have h:kW T b t=_:=h
    unfold kW at h
    split at h
    ·split at h
     ·simp only [aq,cF.wr.injEq] at h; exact .inl ⟨_,h.2.symm⟩
     ·simp at h
    ·simp at h
  | store t x v=>
    have h:ij T s dst t x v=_:=h
    unfold ij at h
    split at h
    ·simp at h
    ·split at h
     case h_2=>simp at h
     split at h
     case h_2=>simp at h
     replace h:=(Bool.au h).2
     split at h
     case h_2=>simp at h
     unfold mn at h
     split at h
     ·rename_i hq
      split at h
      ·split at h
       ·simp only [aq,cF.wr.injEq] at h; exact .inr (.inl ⟨_,_,h.2.symm,ln hq⟩)
       ·simp at h
      ·simp at h
     ·rename_i hq
      split at h
      ·simp only [aq,cF.wr.injEq] at h; exact .inr (.inl ⟨_,_,h.2.symm,ln hq⟩)
      ·simp at h
     ·rename_i hq
      split at h
      ·replace h:=(Bool.au h).2
       replace h:=(Bool.au h).2
       simp only [aq,cF.wr.injEq] at h; exact .inr (.inl ⟨_,_,h.2.symm,ln hq⟩)
      ·obtain ⟨m,hm⟩:=kT h
       cases hm
     ·rename_i hq
      obtain ⟨x,hx⟩:=rR h
      simp only [cF.wr.injEq] at hx
      exact .inr (.inl ⟨_,_,hx.2,ln hq⟩)
     ·simp at h
  | buildSlice t n ps=>
    have h:LM T b s (sw hi dst) t n ps.toList=_:=h
    unfold LM at h
    split at h
    case h_2=>simp at h
    split at h
    case h_2=>simp at h
    split at h
    case h_2=>simp at h
    split at h
    case h_2=>simp at h
    replace h:=(Bool.au h).2
    rcases jX (sw hi dst) b _ _ n _ with hc|⟨_,_,hc⟩|⟨_,hc⟩
    ·rw [hc] at h
     simp only [aq,cF.wr.injEq] at h; exact .inl ⟨_,h.2.symm⟩
    ·rw [hc] at h; simp at h
    ·rw [hc] at h
     simp only [aq,cF.wr.injEq] at h; exact .inl ⟨_,h.2.symm⟩
  | makeSlice t l c=>
    have h:mB T b s t l c=_:=h
    unfold mB at h
    split at h
    case h_2=>simp at h
    split at h
    case h_2=>simp at h
    split at h
    case h_2=>simp at h
    split at h
    case h_2=>simp at h
    split at h
    case h_2=>simp at h
    replace h:=(Bool.au h).2
    replace h:=(Bool.au h).2
    replace h:=(Bool.au h).2
    simp only [aq,cF.wr.injEq] at h; exact .inl ⟨_,h.2.symm⟩
  | makeMap t r=>
    have h:kV T b t r=_:=h
    unfold kV at h
    split at h
    ·simp only [aq,cF.wr.injEq] at h; exact .inl ⟨_,h.2.symm⟩
    ·simp at h
  | mapUpdate t m k v=>
    have h:mQ T s dst t m k v=_:=h
    unfold mQ at h
    split at h
    ·simp at h
    ·replace h:=(Bool.au h).2
     split at h
     case h_2=>simp at h
     split at h
     case h_2=>simp at h
     rename_i hq
     simp only [aq,cF.wr.injEq] at h; exact .inr (.inl ⟨_,_,h.2.symm,ln hq⟩)
  | call c=>
    have h:gI T lo hi b s c=_:=h
    unfold gI at h
    split at h
    ·unfold pw at h
     split at h
     case h_2=>simp at h
     replace h:=(Bool.au h).2
     split at h
     case h_2=>simp at h
     split at h
     ·rename_i e' he'
      subst h
      unfold pX at he'
      split at he'
      case h_2=>simp at he'
      split at he'
      case h_2=>simp at he'
      split at he'
      case h_2=>simp at he'
      simp only [aq] at he'
      unfold Bb at he'
      split at he'
      ·exact HK (Bool.au he').2
      ·unfold ot at he'
       split at he'
       ·simp only [aq] at he'
        cases he'
       ·simp at he'
     unfold pj at h
     split at h
     case h_2=>simp at h
     split at h
     case h_2=>simp at h
     split at h
     case h_2=>simp at h
     split at h
     case h_2=>simp at h
     split at h
     ·exact zK (Bool.au h).2
     ·exact zK (Bool.au h).2
    ·unfold mo at h
     split at h
     case h_2=>simp at h
     split at h
     ·unfold Ak at h
      split at h<;>simp at h
     ·split at h
      case h_2=>simp at h
      unfold oi at h
      split at h
      ·exact (rM h).elim
      ·exact (vZ h).elim
      ·exact CY h
      ·unfold Qx at h
       split at h
       case h_2=>simp at h
       rename_i d' q x hd
       obtain ⟨hq,h⟩:=Bool.au h
       simp only [aq,cF.wr.injEq] at h
       exact .inr (.inl ⟨q,x,h.2.symm,by simpa [cD] using hq⟩)
      ·exact .inl (HA h)
      ·revert h
       generalize fH _=p
       intro h
       cases p with
       | true=>exact (rM h).elim
       | false=>exact (vZ h).elim
    ·simp at h
  | _=>simp [hJ] at h
theorem oz {b b':Nat} {s:VS} {dst:Option Tmp} {op:Op} (h:eH op=0):gk T lo hi b s dst op=gk T lo hi b' s dst op:=by
 unfold gk
 have:hJ T lo hi b s dst op=hJ T lo hi b' s dst op:=by
  cases op with
  | call c=>
    show gI T lo hi b s c=gI T lo hi b' s c
    have h:CL c.callee=0:=h
    unfold gI
    split
    ·rename_i hc; rw [hc] at h; simp [CL] at h
    ·rename_i hc; rw [hc] at h; simp [CL] at h
    ·rfl
  | _=>first|rfl|simp [eH] at h
 rw [this]
end
open Go.RowKit
section
variable {P:Program} {T:dY} {lo:Lo} {hi:Hint} {N:Nat} {ay:Nat→Prop} {w0:Kp} {sp:List (D×Value)} {s:VS} {a:Act} {w:World} {E:Env} {ρ:Option Nat}
theorem tK {sl:aN}:∀ {l:List Tmp},bN (uA sl l)
 | [],x,hx=>by cases hx
 | t::l,x,hx=>by
   simp only [uA] at hx
   split at hx
   ·cases hx with
    | head=>rfl
    | tail _ hx=>exact tK x hx
   ·exact tK x hx
theorem pB:∀ {l:List Tmp} {sl:aN} {t:Tmp} {d:D} {c:ft},look (uA sl l) t=some (d,c)→c=[]∧look sl t=some (d,[])
 | [],sl,t,d,c,h=>by simp [uA,look] at h
 | k::l,sl,t,d,c,h=>by
   simp only [uA] at h
   split at h
   ·rename_i d' hk
    simp only [look] at h
    split at h
    ·rename_i he
     have he:=bL he
     simp only [aq,bs] at h
     obtain ⟨rfl,rfl⟩:=h
     subst he
     exact ⟨rfl,hk⟩
    ·exact pB h
   ·exact pB h
theorem J2 (h:R T N ay w0 sp s a w E) (hn:bN s.sl) (f:FuncId) (id:Nat):R T N ay w0 sp (rE hi f id s) a w E∧bN (rE hi f id s).sl:=by
 unfold rE
 split
 ·exact ⟨⟨h.size,h.defers,h.spec,h.below,h.len,h.outer,h.roots,h.dh,h.dQ,fun t d c hl=>by
   obtain ⟨rfl,h1⟩:=pB hl
   exact h.slots t d [] h1,h.gM⟩,tK⟩
 ·exact ⟨h,hn⟩
theorem xW (bQ:dV P T) (hl:ib T P lo) (h:R T N ay w0 sp s a w E) (hn:bN s.sl) {f:FuncId} {ro:Option Nat} {id:Nat} {ops:Array Oper} {s':VS} (e:regionF T lo hi N f ro id ops.toList false s=some s')
  {b:Frame} {k:List Item} {cs:List Frame}:∃ a' w' E',Kept E E'∧R T N ay w0 sp s' a' w' E'∧bN s'.sl∧Steps P (lone (b.atR a (.code (.region id ops false)::k)) cs w) (lone (b.atR a' k) cs w'):=by
 unfold regionF at e
 simp only at e
 split at e
 case h_2=>simp at e
 rename_i s1 hs1
 simp only [aq] at e
 subst e
 have hw:=ql (ρ:=b.roundOf) (Q:=fun en a' w'=>en=.normal∧∃ E',Kept E E'∧R T N ay w0 sp s1 a' w' E'∧bN s1.sl) bQ hl (fun a' w' E' hk h1 h2=>⟨rfl,E',hk,h1,h2⟩) hs1 (Kept.refl E) h hn
 obtain ⟨en,a',w',⟨rfl,E',hk,h1,h2⟩,harr⟩:=wpIn_region_list (id:=id) hw b k cs rfl trivial (Jx _ _)
 obtain ⟨h3,h4⟩:=J2 (hi:=hi) h1 h2 f id
 exact ⟨a',w',E',hk,h3,h4,StepsIn.steps harr⟩
end
section
theorem bT {α:Type} (l:List α) (i:Nat):aV l i=l[i]?:=by rw [cl,bp]
theorem rl {acc:List Nat} {j:Nat}:∀ {l:List Edge} {m:Nat},(nL acc l m).testBit j=true↔(m.testBit j=true∨∃ e∈l,Region.binds .any e=true∧(j=e.on∨∃ x,acc[e.on]?=some x∧x.testBit j=true))
 | [],m=>by simp [nL]
 | e::l,m=>by
   have hun:nL acc (e::l) m=(Bool.rec (nL acc l m) (nL acc l (Nat.lor (Nat.lor (Nat.shiftLeft 1 e.on) m) (match aV acc e.on with
    | some x=>x
    | none=>0))) (Region.binds .any e):Nat):=rfl
   rw [hun]
   cases hb:Region.binds .any e with
   | false=>
     show (nL acc l m).testBit j=true↔_
     rw [rl]
     constructor
     ·rintro (h|⟨e',h1,h2⟩)
      ·exact .inl h
      ·exact .inr ⟨e',fe _ h1,h2⟩
     ·rintro (h|⟨e',h1,h2,h3⟩)
      ·exact .inl h
      ·rcases List.mem_cons.1 h1 with rfl|h1
       ·rw [hb] at h2; simp at h2
       ·exact .inr ⟨e',h1,h2,h3⟩
   | true=>
     show (nL acc l (((1 <<< e.on) ||| m) ||| (match aV acc e.on with
      | some x=>x
      | none=>0))).testBit j=true↔_
     rw [rl,bT]
     have h1:(1 <<< e.on).testBit j=true↔j=e.on:=by
      rw [Nat.one_shiftLeft,Nat.testBit_two_pow]
      simp only [decide_eq_true_eq]
      exact ⟨fun h=>h.symm,fun h=>h.symm⟩
     have h2:(match acc[e.on]? with
      | some x=>x
      | none=>0).testBit j=true↔∃ x,acc[e.on]?=some x∧x.testBit j=true:=by
      cases acc[e.on]? with
      | none=>simp
      | some x=>simp
     rw [Nat.testBit_or,Nat.testBit_or,Bool.or_eq_true,Bool.or_eq_true,h1,h2]
     constructor
     ·rintro (((h|h)|h)|⟨e',h3,h4⟩)
      ·exact .inr ⟨e,eS ..,hb,.inl h⟩
      ·exact .inl h
      ·exact .inr ⟨e,eS ..,hb,.inr h⟩
      ·exact .inr ⟨e',fe _ h3,h4⟩
     ·rintro (h|⟨e',h3,h4,h5⟩)
      ·exact .inl (.inl (.inr h))
      ·rcases List.mem_cons.1 h3 with rfl|h3
       ·rcases h5 with h5|h5
        ·exact .inl (.inl (.inl h5))
        ·exact .inl (.inr h5)
       ·exact .inr ⟨e',h3,h4,h5⟩
theorem wH:∀ (l:List Oper) (acc:List Nat),∃ rest,jw l acc=acc++rest∧rest.length=l.length∧∀ i o,l[i]?=some o→rest[i]?=some (nL (acc++rest.take i) o.after.toList 0)
 | [],acc=>⟨[],by simp [jw],rfl,fun i o h=>by simp at h⟩
 | o::l,acc=>by
   obtain ⟨rest,h1,h2,h3⟩:=wH l (acc++[nL acc o.after.toList 0])
   refine ⟨nL acc o.after.toList 0::rest,?_,by simp [h2],fun i o' h=>?_⟩
   ·show jw l (acc++[nL acc o.after.toList 0])=_
    rw [h1]; simp
   ·cases i with
    | zero=>simp at h; subst h; simp
    | succ i=>
      simp only [List.getElem?_cons_succ] at h ⊢
      rw [h3 i o' h]
      simp
structure Anc (ops:List Oper) (A:List Nat):Prop where
 len:A.length=ops.length
 bits:∀ i o m,ops[i]?=some o→A[i]?=some m→∀ j,m.testBit j=true↔∃ e∈o.after.toList,Region.binds .any e=true∧(j=e.on∨∃ x,(A.take i)[e.on]?=some x∧x.testBit j=true)
theorem Xf (ops:List Oper):Anc ops (jw ops []):=by
 obtain ⟨rest,h1,h2,h3⟩:=wH ops []
 rw [List.nil_append] at h1
 rw [h1]
 refine ⟨h2,fun i o m ho hm j=>?_⟩
 have:=h3 i o ho
 rw [hm] at this
 simp only [aq] at this
 subst this
 rw [rl]
 simp
theorem ua:∀ {l:List Nat} {k:Nat},B6 l k=true→∀ i m,l[i]?=some m→∀ j,m.testBit j=true→j<k+i
 | [],k,h,i,m,hm,j,hj=>by simp at hm
 | x::l,k,h,i,m,hm,j,hj=>by
   have h:(Bool.rec false (B6 l (k+1)) (Nat.blt x (Nat.shiftLeft 1 k)):Bool)=true:=h
   have h1:Nat.blt x (Nat.shiftLeft 1 k)=true∧B6 l (k+1)=true:=by
    cases hb:Nat.blt x (Nat.shiftLeft 1 k) with
    | true=>rw [hb] at h; exact ⟨rfl,h⟩
    | false=>rw [hb] at h; simp at h
   cases i with
   | zero=>
     simp at hm
     subst hm
     have dD:x<2 ^ k:=by
      have:=aK h1.1
      rwa [show Nat.shiftLeft 1 k=1 <<< k from rfl,Nat.one_shiftLeft] at this
     rcases Nat.lt_or_ge j (k+0) with hj'|hj'
     ·exact hj'
     ·have:x.testBit j=false:=Nat.testBit_lt_two_pow (Nat.lt_of_lt_of_le dD (Nat.pow_le_pow_right (by omega) (by omega)))
      rw [this] at hj; simp at hj
   | succ i=>
     simp only [List.getElem?_cons_succ] at hm
     have:=ua h1.2 i m hm j hj
     omega
theorem Bool.gH {x b:Bool} (h:(Bool.rec false x b:Bool)=true):b=true∧x=true:=by
 cases b with
 | false=>simp at h
 | true=>exact ⟨rfl,h⟩
theorem vT {t:Tmp}:∀ {l:List Oper} {k j:Nat},o5 t l k=some j→∃ i o,j=k+i∧l[i]?=some o∧o.dst=some t
 | [],k,j,h=>by simp [o5] at h
 | o::l,k,j,h=>by
   have h:(match o.dst with
    | some t'=>(Bool.rec (o5 t l (k+1)) (some k) (Nat.beq t t'):Option Nat)
    | none=>o5 t l (k+1))=some j:=h
   have go:o5 t l (k+1)=some j→∃ i o',j=k+i∧(o::l)[i]?=some o'∧o'.dst=some t:=fun h=>by
    obtain ⟨i,o',h1,h2,h3⟩:=vT h
    exact ⟨i+1,o',by omega,by simpa using h2,h3⟩
   split at h
   ·rename_i t' ht
    cases hb:Nat.beq t t' with
    | true=>
      rw [hb] at h
      simp only [aq] at h
      have:=bL hb
      subst this
      exact ⟨0,o,by omega,rfl,ht⟩
    | false=>rw [hb] at h; exact go h
   ·exact go h
theorem qv {t:Tmp}:∀ {l:List Oper} {k:Nat},o5 t l k=none→∀ (i:Nat) (o:Oper),l[i]?=some o→o.dst≠some t
 | [],k,h,i,o',ho=>by simp at ho
 | o::l,k,h,i,o',ho=>by
   have h:(match o.dst with
    | some t'=>(Bool.rec (o5 t l (k+1)) (some k) (Nat.beq t t'):Option Nat)
    | none=>o5 t l (k+1))=none:=h
   have both:o.dst≠some t∧o5 t l (k+1)=none:=by
    split at h
    ·rename_i t' ht
     cases hb:Nat.beq t t' with
     | true=>rw [hb] at h; simp at h
     | false=>
       rw [hb] at h
       refine ⟨fun e=>?_,h⟩
       rw [ht] at e
       simp only [aq] at e
       subst e
       rw [cf] at hb
       simp at hb
    ·rename_i ht; exact ⟨by rw [ht]; simp,h⟩
   cases i with
   | zero=>simp at ho; subst ho; exact both.1
   | succ i=>exact qv both.2 i o' (by simpa using ho)
theorem yk:∀ {l:List Oper},DU l=true→∀ (i j:Nat) (o o':Oper) (t:Tmp),l[i]?=some o→l[j]?=some o'→o.dst=some t→o'.dst=some t→i=j
 | [],h,i,j,o,o',t,h1,h2,h3,h4=>by simp at h1
 | x::l,h,i,j,o,o',t,h1,h2,h3,h4=>by
   have h:(match x.dst with
    | some t=>(Bool.rec false (DU l) (FO t l):Bool)
    | none=>DU l)=true:=h
   have both:DU l=true∧∀ t,x.dst=some t→∀ (i:Nat) (o:Oper),l[i]?=some o→o.dst≠some t:=by
    split at h
    ·rename_i t' ht
     obtain ⟨q1,q2⟩:=Bool.gH h
     refine ⟨q2,fun t Ua=>?_⟩
     rw [ht] at Ua
     simp only [aq] at Ua
     subst Ua
     unfold FO at q1
     split at q1
     ·simp at q1
     ·rename_i hq; exact qv hq
    ·rename_i ht; exact ⟨h,fun t Ua=>by rw [ht] at Ua; simp at Ua⟩
   cases i with
   | zero=>
     cases j with
     | zero=>rfl
     | succ j=>
       simp at h1; subst h1
       exact (both.2 t h3 j o' (by simpa using h2) h4).elim
   | succ i=>
     cases j with
     | zero=>
       simp at h2; subst h2
       exact (both.2 t h4 i o (by simpa using h1) h3).elim
     | succ j=>rw [yk both.1 i j o o' t (by simpa using h1) (by simpa using h2) h3 h4]
theorem lu {ops:List Oper} {m:Nat}:∀ {l:List Operand},rH ops m l=true→∀ t,.tmp t∈l→JV ops m t=true
 | [],h,t,ht=>by simp at ht
 | x::l,h,t,ht=>by
   cases x with
   | tmp k=>
     have h:(Bool.rec false (rH ops m l) (JV ops m k):Bool)=true:=h
     rcases List.mem_cons.1 ht with e|ht
     ·simp only [Operand.tmp.injEq] at e; subst e; exact (Bool.gH h).1
     ·exact lu (Bool.gH h).2 t ht
   | const v=>
     have h:rH ops m l=true:=h
     rcases List.mem_cons.1 ht with e|ht
     ·cases e
     ·exact lu h t ht
   | func f=>
     have h:rH ops m l=true:=h
     rcases List.mem_cons.1 ht with e|ht
     ·cases e
     ·exact lu h t ht
   | global g=>
     have h:rH ops m l=true:=h
     rcases List.mem_cons.1 ht with e|ht
     ·cases e
     ·exact lu h t ht
theorem ui {ops:List Oper}:∀ {l:List Oper} {ms:List Nat},GJ ops l ms=true→∀ (i:Nat) (o:Oper) (m:Nat),l[i]?=some o→ms[i]?=some m→BI m o.guard=true∧rH ops m o.op.operands.toList=true
 | [],ms,h,i,o,m,h1,h2=>by simp at h1
 | x::l,[],h,i,o,m,h1,h2=>by simp at h2
 | x::l,y::ms,h,i,o,m,h1,h2=>by
   have h:(Bool.rec false (GJ ops l ms) (BI y x.guard&&rH ops y x.op.operands.toList):Bool)=true:=h
   obtain ⟨h3,h4⟩:=Bool.gH h
   cases i with
   | zero=>simp at h1 h2; subst h1 h2; simpa using h3
   | succ i=>exact ui h4 i o m (by simpa using h1) (by simpa using h2)
def eF (us:Nat→kQ) (s0:VS) (L:Nat→Bool):Nat→VS
 | 0=>s0
 | k+1=>match L k with
   | true=>(us k).on (eF us s0 L k)
   | false=>eF us s0 L k
structure View (α:Type) where
 f:VS→α
 act:kQ→α→α
 nO:kQ→Prop
 on:∀ u s,f (u.on s)=act u (f s)
 idle:∀ u x,¬ nO u→act u x=x
section
variable {α:Type} (v:View α) {us:Nat→kQ} {s0:VS} {L L':Nat→Bool}
theorem View.agree:∀ {m:Nat},(∀ k,k<m→v.nO (us k)→L k=L' k)→v.f (eF us s0 L m)=v.f (eF us s0 L' m)
 | 0,_=>rfl
 | m+1,h=>by
   have ih:=View.agree (m:=m) fun k hk=>h k (by omega)
   simp only [eF]
   by_cases ht:v.nO (us m)
   ·rw [h m (by omega) ht]
    split
    ·rw [v.on,v.on,ih]
    ·exact ih
   ·split<;>split
    ·rw [v.on,v.on,ih]
    ·rw [v.on,v.idle _ _ ht,ih]
    ·rw [v.on,v.idle _ _ ht,ih]
    ·exact ih
theorem View.tail {i:Nat}:∀ {m:Nat},i≤m→(∀ k,i≤k→k<m→L k=true→¬ v.nO (us k))→v.f (eF us s0 L m)=v.f (eF us s0 L i)
 | 0,hi,_=>by rw [show i=0 by omega]
 | m+1,hi,h=>by
   rcases Nat.lt_or_ge i (m+1) with jD|jD
   ·have ih:=View.tail (i:=i) (m:=m) (by omega) fun k h1 h2=>h k h1 (by omega)
    rw [← ih]
    simp only [eF]
    split
    ·rename_i hL
     rw [v.on,v.idle _ _ (h m (by omega) (by omega) hL)]
    ·rfl
   ·rw [show i=m+1 by omega]
def more (L:Nat→Bool) (i k:Nat):Bool:=bif k==i then true else L k
theorem iP (i:Nat):more L i i=true:=by simp [more]
theorem jk {i k:Nat} (h:k≠i):more L i k=L k:=by simp [more,h]
theorem View.step {i n:Nat} (hi:i<n) (hL:L i=false) (h:v.nO (us i)→∀ k,i<k→k<n→L k=true→¬ v.nO (us k)):v.f ((us i).on (eF us s0 L n))=v.f (eF us s0 (more L i) n):=by
 rw [v.on]
 by_cases ht:v.nO (us i)
 ·have h:=h ht
  rw [v.tail (i:=i+1) (by omega) fun k h1 h2 h3=>h k (by omega) h2 h3]
  rw [v.tail (L:=more L i) (i:=i+1) (by omega) fun k h1 h2 h3=>h k (by omega) h2 (by rwa [jk (by omega)] at h3)]
  simp only [eF,hL,iP]
  rw [v.on]
  rw [v.agree (L:=L) (L':=more L i) fun k hk _=>(jk (by omega)).symm]
 ·rw [v.idle _ _ ht]
  exact v.agree fun k hk kZ=>by
   rw [jk]
   intro e; subst e; exact ht kZ
end
theorem na {us:Nat→kQ} {s0:VS} {L:Nat→Bool} {i:Nat}:∀ {n:Nat},i≤n→eF us s0 (fun k=>L k&&decide (k<i)) n=eF us s0 L i
 | 0,h=>by rw [show i=0 by omega]; rfl
 | n+1,h=>by
   rcases Nat.lt_or_ge n i with hn|hn
   ·have hi:i=n+1:=by omega
    subst hi
    have:∀ m,m≤n+1→eF us s0 (fun k=>L k&&decide (k<n+1)) m=eF us s0 L m:=by
     intro m
     induction m with
     | zero=>intro _; rfl
     | succ m ih=>
       intro hm
       simp only [eF]
       rw [ih (by omega),show (L m&&decide (m<n+1))=L m by simp [show m<n+1 by omega]]
    exact this _ (bk _)
   ·simp only [eF]
    rw [show (L n&&decide (n<i))=false by simp [show ¬ n<i by omega]]
    exact na hn
theorem xO (k:Tmp) (d:D) (c:ft) (sl:aN) (t:Tmp):fc ((k,d,c)::sl) t=(Bool.rec (fc sl t) (some d) (Nat.beq k t):Option D):=rfl
def kQ.at (u:kQ) (t:Tmp):Option D:=match u.dst with
 | some t'=>match u.val with
   | some d=>match Nat.beq t' t with
     | true=>some d
     | false=>none
   | none=>none
 | none=>none
def NG (t:Tmp):View (Option D) where
 f s:=fc s.sl t
 act u x:=match u.at t with
  | some d=>some d
  | none=>x
 nO u:=u.at t≠none
 on u s:=by
  unfold kQ.on yO kQ.at
  cases u.dst with
  | none=>rfl
  | some t' =>
    cases u.val with
    | none=>rfl
    | some d=>
      simp only [xO]
      cases Nat.beq t' t<;>rfl
 idle u x h:=by
  cases hq:u.at t with
  | none=>rfl
  | some d=>exact (h (by rw [hq]; simp)).elim
theorem kQ.Xt {u:kQ} {t:Tmp} (h:u.at t≠none):u.dst=some t:=by
 unfold kQ.at at h
 split at h
 ·rename_i t' ht
  split at h
  ·split at h
   ·rename_i hb; rw [ht,bL hb]
   ·simp at h
  ·simp at h
 ·simp at h
def Li (q:Nat):List (Nat×ah)→Option ah→Option ah
 | [],x=>x
 | p::ws,x=>Li q ws (match Nat.beq p.1 q with
   | true=>match x with
     | some _=>some p.2
     | none=>none
   | false=>x)
theorem xi (q:Nat):∀ (ws:List (Nat×ah)) (rs:List ah),aV (writes ws rs) q=Li q ws (aV rs q)
 | [],rs=>rfl
 | p::ws,rs=>by
   show aV (writes ws (setAt rs p.1 p.2)) q=_
   rw [xi q ws]
   simp only [Li]
   congr 1
   rw [bT,bT,aQ,dP]
   cases hb:Nat.beq p.1 q with
   | true=>
     have:=bL hb
     rw [if_pos this,← this]
     by_cases hl:p.1<rs.length
     ·simp [hl]
     ·simp [hl]
   | false=>
     rw [if_neg]
     intro e
     rw [e,cf] at hb
     simp at hb
theorem zq {q:Nat}:∀ {ws:List (Nat×ah)} {x:Option ah},q ∉ ws.map (·.1)→Li q ws x=x
 | [],x,_=>rfl
 | p::ws,x,h=>by
   simp only [List.map_cons,List.mem_cons,not_or] at h
   simp only [Li]
   have:Nat.beq p.1 q=false:=by
    cases hb:Nat.beq p.1 q with
    | true=>exact (h.1 (bL hb).symm).elim
    | false=>rfl
   rw [this]
   exact zq h.2
def L7 (q:Nat):View (Option ah) where
 f s:=aV s.rs q
 act u x:=Li q u.ws (match u.al with
  | some rs=>aV rs q
  | none=>x)
 nO u:=u.al≠none∨q∈u.ws.map (·.1)
 on u s:=by
  have:(u.on s).rs=writes u.ws (BW u.al s.rs):=by
   unfold kQ.on yO
   cases u.dst with
   | none=>rfl
   | some t=>cases u.val<;>rfl
  rw [this,xi]
  congr 1
  unfold BW
  cases u.al<;>rfl
 idle u x h:=by
  simp only [not_or] at h
  rw [zq h.2]
  cases ha:u.al with
  | none=>rfl
  | some rs=>exact (h.1 (by rw [ha]; simp)).elim
end
open Go.RowKit
section
variable {P:Program} {T:dY} {N:Nat} {ay:Nat→Prop} {w0:Kp} {sp:List (D×Value)} {a:Act} {w:World} {E E':Env} {av dp Fz:Nat→Prop} {w':World}
theorem Vl {x y:Value} (h:eqV x y=true):x=y:=by
 unfold eqV at h
 split at h
 ·rename_i a b
  have:a=b:=by simpa using h
  rw [this]
 ·rw [IP h]
 ·simp at h
theorem TE {x y:C} (h:L1 x y=true):x=y:=by
 unfold L1 at h
 split at h
 ·rw [Vl h]
 ·simp only [dz] at h; rw [bL h.1,bL h.2.1,bL h.2.2]
 ·simp only [dz] at h; rw [bL h.1,bL h.2]
 ·rw [bL h]
 ·simp at h
theorem If:∀ {l m:List C},XP l m=true→l=m
 | [],[],_=>rfl
 | [],y::m,h=>by
   have h:(false:Bool)=true:=h
   simp at h
 | x::l,[],h=>by
   have h:(false:Bool)=true:=h
   simp at h
 | x::l,y::m,h=>by
   have h:(Bool.rec false (XP l m) (L1 x y):Bool)=true:=h
   cases hb:L1 x y with
   | false=>rw [hb] at h; simp at h
   | true=>rw [hb] at h; rw [TE hb,If h]
theorem Rs {x y:ah} (h:MK x y=true):x=y:=by
 unfold MK at h
 split at h
 ·rfl
 ·rw [If h]
 ·simp at h
theorem Kept.take {E E':Env} (h:Kept E E') (n:Nat):Kept (E.take n) (E'.take n):=by
 refine ⟨fun r e hr rA=>?_,fun q hq=>?_⟩
 ·rw [dy] at hr ⊢
  split at hr
  ·rename_i dD
   rw [if_pos dD]
   exact h.le r e hr rA
  ·simp at hr
 ·rw [dy] at hq ⊢
  split at hq
  ·rename_i dD
   rw [if_pos dD]
   exact h.free q hq
  ·simp at hq
theorem Kept.len {E E':Env} (h:Kept E E'):E.length≤E'.length:=by
 by_cases dD:E.length≤E'.length
 ·exact dD
 ·exfalso
  have hr:E'.length<E.length:=by omega
  have h1:=eY hr
  have h0:E'[E'.length]?=none:=List.getElem?_eq_none (bk _)
  by_cases h2:E[E'.length]=hole
  ·rw [h2] at h1
   have:=h.free _ h1
   rw [h0] at this
   simp at this
  ·obtain ⟨_,this,_⟩:=h.le _ _ h1 h2
   rw [h0] at this
   simp at this
theorem Kept.lK (E:Env) (n:Nat):Kept (E.take n) E:=⟨fun r e hr hn=>⟨e.2.1.2,by
 rw [dy] at hr
 split at hr
 ·exact hr
 ·simp at hr,hn⟩,fun q hq=>by
 rw [dy] at hq
 split at hq
 ·exact hq
 ·simp at hq⟩
theorem LJ {E:Env} {n r b sz:Nat}:di (E.take n) r b sz→di E r b sz:=fun ⟨hh,q,q2⟩=>⟨hh,by
 rw [dy] at q
 split at q
 ·exact q
 ·simp at q,q2⟩
theorem Kept.back (hk:Kept E E') {r:Nat} (hr:r<E.length) {e:fQ} (h:E'[r]?=some e) (he:e≠hole):∃ K,E[r]?=some (e.wk K):=by
 have h1:=eY hr
 by_cases h2:E[r]=hole
 ·rw [h2] at h1
  have:=hk.free r h1
  rw [h] at this
  simp only [aq] at this
  exact (he this).elim
 ·obtain ⟨K,this,_⟩:=hk.le r _ h1 h2
  rw [h] at this
  simp only [aq] at this
  exact ⟨E[r].2.1.2,by rw [h1,this]; rfl⟩
theorem Kept.bq (hk:Kept E E') {r b sz:Nat} (hr:r<E.length) (h:bq E' r b sz):bq E r b sz:=by
 obtain ⟨hd,h⟩:=h
 obtain ⟨K,h⟩:=hk.back hr h (fQ.Je rfl)
 exact ⟨(hd.1,K),h⟩
theorem rj {n:Nat}:∀ {l:List Nat},vQ n l=true→∀ r∈l,r<n
 | [],_,r,hr=>by simp at hr
 | x::l,h,r,hr=>by
   have h:(Bool.rec false (vQ n l) (Nat.blt x n):Bool)=true:=h
   cases hb:Nat.blt x n with
   | false=>rw [hb] at h; simp at h
   | true=>
     rw [hb] at h
     rcases List.mem_cons.1 hr with rfl|hr
     ·exact aK hb
     ·exact rj h r hr
theorem aB.shrink {α β:Type} {R S:α→β→Prop} {l:List α} {m:List β} (h:aB R l m) (k:∀ x∈l,∀ y,R x y→S x y):aB S l m:=by
 induction h with
 | nil=>exact .nil
 | cons q _ ih=>exact .cons (k _ (eS ..) _ q) (ih fun x hx=>k x (fe _ hx))
theorem bh.shrink (hk:Kept E E') (ha:∀ b,Fz b→dp b) {x:C} {v:Value} (hx:uN E.length x=true) (h:bh E' dp w' x v):bh E Fz w' x v:=by
 cases x with
 | im x=>exact dm.mono (ba.refl _ w') (fun b _ q=>ha b q) h
 | rt r i j=>obtain ⟨b,sz,h1,h2⟩:=h; exact ⟨b,sz,hk.bq (aK hx) h1,h2⟩
 | sa r m=>
   obtain ⟨e,a,n,cap,h1,h2,h3⟩:=h
   obtain ⟨K,h1⟩:=hk.back (aK hx) h1 (fQ.Jr h2)
   exact ⟨_,a,n,cap,h1,h2,h3⟩
 | mp r=>obtain ⟨b,sz,h1,h2⟩:=h; exact ⟨b,sz,hk.bq (aK hx) h1,h2⟩
 | yl r=>obtain ⟨b,sz,h1,h2⟩:=h; exact ⟨b,sz,hk.bq (aK hx) h1,h2⟩
 | ow r j=>
   obtain ⟨e,vs,h1,h2,h3,h4⟩:=h
   obtain ⟨K,h1⟩:=hk.back (aK hx) h1 (fQ.Ns h2 h3)
   exact ⟨_,vs,h1,h2,h3,h4⟩
 | mc f l=>
   obtain ⟨vs,h1,h2⟩:=h
   exact ⟨vs,h1,h2.shrink fun r hr y ⟨b,sz,q,q2⟩=>⟨b,sz,hk.bq (rj hx r hr) q,q2⟩⟩
theorem iE {n:Nat}:∀ {l:List C},iL n l=true→∀ x∈l,uN n x=true
 | [],_,x,hx=>by simp at hx
 | y::l,h,x,hx=>by
   have h:(Bool.rec false (iL n l) (uN n y):Bool)=true:=h
   cases hb:uN n y with
   | false=>rw [hb] at h; simp at h
   | true=>
     rw [hb] at h
     rcases List.mem_cons.1 hx with rfl|hx
     ·exact hb
     ·exact iE h x hx
theorem rV {n:Nat}:∀ {l:List C},(∀ x∈l,uN n x=true)→iL n l=true
 | [],_=>rfl
 | y::l,h=>by
   show (Bool.rec false (iL n l) (uN n y):Bool)=true
   rw [h y (eS ..)]
   exact rV fun x hx=>h x (fe _ hx)
theorem zl {n:Nat}:∀ {l:List (Bool×List C)},Bp n l=true→∀ x∈l,iL n x.2=true
 | [],_,x,hx=>by simp at hx
 | y::l,h,x,hx=>by
   have h:(Bool.rec false (Bp n l) (iL n y.2):Bool)=true:=h
   cases hb:iL n y.2 with
   | false=>rw [hb] at h; simp at h
   | true=>
     rw [hb] at h
     rcases List.mem_cons.1 hx with rfl|hx
     ·exact hb
     ·exact zl h x hx
theorem a7.shrink (hk:Kept E E') (ha:∀ b,Fz b→dp b) {d:D} {v:Value} (hd:j3 E.length d=true) (h:a7 E' dp w' d v):a7 E Fz w' d v:=by
 cases d with
 | c x=>exact bh.shrink hk ha hd h
 | a l=>obtain ⟨cs,h1,h2⟩:=h; exact ⟨cs,h1,h2.shrink fun x hx y q=>bh.shrink hk ha (iE hd x hx) q⟩
 | t l=>
   obtain ⟨vs,h1,h2⟩:=h
   refine ⟨vs,h1,h2.shrink ?_⟩
   rintro ⟨b,l'⟩ hx y q
   have ec:=zl hd _ hx
   cases b with
   | true=>obtain ⟨cs,q1,q2⟩:=q; exact ⟨cs,q1,q2.shrink fun x hx y q=>bh.shrink hk ha (iE ec x hx) q⟩
   | false=>
     obtain ⟨c,q1,q2⟩:=q
     have q1:l'=[c]:=q1
     refine ⟨c,q1,bh.shrink hk ha (iE ec c ?_) q2⟩
     simp only [q1]; exact eS ..
theorem oL {r b sz:Nat} (h:bq E r b sz):r<E.length:=by obtain ⟨hd,h⟩:=h; exact (List.getElem?_eq_some_iff.1 h).1
theorem iK {a b:Nat} (h:a<b):Nat.blt a b=true:=by simpa [cD] using h
theorem xF {n:Nat}:∀ {l:List Nat},(∀ r∈l,r<n)→vQ n l=true
 | [],_=>rfl
 | x::l,h=>by
   show (Bool.rec false (vQ n l) (Nat.blt x n):Bool)=true
   rw [iK (h x (eS ..))]
   exact xF fun r hr=>h r (fe _ hr)
theorem aB.left {α β:Type} {R:α→β→Prop} {l:List α} {m:List β} (h:aB R l m):∀ x∈l,∃ y,R x y:=by
 induction h with
 | nil=>intro x hx; simp at hx
 | cons q _ ih=>
   intro x hx
   rcases List.mem_cons.1 hx with rfl|hx
   ·exact ⟨_,q⟩
   ·exact ih x hx
theorem bh.low {x:C} {v:Value} (h:bh E av w x v):uN E.length x=true:=by
 cases x with
 | im x=>rfl
 | rt r i j=>obtain ⟨b,sz,h1,_⟩:=h; exact iK (oL h1)
 | sa r m=>obtain ⟨e,a,n,cap,h1,_⟩:=h; exact iK (List.getElem?_eq_some_iff.1 h1).1
 | mp r=>obtain ⟨b,sz,h1,_⟩:=h; exact iK (oL h1)
 | yl r=>obtain ⟨b,sz,h1,_⟩:=h; exact iK (oL h1)
 | ow r j=>obtain ⟨e,vs,h1,_⟩:=h; exact iK (List.getElem?_eq_some_iff.1 h1).1
 | mc f l=>
   obtain ⟨vs,_,h2⟩:=h
   exact xF fun r hr=>by
    obtain ⟨_,b,sz,h1,_⟩:=h2.left r hr
    exact oL h1
theorem L.low {l:List C} {cs:List Value} (h:aB (bh E av w) l cs):iL E.length l=true:=rV fun x hx=>by
 obtain ⟨y,q⟩:=h.left x hx
 exact bh.low q
theorem a7.low {d:D} {v:Value} (h:a7 E av w d v):j3 E.length d=true:=by
 cases d with
 | c x=>exact bh.low h
 | a l=>obtain ⟨cs,_,h2⟩:=h; exact L.low h2
 | t l=>
   obtain ⟨vs,_,h2⟩:=h
   show Bp E.length l=true
   have key:∀ x∈l,iL E.length x.2=true:=fun x hx=>by
    obtain ⟨y,q⟩:=h2.left x hx
    obtain ⟨b,l'⟩:=x
    cases b with
    | true=>obtain ⟨cs,_,q2⟩:=q; exact L.low q2
    | false=>
      obtain ⟨c,q1,q2⟩:=q
      have q1:l'=[c]:=q1
      subst q1
      exact rV fun x hx=>by
       rcases List.mem_cons.1 hx with rfl|hx
       ·exact bh.low q2
       ·simp at hx
   clear h2
   induction l with
   | nil=>rfl
   | cons y l ih=>
     show (Bool.rec false (Bp E.length l) (iL E.length y.2):Bool)=true
     rw [key y (eS ..)]
     exact ih fun x hx=>key x (fe _ hx)
theorem qS {n:Nat}:∀ {rs aG:List ah} {k:Nat} {ws:List (Nat×ah)},xG n rs aG k=some ws→
  (∀ p∈ws,k≤p.1)∧∀ (pre:List ah),pre.length=k→∀ (q:Nat) (x:ah),(writes ws (pre++rs))[q]?=some x→(q<k∧pre[q]?=some x)∨(k≤q∧aG[q-k]?=some x∧(rs[q-k]?=some x∨lC n x=true))
 | [],aG,k,ws,h=>by
   have h:some []=some ws:=h
   simp only [aq] at h
   subst h
   refine ⟨fun p hp=>by simp at hp,fun pre tp q x hx=>?_⟩
   have hx:(pre++[])[q]?=some x:=hx
   rw [List.append_nil] at hx
   exact .inl ⟨by rw [← tp]; exact (List.getElem?_eq_some_iff.1 hx).1,hx⟩
 | x0::rs,[],k,ws,h=>by
   have h:(none:Option (List (Nat×ah)))=some ws:=h
   simp at h
 | x0::rs,y::aG,k,ws,h=>by
   have h:(Bool.rec (Bool.rec none (match xG n rs aG (k+1) with
    | some ws=>some ((k,y)::ws)
    | none=>none) (lC n y)) (xG n rs aG (k+1)) (MK x0 y):Option (List (Nat×ah)))=some ws:=h
   cases hb:MK x0 y with
   | true=>
     rw [hb] at h
     obtain ⟨h1,h2⟩:=qS (rs:=rs) (aG:=aG) (k:=k+1) h
     refine ⟨fun p hp=>by have:=h1 p hp; omega,fun pre tp q x hx=>?_⟩
     have e:pre++x0::rs=(pre++[x0])++rs:=by simp
     rw [e] at hx
     rcases h2 (pre++[x0]) (by simp [tp]) q x hx with ⟨h3,h4⟩|⟨h3,h4,h5⟩
     ·by_cases hq:q<k
      ·rw [dH (by omega)] at h4
       exact .inl ⟨hq,h4⟩
      ·have:q=k:=by omega
       subst this
       rw [gC (by omega)] at h4
       simp [tp] at h4
       subst h4
       right
       rw [Nat.sub_self]
       exact ⟨bk _,by simp [Rs hb],.inl (by simp)⟩
     ·right
      have:q-k=(q-(k+1))+1:=by omega
      rw [this]
      exact ⟨by omega,by simpa using h4,by simpa using h5⟩
   | false=>
     rw [hb] at h
     obtain ⟨ec,h⟩:=Bool.au (show (Bool.rec none (match xG n rs aG (k+1) with
      | some ws=>some ((k,y)::ws)
      | none=>none) (lC n y):Option (List (Nat×ah)))=some ws from h)
     split at h
     case h_2=>simp at h
     rename_i ws' hws
     simp only [aq] at h
     subst h
     obtain ⟨h1,h2⟩:=qS (rs:=rs) (aG:=aG) (k:=k+1) hws
     refine ⟨fun p hp=>by
      rcases List.mem_cons.1 hp with rfl|hp
      ·exact bk _
      ·have:=h1 p hp; omega,fun pre tp q x hx=>?_⟩
     have hx:(writes ws' (setAt (pre++x0::rs) k y))[q]?=some x:=hx
     have e:setAt (pre++x0::rs) k y=(pre++[y])++rs:=by
      rw [aQ,List.set_append]
      simp [tp]
     rw [e] at hx
     rcases h2 (pre++[y]) (by simp [tp]) q x hx with ⟨h3,h4⟩|⟨h3,h4,h5⟩
     ·by_cases hq:q<k
      ·rw [dH (by omega)] at h4
       exact .inl ⟨hq,h4⟩
      ·have:q=k:=by omega
       subst this
       rw [gC (by omega)] at h4
       simp [tp] at h4
       subst h4
       right
       rw [Nat.sub_self]
       exact ⟨bk _,by simp,.inr ec⟩
     ·right
      have:q-k=(q-(k+1))+1:=by omega
      rw [this]
      exact ⟨by omega,by simpa using h4,by simpa using h5⟩
theorem EY:Oa fun rs aG=>xG rs.length rs aG 0:=fun rs aG ws h q x hx=>by
 rcases (qS h).2 [] rfl q x hx with ⟨h1,_⟩|⟨_,h2,h3⟩
 ·omega
 ·exact ⟨h2,h3⟩
theorem iu:∀ (ws:List (Nat×ah)) (rs:List ah),(writes ws rs).length=rs.length
 | [],rs=>rfl
 | p::ws,rs=>by
   show (writes ws (setAt rs p.1 p.2)).length=_
   rw [iu ws,aQ]; simp
theorem iN:∀ {sl:aN} {t:Tmp} {x:D×ft},look sl t=some x→(t,x)∈sl
 | [],t,x,h=>by simp [look] at h
 | (k,d,c)::sl,t,x,h=>by
   simp only [look] at h
   split at h
   ·rename_i hb
    simp only [aq] at h
    rw [← bL hb,← h]
    exact eS ..
   ·exact fe _ (iN h)
theorem qu {n:Nat}:∀ {l:List Fc},ud n l=true→∀ x∈l,wv n x=true
 | [],_,x,hx=>by simp at hx
 | y::l,h,x,hx=>by
   have h:(Bool.rec false (ud n l) (wv n y):Bool)=true:=h
   cases hb:wv n y with
   | false=>rw [hb] at h; simp at h
   | true=>
     rw [hb] at h
     rcases List.mem_cons.1 hx with rfl|hx
     ·exact hb
     ·exact qu h x hx
theorem Et {n el sz k i j:Nat} {get:Nat→Nat→O} {eG:Option (Nat×List Fc)} {c:Fc} (h:lC n (.cR el sz k get eG)=true) (hc:gg get eG i j=some c):wv n c=true:=by
 unfold gg at hc
 split at hc
 ·simp only [aq] at hc; subst hc; rfl
 ·rename_i x
  split at hc
  ·rw [bp] at hc
   exact qu (show ud n x.2=true from h) c (List.mem_of_getElem? hc)
  ·simp only [aq] at hc; subst hc; rfl
theorem iU.shrink {base:Nat} (hk:Kept E E') (ha:∀ b,Fz b→dp b) {x:Fc} {K:Nat→Prop} {v:Value} (hx:wv E.length x=true) (h:iU E' dp base w' x K v):iU E Fz base w' x K v:=by
 cases x with
 | c x=>exact bh.shrink hk ha hx h
 | o x=>exact fC.mono (ba.refl _ w') (fun b _ q=>ha b q) (fun _ _=>rfl) h
theorem iU.low {av:Nat→Prop} {base:Nat} {x:Fc} {K:Nat→Prop} {v:Value} (h:iU E av base w x K v):wv E.length x=true:=by
 cases x with
 | c x=>exact bh.low h
 | o x=>rfl
theorem R.trim {sl:aN} {rs aG:List ah} {df:List Nat} (h:R T N ay w0 sp ⟨sl,rs,df⟩ a w E) (h':R T N ay w0 sp ⟨sl,aG,df⟩ a w' E') (hk0:Kept E E') {ws:List (Nat×ah)} (hw:∀ (q:Nat) (x:ah),(writes ws rs)[q]?=some x→aG[q]?=some x∧(rs[q]?=some x∨lC rs.length x=true))
  {d:D} (hd:j3 rs.length d=true) {v:Value} (hv:a7 E' (AV ay aG E') w' d v):∃ E1,Kept E E1∧E1.length=E.length∧R T N ay w0 sp ⟨sl,writes ws rs,df⟩ a w' E1∧a7 E1 (AV ay (writes ws rs) E1) w' d v:=by
 have hlen0:E.length=rs.length:=h.len
 have hkE:Kept E (E'.take E.length):=by
  have:=hk0.take E.length
  rwa [List.take_length] at this
 have hlen:(E'.take E.length).length=rs.length:=by rw [List.length_take,Nat.min_eq_left hk0.len,hlen0]
 have hk:Kept (E'.take E.length) E':=Kept.lK E' E.length
 refine ⟨E'.take E.length,hkE,by rw [hlen,hlen0],?_⟩
 generalize hE1:E'.take E.length=E1 at hkE hlen hk ⊢
 have eM:∀ {r b sz:Nat},di E1 r b sz→di E' r b sz:=fun q=>LJ (by rw [hE1]; exact q)
 have xI:∀ {q:Nat} {e:fQ},E1[q]?=some e→E'[q]?=some e:=fun {q e} h1=>by
  rw [← hE1,dy] at h1
  split at h1
  ·exact h1
  ·simp at h1
 have key:∀ (q:Nat) (x:ah),(writes ws rs)[q]?=some x→aG[q]?=some x∧(rs[q]?=some x∨lC E1.length x=true):=by
  intro q x hx
  rw [hlen]
  exact hw q x hx
 have eP:∀ b,AV ay (writes ws rs) E1 b→AV ay aG E' b:=by
  rintro b (q|⟨r,x,sz,h1,h2,h3⟩)
  ·exact .inl q
  ·exact .inr ⟨r,x,sz,(key r x h1).1,h2,eM h3⟩
 have lowd:∀ {d:D} {v:Value},a7 E (AV ay rs E) w d v→j3 E1.length d=true:=fun q=>by rw [hlen,← hlen0]; exact a7.low q
 refine ⟨⟨h.size,h.defers.mono fun _ _ ⟨b,sz,q,e⟩=>⟨b,sz,hkE.le.at_ q,e⟩,fun x hx=>a7.shrink hk eP (lowd (h.spec x hx)) (h'.spec x hx),h'.below,by rw [show (VS.mk sl (writes ws rs) df).rs.length=rs.length from iu ws rs]; exact hlen,h.outer,?_,?_,?_,?_,h'.gM.mono (ba.refl _ w') (fun b _ q=>eP b q)⟩,a7.shrink hk eP (by rw [hlen]; exact hd) hv⟩
 ·intro q x e hx hE
  obtain ⟨k1,k2⟩:=key q x hx
  have hpost:=h'.roots q x e k1 (xI hE)
  have low:∀ {l:List C} {cs:List Value},(iL E1.length l=true)→aB (bh E' (AV ay aG E') w') l cs→aB (bh E1 (AV ay (writes ws rs) E1) w') l cs:=fun hl hc=>hc.shrink fun x hx y q=>bh.shrink hk eP (iE hl x hx) q
  have hq0:q<E.length:=by rw [hlen0,← hlen]; exact (List.getElem?_eq_some_iff.1 hE).1
  have h0:=eY hq0
  cases x with
  | dead=>trivial
  | box l=>
    obtain ⟨b,cs,Tc,p1,p2,p3,p4⟩:=hpost
    refine ⟨b,cs,Tc,p1,p2,p3,low ?_ p4⟩
    rcases k2 with k2|k2
    ·obtain ⟨_,_,_,_,_,_,p5⟩:=h.roots q _ _ k2 h0
     rw [hlen,← hlen0]
     exact L.low p5
    ·exact k2
  | row el sz n l=>
    obtain ⟨p1,p2,xs,p3,p4⟩:=hpost
    refine ⟨p1,p2,xs,p3,low ?_ p4⟩
    rcases k2 with k2|k2
    ·obtain ⟨_,_,_,_,p5⟩:=h.roots q _ _ k2 h0
     rw [hlen,← hlen0]
     exact L.low p5
    ·exact k2
  | arr el sz n get=>
    obtain ⟨p1,p2,xs,p3,p4⟩:=hpost
    refine ⟨p1,p2,xs,p3,fun i hi j hj=>?_⟩
    obtain ⟨x,p5,p6⟩:=p4 i hi j hj
    exact ⟨x,p5,dm.mono (ba.refl _ w') (fun b _ q=>eP b q) p6⟩
  | cR el sz n get eG=>
    obtain ⟨p1,p2,xs,p3,Ks,p4,pf,p5⟩:=hpost
    refine ⟨p1,p2,xs,p3,Ks,p4,pf,fun i hi j hj=>?_⟩
    obtain ⟨x,c,p6,p7,p8⟩:=p5 i hi j hj
    refine ⟨x,c,p6,p7,iU.shrink hk eP ?_ p8⟩
    rcases k2 with k2|k2
    ·obtain ⟨_,_,_,_,_,_,_,r5⟩:=h.roots q _ _ k2 h0
     obtain ⟨x',c',_,r7,r8⟩:=r5 i hi j hj
     rw [p7] at r7
     simp only [aq] at r7
     subst r7
     rw [hlen,← hlen0]
     exact iU.low r8
    ·exact Et k2 p7
  | own l=>
    obtain ⟨p1,p2,vs,p3,p4,Ks,p5,p6,p7⟩:=hpost
    refine ⟨p1,p2,vs,p3,p4,Ks,p5,p6,fun i o ho=>?_⟩
    obtain ⟨v,g1,g2⟩:=p7 i o ho
    exact ⟨v,g1,fC.mono (ba.refl _ w') (fun b _ q=>eP b q) (fun _ _=>rfl) g2⟩
  | set l=>exact hpost
  | nZ=>exact hpost
  | loop f M gy ps as bd st fW=>
    obtain ⟨b,db,tm,p1,p2,p3,p4,p5⟩:=hpost
    rcases k2 with k2|k2
    ·obtain ⟨b',db',tm',r1,r2,r3,r4,r5⟩:=h.roots q _ _ k2 h0
     refine ⟨b,db,tm,p1,p2,p3,fun t d c hl=>?_,p5⟩
     have hcn:c=[]:=p5 _ (iN hl)
     subst hcn
     obtain ⟨s1,s2,s3⟩:=p4 t d [] hl
     obtain ⟨s4,s5,s6⟩:=r4 t d [] hl
     exact ⟨s1,fun q=>a7.shrink hk eP (lowd (s5 fun p hp=>by cases hp)) (s2 q),s3⟩
    ·simp [lC] at k2
 ·intro q x b sz hx hlv jr
  exact h'.dh q x b sz (key q x hx).1 hlv (eM jr)
 ·intro q q' x x' b sz cQ hx YZ hl uV jr aq9
  exact h'.dQ q q' x x' b sz cQ (key q x hx).1 (key q' x' YZ).1 hl uV (eM jr) (eM aq9)
 ·intro t d c hl
  obtain ⟨s1,s2,s3⟩:=h'.slots t d c hl
  obtain ⟨s4,s5,s6⟩:=h.slots t d c hl
  exact ⟨s1,fun q=>a7.shrink hk eP (lowd (s5 q)) (s2 q),s3⟩
end
open Go.RowKit
section
variable {P:Program} {T:dY} {lo:Lo} {hi:Hint} {N:Nat} {ay:Nat→Prop} {w0:Kp} {sp:List (D×Value)} {s:VS} {a:Act} {w:World} {E:Env} {ρ:Option Nat}
theorem A1 (l:List Nat) (s:VS):Rn l s=⟨s.sl,xN l s.rs,s.df⟩:=by cases l<;>rfl
theorem zY:∀ (l:List Nat) (rs:List ah) {q:Nat} {x:ah},aV (xN l rs) q=some x→x.live→q ∉ l∧aV rs q=some x
 | [],rs,q,x,h,_=>⟨by simp,h⟩
 | k::l,rs,q,x,h,hx=>by
   obtain ⟨h1,h2⟩:=zY l (setAt rs k .dead) h hx
   rw [bT,aQ,dP] at h2
   split at h2
   ·split at h2
    ·simp only [aq] at h2; subst h2; exact hx.elim
    ·simp at h2
   ·rename_i hq
    refine ⟨?_,by rw [bT]; exact h2⟩
    simp only [List.mem_cons,not_or]
    exact ⟨fun e=>hq e.symm,h1⟩
theorem kQ.T4 (u:kQ) (s:VS):(u.on s).df=s.df:=by
 unfold kQ.on yO
 cases u.dst with
 | none=>rfl
 | some t=>cases u.val<;>rfl
theorem kQ.Mi (u:kQ) {s:VS} (h:bN s.sl):bN (u.on s).sl:=by
 unfold kQ.on yO
 cases u.dst with
 | none=>exact h
 | some t=>cases u.val with
   | none=>exact h
   | some d=>exact h.cons _ _
theorem vz {us:Nat→kQ} {s0:VS} {L:Nat→Bool}:∀ n,(eF us s0 L n).df=s0.df
 | 0=>rfl
 | n+1=>by
   simp only [eF]
   split
   ·rw [kQ.T4,vz n]
   ·exact vz n
theorem oX {us:Nat→kQ} {s0:VS} {L:Nat→Bool} (h:bN s0.sl):∀ n,bN (eF us s0 L n).sl
 | 0=>h
 | n+1=>by
   simp only [eF]
   split
   ·exact kQ.Mi _ (oX h n)
   ·exact oX h n
theorem nA {us:Nat→kQ} {s0:VS} {L L':Nat→Bool}:∀ {n:Nat},(∀ k,k<n→L k=L' k)→eF us s0 L n=eF us s0 L' n
 | 0,_=>rfl
 | n+1,h=>by
   simp only [eF]
   rw [h n (by omega),nA (n:=n) fun k hk=>h k (by omega)]
theorem rp {u:kQ} {us:Nat→kQ} {s:VS}:∀ k,eF (fun|0=>u|k+1=>us k) s (fun _=>true) (k+1)=eF us (u.on s) (fun _=>true) k
 | 0=>rfl
 | k+1=>by
   rw [eF,rp k]
   rfl
structure P2 (T:dY) (lo:Lo) (hi:Hint) (N:Nat) (ops:List Oper) (cJ:List Nat) (W:List (Nat×List Nat)) (i b:Nat) (s:VS) (o:Oper) (m:Nat) (u:kQ):Prop where
 ev:lq T lo hi cJ i b ops (Rn (eL cJ i m W) s) o=some (.ok u)
 ok:C4 N u.dst u.val=true
 sub:CT (u.ws.map (·.1)) (nt i W)=true
 apart:nz (u.ws.map (·.1)) (eL cJ i m W)=true
 ex:Qp u.ex (eL cJ i m W)=true
theorem sk {ops:List Oper} {cJ:List Nat} {W:List (Nat×List Nat)}:∀ {l:List Oper} {ms:List Nat} {i b:Nat} {s sF:VS},kA T lo hi N ops cJ W l ms i b s=some sF→
  ∃ us:Nat→kQ,sF=eF us s (fun _=>true) l.length∧∀ k o,l[k]?=some o→∃ m,ms[k]?=some m∧P2 T lo hi N ops cJ W (i+k) (b+dU (l.take k)) (eF us s (fun _=>true) k) o m (us k)
 | [],ms,i,b,s,sF,h=>by
   have h:some s=some sF:=h
   simp only [aq] at h
   exact ⟨fun _=>⟨none,none,[],none,false⟩,h.symm,fun k o hk=>by simp at hk⟩
 | o::l,[],i,b,s,sF,h=>by
   have h:(none:Option VS)=some sF:=h
   simp at h
 | o::l,m::ms,i,b,s,sF,h=>by
   have h:(match lq T lo hi cJ i b ops (Rn (eL cJ i m W) s) o with
    | some (.ok u)=>(Bool.rec none (kA T lo hi N ops cJ W l ms (i+1) (b+eH o.op) (u.on s)) (C4 N u.dst u.val&&(CT (u.ws.map (·.1)) (nt i W)&&(nz (u.ws.map (·.1)) (eL cJ i m W)&&Qp u.ex (eL cJ i m W)))):Option VS)
    | _=>none)=some sF:=h
   split at h
   case h_2=>simp at h
   rename_i u hu
   obtain ⟨h1,h2⟩:=Bool.au h
   simp only [dz] at h1
   obtain ⟨us,h3,h4⟩:=sk h2
   refine ⟨fun|0=>u|k+1=>us k,?_,fun k o' hk=>?_⟩
   ·rw [List.length_cons,rp]; exact h3
   ·cases k with
    | zero=>
      simp at hk
      subst hk
      exact ⟨m,rfl,hu,h1.1,h1.2.1,h1.2.2.1,h1.2.2.2⟩
    | succ k=>
      obtain ⟨m',h5,h6⟩:=h4 k o' (by simpa using hk)
      refine ⟨m',by simpa using h5,?_⟩
      rw [rp]
      have e1:i+(k+1)=i+1+k:=by omega
      have e2:b+dU (List.take (k+1) (o::l))=b+eH o.op+dU (l.take k):=by
       show b+(eH o.op+dU (l.take k))=_
       omega
      rw [e1,e2]
      exact h6
theorem qh {ops:List Oper} {cJ:List Nat}:∀ {l:List Oper} {k b:Nat} {W:List (Nat×List Nat)} {s s':VS},l4 T lo hi N cJ ops l k b W s=some (.ok [] s')→
  W=[]∧∀ ms:List Nat,ms.length=l.length→kA T lo hi N ops cJ [] l ms k b s=some s'
 | [],k,b,W,s,s',h=>by
   have h:some (Cb.ok W s)=some (.ok [] s'):=h
   simp only [aq,Cb.ok.injEq] at h
   obtain ⟨rfl,rfl⟩:=h
   exact ⟨rfl,fun ms _=>rfl⟩
 | o::l,k,b,W,s,s',h=>by
   have h:(match lq T lo hi cJ k b ops s o with
    | some (.ok u)=>(Bool.rec none (l4 T lo hi N cJ ops l (k+1) (b+eH o.op) (Eb k u W) (u.on s)) (C4 N u.dst u.val):Option Cb)
    | some (.cX c)=>some (.cX c)
    | none=>none)=some (.ok [] s'):=h
   split at h
   ·rename_i u hu
    obtain ⟨h1,h2⟩:=Bool.au h
    obtain ⟨h3,h4⟩:=qh h2
    have h5:u.ws=[]∧W=[]:=by
     unfold Eb at h3
     split at h3
     ·rename_i hw; exact ⟨hw,h3⟩
     ·simp at h3
    refine ⟨h5.2,fun ms hms=>?_⟩
    cases ms with
    | nil=>simp at hms
    | cons m ms=>
      show (match lq T lo hi cJ k b ops s o with
       | some (.ok u)=>(Bool.rec none (kA T lo hi N ops cJ [] l ms (k+1) (b+eH o.op) (u.on s)) (C4 N u.dst u.val&&(CT (u.ws.map (·.1)) (nt k [])&&(nz (u.ws.map (·.1)) (eL cJ k m [])&&Qp u.ex (eL cJ k m [])))):Option VS)
       | _=>none)=some s'
      have hex:Qp u.ex (eL cJ k m [])=true:=by
       show Qp u.ex []=true
       cases u.ex<;>rfl
      rw [hu]
      simp only [h1,h5.1,hex]
      exact h4 ms (by simpa using hms)
   ·simp at h
   ·simp at h
theorem ur {ops:List Oper} {cJ:List Nat}:∀ {l:List Oper} {k b:Nat} {W W':List (Nat×List Nat)} {s s':VS},l4 T lo hi N cJ ops l k b W s=some (.ok W' s')→(∀ x∈W,x.1<k)→∀ x∈W',x.1<k+l.length
 | [],k,b,W,W',s,s',h,hk=>by
   have h:some (Cb.ok W s)=some (.ok W' s'):=h
   simp only [aq,Cb.ok.injEq] at h
   obtain ⟨rfl,rfl⟩:=h
   exact hk
 | o::l,k,b,W,W',s,s',h,hk=>by
   have h:(match lq T lo hi cJ k b ops s o with
    | some (.ok u)=>(Bool.rec none (l4 T lo hi N cJ ops l (k+1) (b+eH o.op) (Eb k u W) (u.on s)) (C4 N u.dst u.val):Option Cb)
    | some (.cX c)=>some (.cX c)
    | none=>none)=some (.ok W' s'):=h
   split at h
   ·rename_i u hu
    obtain ⟨h1,h2⟩:=Bool.au h
    intro x hx
    have:=ur h2 (fun x hx=>by
     unfold Eb at hx
     split at hx
     ·have:=hk x hx; omega
     ·rcases List.mem_append.1 hx with hx|hx
      ·have:=hk x hx; omega
      ·simp at hx; subst hx; simp) x hx
    simp only [List.length_cons]
    omega
   ·simp at h
   ·simp at h
theorem jI {n:Nat}:∀ {l:List Nat},oS n l=true↔n∈l
 | []=>by simp [oS]
 | x::l=>by
   have:oS n (x::l)=(Bool.rec (oS n l) true (Nat.beq x n):Bool):=rfl
   rw [this]
   cases hb:Nat.beq x n with
   | true=>simp [bL hb]
   | false=>
     have:x≠n:=fun e=>by rw [e,cf] at hb; simp at hb
     simp only [List.mem_cons]
     rw [jI]
     exact ⟨.inr,fun h=>h.elim (fun e=>(this e.symm).elim) id⟩
theorem uC {m:List Nat}:∀ {l:List Nat},nz l m=true→∀ q∈l,q ∉ m
 | [],_,q,hq=>by simp at hq
 | x::l,h,q,hq=>by
   have h:(Bool.rec (nz l m) false (oS x m):Bool)=true:=h
   cases hb:oS x m with
   | true=>rw [hb] at h; simp at h
   | false=>
     rw [hb] at h
     rcases List.mem_cons.1 hq with rfl|hq
     ·intro hm; rw [jI.2 hm] at hb; simp at hb
     ·exact uC h q hq
theorem zn {m:List Nat}:∀ {l:List Nat},CT l m=true→∀ q∈l,q∈m
 | [],_,q,hq=>by simp at hq
 | x::l,h,q,hq=>by
   obtain ⟨h1,h2⟩:=Bool.gH (show (Bool.rec false (CT l m) (oS x m):Bool)=true from h)
   rcases List.mem_cons.1 hq with rfl|hq
   ·exact jI.1 h1
   ·exact zn h2 q hq
theorem mP {α:Type} {k:Nat} {x:α}:∀ {l:List (Nat×α)},findF k l=some x→(k,x)∈l
 | [],h=>by simp [findF] at h
 | y::l,h=>by
   have h:(Bool.rec (findF k l) (some y.2) (Nat.beq y.1 k):Option α)=some x:=h
   cases hb:Nat.beq y.1 k with
   | true=>
     rw [hb] at h
     simp only [aq] at h
     have hk:=bL hb
     rw [← hk,← h]
     exact eS ..
   | false=>rw [hb] at h; exact fe _ (mP h)
theorem Hg {k q:Nat} {W:List (Nat×List Nat)} (h:q∈nt k W):∃ l,(k,l)∈W∧q∈l:=by
 unfold nt at h
 split at h
 ·rename_i l hl; exact ⟨l,mP hl,h⟩
 ·simp at h
def zM (A:List Nat) (i m j:Nat):Prop:=j≠i∧m.testBit j=false∧∀ x,A[j]?=some x→x.testBit i=false
theorem wi {A:List Nat} {i m:Nat} {x:Nat×List Nat} {W:List (Nat×List Nat)}:eL A i m (x::W)=(Bool.rec (x.2++eL A i m W) (eL A i m W) (Nat.beq x.1 i||(Nat.testBit m x.1||(match aV A x.1 with
  | some x=>Nat.testBit x i
  | none=>false))):List Nat):=rfl
theorem zv {A:List Nat} {i m:Nat} {q:Nat}:∀ {W:List (Nat×List Nat)} {x:Nat×List Nat},x∈W→q∈x.2→zM A i m x.1→q∈eL A i m W
 | [],x,h,_,_=>by simp at h
 | y::W,x,h,hq,hl=>by
   rw [wi]
   rcases List.mem_cons.1 h with rfl|h
   ·have h1:Nat.beq x.1 i=false:=by
     cases hb:Nat.beq x.1 i with
     | true=>exact (hl.1 (bL hb)).elim
     | false=>rfl
    have h2:(match aV A x.1 with
     | some x=>Nat.testBit x i
     | none=>false)=false:=by
     rw [bT]
     split
     ·rename_i y hy; exact hl.2.2 y hy
     ·rfl
    rw [h1,hl.2.1,h2]
    exact List.mem_append_left _ hq
   ·have:=zv h hq hl
    generalize (Nat.beq y.1 i||_)=b
    cases b with
    | true=>exact this
    | false=>exact List.mem_append_right _ this
theorem zu {A:List Nat} {i m:Nat}:∀ {W:List (Nat×List Nat)},(∀ x∈W,¬ zM A i m x.1)→eL A i m W=[]
 | [],_=>rfl
 | x::W,h=>by
   rw [wi]
   have ih:=zu (A:=A) (i:=i) (m:=m) (W:=W) fun y hy=>h y (fe _ hy)
   have hx:=h x (eS ..)
   cases hb:(Nat.beq x.1 i||(Nat.testBit m x.1||(match aV A x.1 with
    | some x=>Nat.testBit x i
    | none=>false))) with
   | true=>exact ih
   | false=>
     simp only [Bool.or_eq_false_iff] at hb
     refine (hx ⟨fun e=>?_,hb.2.1,fun y hy=>?_⟩).elim
     ·rw [e,cf] at hb; simp at hb
     ·have:=hb.2.2
      rw [bT,hy] at this
      exact this
theorem xg {i m:Nat}:∀ {l:List Nat} {k:Nat},O4 i m l k=true→∀ j x,l[j]?=some x→k+j=i∨m.testBit (k+j)=true∨x.testBit i=true
 | [],k,_,j,x,hx=>by simp at hx
 | y::l,k,h,j,x,hx=>by
   obtain ⟨h1,h2⟩:=Bool.gH (show (Bool.rec false (O4 i m l (k+1)) (Nat.beq k i||(Nat.testBit m k||Nat.testBit y i)):Bool)=true from h)
   cases j with
   | zero=>
     simp at hx
     subst hx
     simp only [Bool.or_eq_true] at h1
     rcases h1 with h1|h1|h1
     ·exact .inl (bL h1)
     ·exact .inr (.inl h1)
     ·exact .inr (.inr h1)
   | succ j=>
     have:=xg h2 j x (by simpa using hx)
     rwa [show k+1+j=k+(j+1) by omega] at this
theorem pF {A:List Nat} {i m:Nat} (hm:A[i]?=some m) (h:E9 A i=true) {j x:Nat} (hx:A[j]?=some x):¬ zM A i m j:=by
 unfold E9 at h
 rw [bT,hm] at h
 simp only at h
 rintro ⟨h1,h2,h3⟩
 rcases xg h j x hx with h4|h4|h4
 ·omega
 ·rw [Nat.zero_add] at h4; rw [h2] at h4; simp at h4
 ·rw [h3 x hx] at h4; simp at h4
theorem s9 {A:List Nat} {i b:Nat} {ops:List Oper} {s:VS} {o:Oper} {u:kQ} (h:lq T lo hi A i b ops s o=some (.ok u)) :
  (mA ops s.sl o.guard=some false∧u=⟨o.dst,some (.t []),[],none,false⟩) ∨
  (mA ops s.sl o.guard=some true∧∃ e,gk T lo hi b s o.dst o.op=some e∧(∀ l,e ≠ .cX l)∧u.dst=o.dst∧
   ((∃ d,e=.val d∧u.val=some d∧u.ws=[]∧u.al=none)∨(∃ d ws,e=.wr d ws∧u.val=d∧u.ws=ws∧u.al=none)∨(∃ d rs,e=.all d rs∧u.val=some d∧u.ws=[]∧u.al=some rs∧E9 A i=true) ∨
     (∃ d rs,e=.all d rs∧u.val=some d∧lo.diff s.rs rs=some u.ws∧u.al=none∧u.ex=true∧j3 s.rs.length d=true))):=by
 unfold lq at h
 split at h
 ·rename_i hw
  refine .inr ⟨hw,?_⟩
  unfold sb at h
  split at h
  ·rename_i d he
   simp only [aq,NY.ok.injEq] at h
   subst h
   exact ⟨_,he,fun _=>cF.noConfusion,rfl,.inl ⟨d,rfl,rfl,rfl,rfl⟩⟩
  ·rename_i d ws he
   simp only [aq,NY.ok.injEq] at h
   subst h
   exact ⟨_,he,fun _=>cF.noConfusion,rfl,.inr (.inl ⟨d,ws,rfl,rfl,rfl,rfl⟩)⟩
  ·simp at h
  ·rename_i d rs he
   cases hb:E9 A i with
   | false=>
     rw [hb] at h
     have h:KY lo o.dst d s.rs rs=some (.ok u):=h
     unfold KY at h
     split at h
     case h_2=>simp at h
     rename_i ws hws
     obtain ⟨h1,h⟩:=Bool.au h
     simp only [aq,NY.ok.injEq] at h
     subst h
     exact ⟨_,he,fun _=>cF.noConfusion,rfl,.inr (.inr (.inr ⟨d,rs,rfl,rfl,hws,rfl,rfl,h1⟩))⟩
   | true=>
     rw [hb] at h
     simp only [aq,NY.ok.injEq] at h
     subst h
     exact ⟨_,he,fun _=>cF.noConfusion,rfl,.inr (.inr (.inl ⟨d,rs,rfl,rfl,rfl,rfl,rfl⟩))⟩
  ·simp at h
 ·rename_i hw
  simp only [aq,NY.ok.injEq] at h
  exact .inl ⟨hw,h.symm⟩
 ·simp at h
theorem KU {A:List Nat} {i b:Nat} {ops:List Oper} {s:VS} {o:Oper} {u:kQ} (h:lq T lo hi A i b ops s o=some (.ok u)):u.dst=o.dst:=by
 rcases s9 h with ⟨_,rfl⟩|⟨_,e,_,_,h,_⟩
 ·rfl
 ·exact h
theorem xx {A:List Nat} {i b:Nat} {ops:List Oper} {s:VS} {o:Oper} {u:kQ} (h:lq T lo hi A i b ops s o=some (.ok u)) (ha:u.al≠none):E9 A i=true:=by
 rcases s9 h with ⟨_,rfl⟩|⟨_,e,_,_,_,h|h|h|h⟩
 ·exact (ha rfl).elim
 ·obtain ⟨_,_,_,_,h⟩:=h; exact (ha h).elim
 ·obtain ⟨_,_,_,_,_,h⟩:=h; exact (ha h).elim
 ·obtain ⟨_,_,_,_,_,_,h⟩:=h; exact h
 ·obtain ⟨_,_,_,_,_,h,_⟩:=h; exact (ha h).elim
structure Open (T:dY) (lo:Lo) (hi:Hint) (N:Nat) (ops:List Oper) (A:List Nat) (W:List (Nat×List Nat)) (us:Nat→kQ) (s0:VS) (b0:Nat):Prop where
 anc:Anc ops A
 below:∀ (i m:Nat),A[i]?=some m→∀ j,m.testBit j=true→j<i
 order:∀ (i:Nat) (o:Oper) (m:Nat),ops[i]?=some o→A[i]?=some m→BI m o.guard=true∧rH ops m o.op.operands.toList=true
 St:∀ (i j:Nat) (o o':Oper) (t:Tmp),ops[i]?=some o→ops[j]?=some o'→o.dst=some t→o'.dst=some t→i=j
 keys:∀ x∈W,x.1<ops.length
 sec:∀ (k:Nat) (o:Oper),ops[k]?=some o→∃ m,A[k]?=some m∧P2 T lo hi N ops A W k (b0+dU (ops.take k)) (eF us s0 (fun _=>true) k) o m (us k)
def qw (A:List Nat) (L:Nat→Bool):Prop:=∀ (j m:Nat),A[j]?=some m→L j=true→∀ k,m.testBit k=true→L k=true
section
variable {ops:List Oper} {A:List Nat} {W:List (Nat×List Nat)} {us:Nat→kQ} {s0:VS} {b0:Nat} {L:Nat→Bool} {i m:Nat} {o:Oper}
theorem Open.get (hO:Open T lo hi N ops A W us s0 b0) {k:Nat} (hk:k<ops.length):∃ o m,ops[k]?=some o∧A[k]?=some m∧P2 T lo hi N ops A W k (b0+dU (ops.take k)) (eF us s0 (fun _=>true) k) o m (us k):=by
 obtain ⟨m,h1,h2⟩:=hO.sec k ops[k] (eY hk)
 exact ⟨_,m,eY hk,h1,h2⟩
theorem Open.dst (hO:Open T lo hi N ops A W us s0 b0) {k:Nat} {o:Oper} (ho:ops[k]?=some o) {t:Tmp} (h:(NG t).nO (us k)):o.dst=some t:=by
 obtain ⟨m,_,h2⟩:=hO.sec k o ho
 rw [← KU h2.ev]
 exact kQ.Xt h
theorem Open.loose (hO:Open T lo hi N ops A W us s0 b0) (hm:A[i]?=some m) {k q:Nat} (hk:k<ops.length) (hl:zM A i m k) (ht:(L7 q).nO (us k)):q∈eL A i m W:=by
 obtain ⟨o,x,h1,h2,h3⟩:=hO.get hk
 rcases ht with ht|ht
 ·have hb:=xx h3.ev ht
  refine (pF h2 hb hm ?_).elim
  exact ⟨fun e=>hl.1 e.symm,hl.2.2 x h2,fun y hy=>by
   rw [hm] at hy
   simp only [aq] at hy
   subst hy
   exact hl.2.1⟩
 ·obtain ⟨l,h4,h5⟩:=Hg (zn h3.sub q ht)
  exact zv h4 h5 hl
theorem Open.same (hO:Open T lo hi N ops A W us s0 b0) (hL:qw A L) (hm:A[i]?=some m) (hi:L i=false) (hr:∀ k,m.testBit k=true→L k=true) {k:Nat} (hk:k<ops.length) (hl:¬ zM A i m k):((fun _=>true) k&&decide (k<i))=L k:=by
 obtain ⟨o,x,h1,h2,h3⟩:=hO.get hk
 by_cases e1:k=i
 ·subst e1; simp [hi]
 ·cases h4:m.testBit k with
  | true=>simp [hO.below i m hm k h4,hr k h4]
  | false=>
    cases h5:x.testBit i with
    | true=>
      have:=hO.below k x h2 i h5
      have h6:L k=false:=by
       cases hLk:L k with
       | false=>rfl
       | true=>rw [hL k x h2 hLk i h5] at hi; simp at hi
      rw [h6]
      simp; omega
    | false=>exact (hl ⟨e1,h4,fun y hy=>by
      rw [h2] at hy
      simp only [aq] at hy
      subst hy
      exact h5⟩).elim
theorem Open.slot (hO:Open T lo hi N ops A W us s0 b0) (hL:qw A L) (hm:A[i]?=some m) (jD:i<ops.length) (hi:L i=false) (hr:∀ k,m.testBit k=true→L k=true) {t:Tmp}
  (ht:∀ k o,ops[k]?=some o→o.dst=some t→m.testBit k=true):fc (eF us s0 (fun _=>true) i).sl t=fc (eF us s0 L ops.length).sl t:=by
 rw [← na (L:=fun _=>true) (Nat.le_of_lt jD)]
 refine (NG t).agree fun k hk Tw=>?_
 obtain ⟨o,x,h1,h2,h3⟩:=hO.get hk
 have h4:=ht k o h1 (hO.dst h1 Tw)
 exact hO.same hL hm hi hr hk fun hl=>by rw [hl.2.1] at h4; simp at h4
theorem Open.root (hO:Open T lo hi N ops A W us s0 b0) (hL:qw A L) (hm:A[i]?=some m) (jD:i<ops.length) (hi:L i=false) (hr:∀ k,m.testBit k=true→L k=true) {q:Nat}
  (hq:q ∉ eL A i m W):aV (eF us s0 (fun _=>true) i).rs q=aV (eF us s0 L ops.length).rs q:=by
 rw [← na (L:=fun _=>true) (Nat.le_of_lt jD)]
 refine (L7 q).agree fun k hk Tw=>?_
 exact hO.same hL hm hi hr hk fun hl=>hq (hO.loose hm hk hl Tw)
theorem wA:∀ (ws:List (Nat×ah)) (rs:List ah),(writes ws rs).length=rs.length
 | [],_=>rfl
 | p::ws,rs=>by
   show (writes ws (setAt rs p.1 p.2)).length=_
   rw [wA ws,aQ,List.length_set]
theorem zS:∀ (l:List Nat) (rs:List ah),(xN l rs).length=rs.length
 | [],_=>rfl
 | q::l,rs=>by
   show (xN l (setAt rs q .dead)).length=_
   rw [zS l,aQ,List.length_set]
def al6:View Nat where
 f s:=s.rs.length
 act u x:=match u.al with
  | some rs=>rs.length
  | none=>x
 nO u:=u.al≠none
 on u s:=by
  have:(u.on s).rs=writes u.ws (BW u.al s.rs):=by
   unfold kQ.on yO
   cases u.dst with
   | none=>rfl
   | some t=>cases u.val<;>rfl
  rw [this,wA]
  unfold BW
  cases u.al<;>rfl
 idle u x h:=by
  cases hu:u.al with
  | none=>rfl
  | some rs=>exact (h (by rw [hu]; simp)).elim
theorem Open.len (hO:Open T lo hi N ops A W us s0 b0) (hL:qw A L) (hm:A[i]?=some m) (jD:i<ops.length) (hi:L i=false) (hr:∀ k,m.testBit k=true→L k=true) :
  (eF us s0 (fun _=>true) i).rs.length=(eF us s0 L ops.length).rs.length:=by
 rw [← na (L:=fun _=>true) (Nat.le_of_lt jD)]
 refine al6.agree fun k hk Tw=>?_
 refine hO.same hL hm hi hr hk fun hl=>?_
 obtain ⟨o,x,h1,h2,h3⟩:=hO.get hk
 refine (pF h2 (xx h3.ev Tw) hm ?_).elim
 exact ⟨fun e=>hl.1 e.symm,hl.2.2 x h2,fun y hy=>by
  rw [hm] at hy
  simp only [aq] at hy
  subst hy
  exact hl.2.1⟩
theorem El {α:Type} {l l':List α} (h:∀ q,aV l q=aV l' q):l=l':=List.ext_getElem? fun q=>by rw [← bT,← bT,h q]
theorem Open.Ru (hO:Open T lo hi N ops A W us s0 b0) (hL:qw A L) (ho:ops[i]?=some o) (hm:A[i]?=some m) (jD:i<ops.length) (hi:L i=false) :
  (eF us s0 (more L i) ops.length).rs=((us i).on (eF us s0 L ops.length)).rs∧∀ t,fc (eF us s0 (more L i) ops.length).sl t=fc ((us i).on (eF us s0 L ops.length)).sl t:=by
 refine ⟨El fun q=>((L7 q).step jD hi fun ht k h1 h2 h3 Tw=>?_).symm,fun t=>((NG t).step jD hi fun ht k h1 h2 h3 Tw=>?_).symm⟩
 ·obtain ⟨o',x,h4,h5,h6⟩:=hO.get h2
  obtain ⟨m',h7,h8⟩:=hO.sec i o ho
  rw [hm] at h7
  simp only [aq] at h7
  subst h7
  have hl:zM A i m k:=by
   refine ⟨by omega,?_,fun y hy=>?_⟩
   ·cases hb:m.testBit k with
    | false=>rfl
    | true=>have:=hO.below i m hm k hb; omega
   ·cases hb:y.testBit i with
    | false=>rfl
    | true=>rw [hL k y hy h3 i hb] at hi; simp at hi
  rcases ht with ht|ht
  ·exact pF hm (xx h8.ev ht) h5 hl
  ·exact uC h8.apart q ht (hO.loose hm h2 hl Tw)
 ·obtain ⟨o',x,h4,h5,h6⟩:=hO.get h2
  have:=hO.St i k o o' t ho h4 (hO.dst ho ht) (hO.dst h4 Tw)
  omega
theorem xm:∀ {sl:aN} {t:Tmp} {d:D} {c:ft},look sl t=some (d,c)→fc sl t=some d
 | [],t,d,c,h=>by simp [look] at h
 | (k,x,c')::sl,t,d,c,h=>by
   rw [xO]
   simp only [look] at h
   split at h
   ·rename_i hb
    simp only [aq,bs] at h
    rw [hb,h.1]
   ·rename_i hb
    rw [hb]; exact xm h
theorem look_nil:∀ {sl:aN} {t:Tmp} {d:D} {c:ft},bN sl→look sl t=some (d,c)→c=[]
 | [],t,d,c,_,h=>by simp [look] at h
 | (k,x,c')::sl,t,d,c,hn,h=>by
   simp only [look] at h
   split at h
   ·simp only [aq,bs] at h
    rw [← h.2]; exact hn _ (eS ..)
   ·exact look_nil (fun y hy=>hn y (fe _ hy)) h
theorem R.like (h:R T N ay w0 sp s a w E) (hn:bN s.sl) {s':VS} (xY:bN s'.sl) (h1:s'.rs=s.rs) (h2:s'.df=s.df) (h3:∀ t,fc s'.sl t=fc s.sl t):R T N ay w0 sp s' a w E:=by
 obtain ⟨gy,aG,C2⟩:=s'
 simp only at h1 h2
 subst h1 h2
 exact ⟨h.size,h.defers,h.spec,h.below,h.len,h.outer,h.roots,h.dh,h.dQ,fun t d c hl=>by
  have hc:=look_nil xY hl
  subst hc
  exact h.slots t d [] (gK hn ((h3 t).symm.trans (xm hl))),h.gM⟩
theorem FD {sl gy:aN} {g:Option (Nat×Bool)} (h:∀ j b p t,g=some (j,b)→ops[j]?=some p→p.dst=some t→fc sl t=fc gy t):mA ops sl g=mA ops gy g:=by
 unfold mA
 split
 ·rfl
 ·rename_i j b
  split
  ·rename_i p hp
   rw [bT] at hp
   split
   ·rename_i t ht
    rw [h j b p t rfl hp ht]
   ·rfl
  ·rfl
theorem Ed {b:Nat} {rs:List ah} {d:Option D} {ws:List (Nat×ah)} (h:Shape b rs ws) (hb:b<rs.length):E4 (.wr d ws) rs=writes ws rs:=by
 rcases h with ⟨x,rfl⟩|⟨q,x,rfl,hq⟩|⟨q,x,y,rfl⟩
 ·show place b x rs=setAt rs b x
  rw [iw x hb,aQ]
 ·show place q x rs=setAt rs q x
  rw [iw x hq,aQ]
 ·show place b y (setAt rs q x)=setAt (setAt rs q x) b y
  rw [iw y (by rw [aQ]; simpa using hb),aQ (setAt rs q x)]
theorem NR {rs:List ah} {d:Option D} {ws:List (Nat×ah)} (h:∀ b,Shape b rs ws):E4 (.wr d ws) rs=writes ws rs:=by
 have key:∀ q x,ws=[(q,x)]→q<rs.length→E4 (.wr d ws) rs=writes ws rs:=fun q x e hq=>by
  subst e
  show place q x rs=setAt rs q x
  rw [iw x hq,aQ]
 rcases h 0 with ⟨x,h0⟩|⟨q,x,h0,hq⟩|⟨q,x,y,h0⟩
 ·rcases h 1 with ⟨x',h1⟩|⟨q',x',h1,hq⟩|⟨q',x',y',h1⟩
  ·rw [h0] at h1; simp at h1
  ·exact key _ _ h1 hq
  ·rw [h0] at h1; simp at h1
 ·exact key _ _ h0 hq
 ·rcases h 1 with ⟨x',h1⟩|⟨q',x',h1,hq⟩|⟨q',x',y',h1⟩
  ·rw [h0] at h1; simp at h1
  ·exact key _ _ h1 hq
  ·rw [h0] at h1; simp at h1
theorem R.Bw (h:R T N ay w0 sp s a w E) {r:Nat} (hE:E[r]?=some hole):s.rs[r]?=some .dead:=by
 have hr:r<s.rs.length:=by rw [← h.len]; exact (List.getElem?_eq_some_iff.1 hE).1
 have hx:=eY hr
 rw [hx]
 have hrel:=h.roots r _ _ hx hE
 generalize s.rs[r]=x at hrel
 cases x with
 | dead=>rfl
 | box l=>obtain ⟨b,_,_,h1,_⟩:=hrel; simp [hole] at h1
 | arr el sz n get=>
   obtain ⟨_,_,xs,h1,_⟩:=hrel
   rcases h1.2 with ⟨h2,_⟩|⟨g,cap,cur,h2,_⟩<;>simp [hole,undef] at h2
 | row el sz n l=>
   obtain ⟨_,_,xs,h1,_⟩:=hrel
   rcases h1.2 with ⟨h2,_⟩|⟨g,cap,cur,h2,_⟩<;>simp [hole,undef] at h2
 | cR el sz n get eG=>
   obtain ⟨_,_,xs,h1,_⟩:=hrel
   rcases h1.2 with ⟨h2,_⟩|⟨g,cap,cur,h2,_⟩<;>simp [hole,undef] at h2
 | own l=>
   obtain ⟨_,h0,vs,h1,h2,_⟩:=hrel
   simp only [hole,undef,Value.tuple.injEq] at h1
   rw [← h1] at h2
   exact (h0 (List.length_eq_zero_iff.1 (by simpa using h2.symm))).elim
 | set l=>obtain ⟨b,_,_,h1,_⟩:=hrel; simp [hole] at h1
 | loop f M sl ps as bd st fW=>obtain ⟨b,_,_,h1,_⟩:=hrel; simp [hole] at h1
 | nZ=>obtain ⟨b,h1,_⟩:=hrel; simp [hole] at h1
structure nM (b0:Nat) (E E':Env):Prop where
 le:Env.le E E'
 free:∀ q:Nat,q<b0→E[q]?=some hole→E'[q]?=some hole
theorem nM.trans {b0:Nat} {E F G:Env} (h:nM b0 E F) (k:nM b0 F G):nM b0 E G:=⟨h.le.trans k.le,fun q hq e=>k.free q hq (h.free q hq e)⟩
theorem nM.refl (b0:Nat) (E:Env):nM b0 E E:=⟨Env.le_refl E,fun _ _ h=>h⟩
theorem OP {b b':Nat} {s:VS} {dst:Option Tmp} {op:Op} {d:D} {rs:List ah} (h:gk T lo hi b s dst op=some (.all d rs)):gk T lo hi b' s dst op=some (.all d rs):=by
 by_cases hm:eH op=0
 ·rw [oz hm (b':=b)]; exact h
 unfold gk at h ⊢
 split at h
 ·simp at h
 ·rename_i hl
  cases op with
  | call c=>
    have h:gI T lo hi b s c=_:=h
    show gI T lo hi b' s c=_
    unfold gI at h ⊢
    split at h
    ·exfalso
     have fin:∀ {el sz k:Nat} {l':List C} {Pk:Nat} {c:C},C3 el sz k l' Pk b s.rs c≠some (.all d rs):=by
      intro el sz k l' Pk c q
      unfold C3 at q
      split at q
      ·split at q
       ·simp at q
       ·replace q:=(Bool.au q).2; simp at q
      ·split at q
       ·replace q:=(Bool.au q).2
        replace q:=(Bool.au q).2
        simp at q
       ·split at q
        ·replace q:=(Bool.au q).2
         replace q:=(Bool.au q).2
         simp at q
        ·simp at q
       ·simp at q
      ·simp at q
     unfold pw at h
     split at h
     case h_2=>simp at h
     replace h:=(Bool.au h).2
     split at h
     case h_2=>simp at h
     split at h
     ·rename_i e' he'
      subst h
      unfold pX at he'
      split at he'
      case h_2=>simp at he'
      split at he'
      case h_2=>simp at he'
      split at he'
      case h_2=>simp at he'
      simp only [aq] at he'
      unfold Bb at he'
      split at he'
      ·replace he':=(Bool.au he').2
       unfold qx at he'
       split at he'
       ·replace he':=(Bool.au he').2
        simp at he'
       ·split at he'
        ·replace he':=(Bool.au he').2
         replace he':=(Bool.au he').2
         replace he':=(Bool.au he').2
         simp at he'
        ·simp at he'
       ·simp at he'
      ·unfold ot at he'
       split at he'
       ·simp at he'
       ·simp at he'
     unfold pj at h
     split at h
     case h_2=>simp at h
     split at h
     case h_2=>simp at h
     split at h
     case h_2=>simp at h
     split at h
     case h_2=>simp at h
     split at h
     ·exact fin (Bool.au h).2
     ·exact fin (Bool.au h).2
    ·unfold mo at h ⊢
     split at h
     case h_2=>simp at h
     split at h
     ·exact h
     ·split at h
      case h_2=>simp at h
      unfold oi at h ⊢
      split at h
      ·exact h
      ·exact h
      ·exfalso
       unfold iD at h
       split at h
       ·simp at h
       ·revert h
        generalize fB _=p
        intro h
        cases p with
        | true=>simp at h
        | false=>
          rcases fh h with ⟨l,hl⟩|⟨hl,_⟩
          ·cases hl
          ·cases hl
       ·rcases fh h with ⟨l,hl⟩|⟨hl,_⟩
        ·cases hl
        ·cases hl
       ·simp at h
      ·exfalso
       unfold Qx at h
       split at h
       ·replace h:=(Bool.au h).2
        simp at h
       ·simp at h
      ·exfalso
       obtain ⟨is',cs,ob,L,_,_,_,_,q⟩:=kD h
       cases q
      ·exact h
    ·simp at h
  | box t x=>
    have h:uR b s x=_:=h
    unfold uR at h
    split at h<;>(try split at h)<;>simp at h
  | alloc t=>
    have h:kW T b t=_:=h
    unfold kW at h
    split at h<;>(try split at h)<;>simp at h
  | makeMap t r=>
    have h:kV T b t r=_:=h
    unfold kV at h
    split at h<;>simp at h
  | makeSlice t l c=>
    have h:mB T b s t l c=_:=h
    unfold mB at h
    split at h
    case h_2=>simp at h
    split at h
    case h_2=>simp at h
    split at h
    case h_2=>simp at h
    split at h
    case h_2=>simp at h
    split at h
    case h_2=>simp at h
    replace h:=(Bool.au h).2
    replace h:=(Bool.au h).2
    replace h:=(Bool.au h).2
    simp at h
  | buildSlice t n ps=>
    have h:LM T b s (sw hi dst) t n ps.toList=_:=h
    unfold LM at h
    split at h
    case h_2=>simp at h
    split at h
    case h_2=>simp at h
    split at h
    case h_2=>simp at h
    split at h
    case h_2=>simp at h
    replace h:=(Bool.au h).2
    rcases jX (sw hi dst) b _ _ n _ with hc|⟨_,_,hc⟩|⟨_,hc⟩<;>rw [hc] at h<;>simp at h
  | _=>exact (hm rfl).elim
def Ew (ops:List Oper) (b0:Nat) (L:Nat→Bool) (E:Env):Prop:=∀ j o,ops[j]?=some o→L j=false→eH o.op≠0→E[b0+dU (ops.take j)]?=some hole
theorem qi (l m:List Oper):dU (l++m)=dU l+dU m:=by
 induction l with
 | nil=>show dU m=0+dU m; omega
 | cons o l ih=>
   show eH o.op+dU (l++m)=(eH o.op+dU l)+dU m
   rw [ih]; omega
theorem jF {ops:List Oper} {j:Nat} {o:Oper} (h:ops[j]?=some o):dU (ops.take (j+1))=dU (ops.take j)+eH o.op:=by
 rw [List.take_add_one,h,qi]
 show dU (ops.take j)+(eH o.op+0)=_
 omega
theorem kY (ops:List Oper) {j k:Nat} (h:j≤k):dU (ops.take j)≤dU (ops.take k):=by
 have h1:=List.take_append_drop j (ops.take k)
 rw [List.take_take,Nat.min_eq_left h] at h1
 rw [← h1,qi]
 omega
theorem KI {j k:Nat} {o o':Oper} (hj:ops[j]?=some o) (hk:ops[k]?=some o') (h1:eH o.op≠0) (h2:eH o'.op≠0) (rA:j≠k):dU (ops.take j)≠dU (ops.take k):=by
 rcases Nat.lt_or_ge j k with h|h
 ·have:=kY ops (j:=j+1) (k:=k) h
  rw [jF hj] at this
  omega
 ·have:=kY ops (j:=k+1) (k:=j) (by omega)
  rw [jF hk] at this
  omega
theorem OC {s:VS} {dst:Option Tmp} {e:cF} {u:kQ} (hd:u.dst=dst) (xy:C4 N u.dst u.val=true) (hv:u.val=eh e) (Sd:∀ l,e ≠ .cX l) (E8:E4 e s.rs=writes u.ws (BW u.al s.rs)):qc N s dst e=some (u.on s):=by
 subst hd
 have key:∀ (d:D) (s1:VS),u.val=some d→s1={ s with rs:=writes u.ws (BW u.al s.rs) }→rr N s1 u.dst d=some (u.on s):=fun d s1 hv hs=>by
  subst hs
  unfold kQ.on rr yO
  unfold C4 at xy
  cases hdst:u.dst with
  | none=>rfl
  | some t=>
    rw [hdst,hv] at xy
    simp only [hv,show Nat.blt t N=true from xy]
 cases e with
 | val d=>
   refine key d s hv ?_
   obtain ⟨sl,rs,df⟩:=s
   have:rs=_:=E8
   simp only at this ⊢
   rw [← this]
 | wr d ws=>
   show IL N _ u.dst d=_
   have hv:u.val=d:=hv
   cases d with
   | some d=>exact key d _ hv (by rw [← E8])
   | none=>
     unfold C4 at xy
     unfold kQ.on yO IL
     cases hdst:u.dst with
     | none=>simp only [← E8]
     | some t=>rw [hdst,hv] at xy; simp at xy
 | all d rs=>exact key d _ hv (by rw [← E8]; rfl)
 | cX l=>exact (Sd l rfl).elim
theorem Open.op {ops:Array Oper} (hO:Open T lo hi N ops.toList A W us s0 b0) (bQ:dV P T) (H6:ib T P lo) (hL:qw A L) (ho:ops[i]?=some o) (hm:A[i]?=some m) (Ud:L i=false) (hr:∀ k,m.testBit k=true→L k=true)
  (h:R T N ay w0 sp (eF us s0 L ops.size) a w E) (hn:bN s0.sl) (hh:Ew ops.toList b0 L E) {Q:Exit→Act→World→Prop} {K:Act→World→Prop}
  (hK:∀ a' w' E',nM b0 E E'→R T N ay w0 sp (eF us s0 (more L i) ops.size) a' w' E'→Ew ops.toList b0 (more L i) E'→K a' w'):wpOpIn (Fr ρ) 0 P ops Q i K a w:=by
 have hlen:ops.toList.length=ops.size:=by simp
 have Pc:ops.toList[i]?=some o:=by simpa using ho
 have jD:i<ops.toList.length:=(List.getElem?_eq_some_iff.1 Pc).1
 obtain ⟨m',h1,hs⟩:=hO.sec i o Pc
 rw [hm] at h1
 simp only [aq] at h1
 subst h1
 have hord:=hO.order i o m Pc hm
 let S:=eF us s0 L ops.size
 have hnS:bN S.sl:=oX hn _
 have slot:∀ {t:Tmp},(∀ k o,ops.toList[k]?=some o→o.dst=some t→m.testBit k=true)→fc (eF us s0 (fun _=>true) i).sl t=fc S.sl t:=fun ht=>by
  have:=hO.slot hL hm jD Ud hr ht
  rw [hlen] at this
  exact this
 have hfin:∀ {a' w' E'},nM b0 E E'→R T N ay w0 sp ((us i).on S) a' w' E'→Ew ops.toList b0 (more L i) E'→K a' w':=fun {a' w' E'} V9 hR hH=>by
  obtain ⟨q1,q2⟩:=hO.Ru hL Pc hm jD Ud
  rw [hlen] at q1 q2
  exact hK _ _ _ V9 (hR.like (kQ.Mi _ hnS) (oX hn _) q1 (by rw [kQ.T4,vz,vz]) q2) hH
 have hwant:∀ {b:Bool},mA ops.toList (Rn (eL A i m W) (eF us s0 (fun _=>true) i)).sl o.guard=some b→Region.wanted o (yielded ops a.tmps)=b:=fun {b} hw=>by
  rw [A1] at hw
  refine qq h hnS (b:=b) ?_
  rw [← hw]
  refine (FD fun j b p t hg hp ht=>?_).symm
  refine slot fun k o1 hk kZ=>?_
  have:=hO.St j k p o1 t hp hk ht kZ
  subst this
  have:=hord.1
  rw [hg] at this
  exact this
 unfold wpOpIn
 rw [ho]
 simp only
 rcases s9 hs.ev with ⟨hw,hu⟩|⟨hw,e,he,Sd,hdst,hcase⟩
 ·rw [if_neg (by rw [hwant hw]; simp)]
  refine ⟨fun _ _=>trivial,?_⟩
  have om:rr N S o.dst (.t [])=some ((us i).on S):=by
   have xy:=hs.ok
   rw [hu] at xy ⊢
   unfold rr kQ.on yO
   unfold C4 at xy
   cases hd:o.dst with
   | none=>rfl
   | some t=>
     rw [hd] at xy
     simp only at xy
     simp only [xy]
     rfl
  obtain ⟨h2,h3⟩:=qV h hnS om zr
  refine hfin (nM.refl _ _) h2 fun j oj hj yr Sx=>?_
  by_cases hji:j=i
  ·subst hji; rw [iP] at yr; simp at yr
  ·rw [jk hji] at yr; exact hh j oj hj yr Sx
 ·rw [if_pos (hwant hw)]
  rw [A1] at he
  have hops:∀ x∈o.op.operands.toList,cA (eF us s0 (fun _=>true) i).sl x=cA S.sl x:=fun x hx=>by
   cases x with
   | tmp t=>
     refine slot fun k o1 hk kZ=>?_
     have:=lu hord.2 t hx
     unfold JV at this
     split at this
     ·rename_i j hj
      obtain ⟨j',o2,h4,h5,h6⟩:=vT hj
      have:=hO.St j' k o2 o1 t h5 hk h6 kZ
      subst this
      rw [Nat.zero_add] at h4
      subst h4
      assumption
     ·rename_i hj
      exact (qv hj k o1 hk kZ).elim
   | _=>rfl
  have hrle:pJ (xN (eL A i m W) (eF us s0 (fun _=>true) i).rs) S.rs:=fun q x hq hx=>by
   obtain ⟨h4,h5⟩:=zY _ _ hq hx
   have:=hO.root hL hm jD Ud hr h4
   rw [hlen] at this
   rw [← this]; exact h5
  have hall:∀ d r,e=.all d r→xN (eL A i m W) (eF us s0 (fun _=>true) i).rs=S.rs:=fun d r hd=>by
   have qy:eL A i m W=[]:=by
    rcases hcase with ⟨_,h4,_⟩|⟨_,_,h4,_⟩|⟨_,_,_,_,_,_,h4⟩|⟨_,_,_,_,_,_,h4,_⟩
    ·rw [hd] at h4; cases h4
    ·rw [hd] at h4; cases h4
    ·exact zu fun x hx=>by
      obtain ⟨_,y,_,h5,_⟩:=hO.get (hO.keys x hx)
      exact pF hm h4 h5
    ·have:=hs.ex
     rw [h4] at this
     unfold Qp at this
     simp only at this
     split at this
     ·assumption
     ·simp at this
   rw [qy]
   refine El fun q=>?_
   have:=hO.root hL hm jD Ud hr (q:=q) (by rw [qy]; simp)
   rw [hlen] at this
   exact this
  have heS:gk T lo hi (b0+dU (ops.toList.take i)) S o.dst o.op=some e:=Hl (C2:=S.df) H6.mono (by rw [zS]; have:=hO.len hL hm jD Ud hr; rw [hlen] at this; exact this) hrle hops Sd hall he
  by_cases hc4:∃ d rs,e=.all d rs∧(us i).val=some d∧lo.diff S.rs rs=some (us i).ws∧(us i).al=none∧j3 S.rs.length d=true
  ·obtain ⟨d,aG,h4,h5,h6,h7,h8⟩:=hc4
   subst h4
   have he':=OP (b':=S.rs.length) heS
   rcases rf bQ H6 h hnS (.inr rfl) he' (next:=K) (fun v w' E' ha=>by
    obtain ⟨g1,g2,g3⟩:=ha
    have hk:=Kept.Iz g1 (Nat.le_of_eq h.len)
    obtain ⟨E1,hkE,hEl,k1,k2⟩:=R.trim (sl:=S.sl) (df:=S.df) h g2 hk (H6.diff _ _ _ h6) h8 (g3 d rfl)
    have om:rr N { S with rs:=writes (us i).ws S.rs } o.dst d=some ((us i).on S):=by
     have xy:=hs.ok
     rw [← hdst]
     unfold kQ.on rr yO BW
     unfold C4 at xy
     rw [h7,h5]
     cases hdst':(us i).dst with
     | none=>rfl
     | some t=>
       rw [hdst',h5] at xy
       simp only [show Nat.blt t N=true from xy]
    obtain ⟨k3,k4⟩:=qV k1 hnS om k2
    refine hfin ⟨hkE.le,fun q _ e=>hkE.free q e⟩ k3 fun j oj hj yr Sx=>?_
    by_cases hji:j=i
    ·subst hji; rw [iP] at yr; simp at yr
    ·rw [jk hji] at yr; exact hkE.free _ (hh j oj hj yr Sx)) with ⟨l,hl⟩|h3
   ·exact (Sd l hl).elim
   ·exact h3.wpIn
  have hcase:(∃ d,e=.val d∧(us i).val=some d∧(us i).ws=[]∧(us i).al=none)∨(∃ d ws,e=.wr d ws∧(us i).val=d∧(us i).ws=ws∧(us i).al=none)∨(∃ d rs,e=.all d rs∧(us i).val=some d∧(us i).ws=[]∧(us i).al=some rs∧E9 A i=true):=by
   rcases hcase with q|q|q|⟨d,rs,q1,q2,q3,q4,q5,q6⟩
   ·exact .inl q
   ·exact .inr (.inl q)
   ·exact .inr (.inr q)
   ·refine (hc4 ⟨d,rs,q1,q2,?_,q4,?_⟩).elim
    ·have q7:=hall d rs q1
     rw [A1] at q3
     simp only at q3
     rw [q7] at q3
     exact q3
    ·have q7:=hall d rs q1
     rw [A1] at q6
     simp only at q6
     rw [q7] at q6
     exact q6
  have hbr:∃ b,gk T lo hi b S o.dst o.op=some e∧lB S E b∧E4 e S.rs=writes (us i).ws (BW (us i).al S.rs)∧(∀ E',mO b E E'→Ew ops.toList b0 (more L i) E')∧(∀ E',mO b E E'→nM b0 E E'):=by
   by_cases Sx:eH o.op=0
   ·refine ⟨S.rs.length,by rw [oz Sx (b':=b0+dU (ops.toList.take i))]; exact heS,.inr rfl,?_,fun E' hg j oj hj yr Sr=>?_,fun E' hg=>⟨hg.le,fun q hq e=>hg.free q (fun e'=>by
     have:=(List.getElem?_eq_some_iff.1 e).1
     rw [h.len] at this
     exact Nat.lt_irrefl _ (e'▸this)) e⟩⟩
    ·rcases hcase with ⟨d,h4,_,h5,h6⟩|⟨d,ws,h4,_,h5,h6⟩|⟨d,rs,h4,_,h5,h6,_⟩
     ·rw [h4,h5,h6]; rfl
     ·rw [h4,h5,h6]
      refine NR fun b=>xu (T:=T) (lo:=lo) (hi:=hi) (dst:=o.dst) (op:=o.op) (d:=d) (s:=S) ?_
      rw [oz Sx (b':=b0+dU (ops.toList.take i)),heS,h4]
     ·rw [h4,h5,h6]; rfl
    ·by_cases hji:j=i
     ·subst hji; rw [iP] at yr; simp at yr
     ·rw [jk hji] at yr
      have h7:=hh j oj hj yr Sr
      refine hg.free _ ?_ h7
      have:=(List.getElem?_eq_some_iff.1 h7).1
      rw [h.len] at this
      exact Nat.ne_of_lt this
   ·have h7:=hh i o Pc Ud Sx
    have dD:b0+dU (ops.toList.take i)<S.rs.length:=by
     have:=(List.getElem?_eq_some_iff.1 h7).1
     rw [h.len] at this
     exact this
    refine ⟨_,heS,.inl ⟨h.Bw h7,h7⟩,?_,fun E' hg j oj hj yr Sr=>?_,fun E' hg=>⟨hg.le,fun q hq e=>hg.free q (by omega) e⟩⟩
    ·rcases hcase with ⟨d,h4,_,h5,h6⟩|⟨d,ws,h4,_,h5,h6⟩|⟨d,rs,h4,_,h5,h6,_⟩
     ·rw [h4,h5,h6]; rfl
     ·rw [h4,h5,h6]
      rw [h4] at heS
      exact Ed (xu heS) dD
     ·rw [h4,h5,h6]; rfl
    ·by_cases hji:j=i
     ·subst hji; rw [iP] at yr; simp at yr
     ·rw [jk hji] at yr
      have h8:=hh j oj hj yr Sr
      refine hg.free _ ?_ h8
      have:=KI hj Pc Sr Sx hji
      omega
  obtain ⟨b,hb1,hb2,hb3,hb4,hb5⟩:=hbr
  have hval:(us i).val=eh e:=by
   rcases hcase with ⟨d,h4,h5,_⟩|⟨d,ws,h4,h5,_⟩|⟨d,rs,h4,h5,_⟩<;>rw [h4,h5]<;>rfl
  have om:=OC hdst hs.ok hval Sd hb3
  have hd:=Di hb1
  rcases rf bQ H6 h hnS hb2 hb1 (next:=K) (fun v w' E' ha=>by
   obtain ⟨h3,h4⟩:=IC hnS om ha (fun q=>by
    rcases hd with ⟨l,hl⟩|hd|hd
    ·exact (Sd l hl).elim
    ·exact (hd q).elim
    ·exact hd)
   exact hfin (hb5 _ ha.1) h3 (hb4 _ ha.1)) with ⟨l,hl⟩|h3
  ·exact (Sd l hl).elim
  ·exact h3.wpIn
end
def Qs:List Bool→Nat
 | []=>0
 | true::l=>Qs l
 | false::l=>Qs l+1
theorem Jy:∀ {l:List Bool} {i:Nat},l[i]?=some false→Qs (l.set i true)+1=Qs l
 | [],i,h=>by simp at h
 | b::l,0,h=>by
   simp at h; subst h; rfl
 | b::l,i+1,h=>by
   have ih:=Jy (l:=l) (i:=i) (by simpa using h)
   cases b with
   | true=>exact ih
   | false=>simp only [List.set_cons_succ,Qs]; omega
theorem wD:∀ {l:List Bool},Qs l=0→∀ (i:Nat),l[i]?≠some false
 | [],_,i=>by simp
 | true::l,h,i=>by
   cases i with
   | zero=>simp
   | succ i=>simpa using wD (l:=l) h i
 | false::l,h,i=>by simp [Qs] at h
theorem qd:∀ n,Qs (List.replicate n false)=n
 | 0=>rfl
 | n+1=>by rw [List.replicate_succ]; simp only [Qs]; rw [qd n]
section
variable {ops:Array Oper} {A:List Nat} {W:List (Nat×List Nat)} {us:Nat→kQ} {s0:VS} {b0:Nat}
theorem tQ {listed:Array Bool} {i:Nat} (h:i∈Region.ready .any ops listed):i<ops.size∧listed.getD i true=false∧∃ o,ops[i]?=some o∧∀ e∈o.after.toList,Region.binds .any e=true→listed.getD e.on false=true:=by
 unfold Region.ready at h
 rw [List.mem_filter,List.mem_range,dz] at h
 obtain ⟨h1,h2,h3⟩:=h
 refine ⟨h1,by simpa using h2,?_⟩
 rw [Array.getElem?_eq_getElem h1] at h3 ⊢
 refine ⟨_,rfl,fun e he hb=>?_⟩
 simp only [Option.map_some,Option.getD_some] at h3
 rw [← Array.all_toList,List.all_eq_true] at h3
 have:=h3 e he
 simpa [hb] using this
theorem Kr {listed:Array Bool} (hO:Open T lo hi N ops.toList A W us s0 b0) (fF:listed.size=ops.size) (h:Region.ready .any ops listed=[]):∀ k,k<ops.size→listed.getD k false=true:=by
 intro k
 induction k using Nat.strongRecOn with
 | _ k ih=>
   intro hk
   cases hL:listed.getD k false with
   | true=>rfl
   | false=>
     have kZ:k<listed.size:=by omega
     have hget:listed[k]=false:=by simpa [Array.getD,kZ] using hL
     have:k∈Region.ready .any ops listed:=by
      unfold Region.ready
      rw [List.mem_filter,List.mem_range,dz]
      refine ⟨hk,by simp [Array.getD,kZ,hget],?_⟩
      rw [Array.getElem?_eq_getElem hk]
      simp only [Option.map_some,Option.getD_some]
      rw [← Array.all_toList,List.all_eq_true]
      intro e he
      cases hb:Region.binds .any e with
      | false=>rfl
      | true=>
        have ho:ops.toList[k]?=some ops[k]:=by simp [hk]
        obtain ⟨m,hm,_⟩:=hO.sec k _ ho
        have hbit:m.testBit e.on=true:=(hO.anc.bits k _ m ho hm e.on).2 ⟨e,he,hb,.inl rfl⟩
        have dD:=hO.below k m hm e.on hbit
        simp only [Bool.not_true,Bool.false_or]
        exact ih e.on dD (by omega)
     rw [h] at this
     simp at this
theorem Open.run (hO:Open T lo hi N ops.toList A W us s0 b0) (bQ:dV P T) (H6:ib T P lo) (hn:bN s0.sl) {Q:Exit→Act→World→Prop}
  {E0:Env} (hQ:∀ a' w' E',nM b0 E0 E'→R T N ay w0 sp (eF us s0 (fun _=>true) ops.size) a' w' E'→Q .normal a' w') :
  ∀ (fuel:Nat) (listed:Array Bool) (a:Act) (w:World) (E:Env),nM b0 E0 E→listed.size=ops.size→qw A (fun k=>listed.getD k false)→R T N ay w0 sp (eF us s0 (fun k=>listed.getD k false) ops.size) a w E→
   Ew ops.toList b0 (fun k=>listed.getD k false) E→Qs listed.toList≤fuel→wpAnyIn (Fr ρ) 0 P .any ops Q fuel listed a w
 | fuel,listed,a,w,E,V9,fF,hC,h,hh,hu=>by
   have hend:Region.ready .any ops listed=[]→Q .normal a w:=fun hr=>by
    have hall:=Kr hO fF hr
    rw [nA (L':=fun _=>true) fun k hk=>hall k hk] at h
    exact hQ _ _ _ V9 h
   cases fuel with
   | zero=>
     refine ⟨?_,?_⟩
     ·cases hr:Region.ready .any ops listed with
      | nil=>rfl
      | cons i l=>
        obtain ⟨h1,h2,_⟩:=tQ (show i∈Region.ready .any ops listed by rw [hr]; simp)
        have jD:i<listed.size:=by omega
        refine (wD (l:=listed.toList) (by omega) i ?_).elim
        simp [Array.getD,jD] at h2
        simp [jD,h2]
     ·refine hend ?_
      cases hr:Region.ready .any ops listed with
      | nil=>rfl
      | cons i l=>
        obtain ⟨h1,h2,_⟩:=tQ (show i∈Region.ready .any ops listed by rw [hr]; simp)
        have jD:i<listed.size:=by omega
        refine (wD (l:=listed.toList) (by omega) i ?_).elim
        simp [Array.getD,jD] at h2
        simp [jD,h2]
   | succ fuel=>
     refine ⟨hend,fun i hi=>?_⟩
     obtain ⟨h1,h2,o,ho,hdep⟩:=tQ hi
     have jD:i<listed.size:=by omega
     have hget:listed[i]=false:=by simpa [Array.getD,jD] using h2
     have Pc:ops.toList[i]?=some o:=by simpa using ho
     obtain ⟨m,hm,_⟩:=hO.sec i o Pc
     have Ud:listed.getD i false=false:=by simp [Array.getD,jD,hget]
     have hr:∀ k,m.testBit k=true→listed.getD k false=true:=fun k hk=>by
      obtain ⟨e,he,hb,h3⟩:=(hO.anc.bits i o m Pc hm k).1 hk
      have h4:=hdep e he hb
      rcases h3 with rfl|⟨x,hx,hxk⟩
      ·exact h4
      ·rw [dy] at hx
       split at hx
       ·exact hC e.on x hx h4 k hxk
       ·simp at hx
     have hmore:∀ k,(listed.setIfInBounds i true).getD k false=more (fun k=>listed.getD k false) i k:=fun k=>by
      by_cases hk:k=i
      ·subst hk; rw [iP]; simp [Array.getD,jD]
      ·rw [jk hk]
       simp only [Array.getD,Array.size_setIfInBounds]
       split
       ·rename_i hks
        simp only [Array.getInternal_eq_getElem]
        rw [Array.getElem_setIfInBounds,if_neg (fun e=>hk e.symm)]
       ·rfl
     refine hO.op (L:=fun k=>listed.getD k false) bQ H6 hC ho hm Ud hr h hn hh fun a' w' E' aq3 hR hH=>?_
     refine Open.run hO bQ H6 hn hQ fuel (listed.setIfInBounds i true) a' w' E' (V9.trans aq3) (by simpa using fF) ?_ ?_ ?_ ?_
     ·intro j x hx hj k hk
      simp only [hmore] at hj ⊢
      by_cases hji:j=i
      ·subst hji
       rw [hm] at hx
       simp only [aq] at hx
       subst hx
       have:=hr k hk
       by_cases hki:k=j
       ·subst hki; exact iP _
       ·rw [jk hki]; exact this
      ·rw [jk hji] at hj
       by_cases hki:k=i
       ·subst hki; exact iP _
       ·rw [jk hki]; exact hC j x hx hj k hk
     ·rw [nA fun k _=>hmore k]; exact hR
     ·intro j oj hj yr
      simp only [hmore] at yr
      exact hH j oj hj yr
     ·have:=Jy (l:=listed.toList) (i:=i) (by simp [jD,hget])
      rw [Array.toList_setIfInBounds]
      omega
end
theorem uG (bQ:dV P T) (H6:ib T P lo) {ops:Array Oper} (om:sH ops.toList=true) {sF:VS} {Q:Exit→Act→World→Prop} (hQ:∀ a' w' E',Kept E E'→R T N ay w0 sp sF a' w' E'→bN sF.sl→Q .normal a' w') :
  ∀ (n:Nat) {s:VS},wV T lo hi N ops.toList n s=some sF→R T N ay w0 sp s a w E→bN s.sl→wpAnyIn (Fr ρ) 0 P .any ops Q ops.size (Array.replicate ops.size false) a w
 | 0,s,e,h,hn=>by
   have e:(none:Option VS)=some sF:=e
   simp at e
 | n+1,s,e,h,hn=>by
   have e:(match l4 T lo hi N (jw ops.toList []) ops.toList ops.toList 0 s.rs.length [] (gh ops.toList s) with
    | some (.cX l)=>match gW l s with
      | some s'=>wV T lo hi N ops.toList n s'
      | none=>none
    | some (.ok W s')=>yZ T lo hi N ops.toList (gh ops.toList s) s' s.rs.length W
    | none=>none)=some sF:=e
   split at e
   ·split at e
    case h_2=>simp at e
    rename_i s' hs'
    obtain ⟨h1,h2⟩:=h.gW hs'
    exact uG bQ H6 om hQ n e h1 (h2 hn)
   ·rename_i W s' hf
    have hlen:ops.toList.length=ops.size:=by simp
    have hanc:=Xf ops.toList
    have hsec:∃ W,(∀ x∈W,x.1<ops.toList.length)∧kA T lo hi N ops.toList (jw ops.toList []) W ops.toList (jw ops.toList []) 0 s.rs.length (gh ops.toList s)=some sF:=by
     unfold yZ at e
     split at e
     ·simp only [aq] at e
      subst e
      exact ⟨[],fun x hx=>by simp at hx,(qh hf).2 _ hanc.len⟩
     ·exact ⟨_,fun x hx=>by have:=ur hf (fun x hx=>by simp at hx) x hx; omega,e⟩
    obtain ⟨W,hkeys,hsec⟩:=hsec
    obtain ⟨us,h1,h2⟩:=sk hsec
    unfold sH at om
    simp only [dz] at om
    have hO:Open T lo hi N ops.toList (jw ops.toList []) W us (gh ops.toList s) s.rs.length:={
     anc:=hanc
     below:=fun i m hm j hj=>by have:=ua om.2.2 i m hm j hj; omega
     order:=fun i o m ho hm=>ui om.2.1 i o m ho hm
     St:=yk om.1
     keys:=hkeys
     sec:=fun k o hk=>by
      obtain ⟨m,h3,h4⟩:=h2 k o hk
      rw [Nat.zero_add] at h4
      exact ⟨m,h3,h4⟩ }
    have hR:=h.UK (dU ops.toList)
    have qy:bN (gh ops.toList s).sl:=hn
    rw [hlen] at h1
    have hget0:∀ k,(Array.replicate ops.size false).getD k false=false:=fun k=>by simp [Array.getD]
    have hS0:eF us (gh ops.toList s) (fun k=>(Array.replicate ops.size false).getD k false) ops.size=gh ops.toList s:=by
     rw [nA (L':=fun _=>false) fun k _=>hget0 k]
     have:∀ n,eF us (gh ops.toList s) (fun _=>false) n=gh ops.toList s:=by
      intro n
      induction n with
      | zero=>rfl
      | succ n ih=>simp only [eF]; exact ih
     exact this _
    refine Open.run hO bQ H6 qy (E0:=E) (fun a' w' E' V9 tT=>hQ a' w' E' ⟨V9.le,fun q e=>V9.free q (by rw [← h.len]; exact (List.getElem?_eq_some_iff.1 e).1) e⟩ (by rw [h1]; exact tT) (by rw [h1]; exact oX qy _)) ops.size _ a w (E++List.replicate (dU ops.toList) hole)
     ⟨Env.eK _ _,fun q _ e=>by rw [dH (List.getElem?_eq_some_iff.1 e).1]; exact e⟩ (by simp) ?_ ?_ ?_ ?_
    ·intro j m _ hj
     simp only [hget0] at hj
     simp at hj
    ·rw [hS0]; exact hR
    ·intro j o hj _ Sx
     rw [← h.len,gC (by omega),List.getElem?_replicate,if_pos]
     have h5:=jF hj
     have h6:=kY ops.toList (j:=j+1) (k:=ops.toList.length) (List.getElem?_eq_some_iff.1 hj).1
     rw [List.take_length] at h6
     omega
    ·rw [Array.toList_replicate,qd]; exact bk _
   ·simp at e
theorem Em (bQ:dV P T) (hl:ib T P lo) (C5:P.follows .mixedOrders=true) (h:R T N ay w0 sp s a w E) (hn:bN s.sl) {f:FuncId} {ro:Option Nat} {id:Nat} {ops:Array Oper} {s':VS} (e:regionF T lo hi N f ro id ops.toList true s=some s')
  {b:Frame} {k:List Item} {cs:List Frame}:∃ a' w' E',Kept E E'∧R T N ay w0 sp s' a' w' E'∧bN s'.sl∧Steps P (lone (b.atR a (.code (.region id ops true)::k)) cs w) (lone (b.atR a' k) cs w'):=by
 unfold regionF at e
 simp only at e
 split at e
 ·simp at e
 split at e
 case h_2=>simp at e
 rename_i om
 split at e
 case h_2=>simp at e
 rename_i s1 hs1
 simp only [aq] at e
 subst e
 have hg:R T N ay w0 sp s a { w with drawn:=w.drawn+1 } E:=h.grown ⟨rfl,rfl,rfl,bk _,fun _ _=>rfl⟩
 have hw:=uG (ρ:=b.roundOf) (Q:=fun en a' w'=>en=.normal∧∃ E',Kept E E'∧R T N ay w0 sp s1 a' w' E'∧bN s1.sl) bQ hl om (fun a' w' E' hk h1 h2=>⟨rfl,E',hk,h1,h2⟩) 8 hs1 hg hn
 obtain ⟨en,a',w',⟨rfl,E',hk,h1,h2⟩,harr⟩:=wpIn_region_any (id:=id) C5 hw b k cs rfl trivial (Jx _ _)
 obtain ⟨h3,h4⟩:=J2 (hi:=hi) h1 h2 f id
 exact ⟨a',w',E',hk,h3,h4,StepsIn.steps harr⟩
end
open Go.RowKit
section
variable {P:Program} {T:dY} {lo:Lo} {hi:Hint} {N:Nat} {ay:Nat→Prop} {w0:Kp} {sp:List (D×Value)} {s:VS} {a:Act} {w:World} {E:Env} {f:FuncId} {ro:Option Nat}
def jm (E:Env) (b:Frame):Option Nat→Prop
 | none=>b.roundOf=none
 | some r=>∃ l sz,b.roundOf=some l∧bq E r l sz
theorem jm.mono {E E':Env} {b:Frame} (hE:Env.le E E'):∀ {ro:Option Nat},jm E b ro→jm E' b ro
 | none,h=>h
 | some r,⟨l,sz,h1,h2⟩=>⟨l,sz,h1,hE.at_ h2⟩
def uB:Option Code→List Item→Prop
 | none,todo=>todo=[]
 | some c,todo=>(∃ k,c=.ret∧todo=.code .ret::k)∨(∃ id k,c=.exit id∧todo=.code (.exit id)::k∧exitTo id k=none)
theorem R.loop (h:R T N ay w0 sp s a w E) {r M:Nat} {g:FuncId} {sl:aN} {ps:List Tmp} {as bd:Code} {st:LoopState} {fW:Option Code} (hr:s.rs[r]?=some (.loop g M sl ps as bd st fW)) :
  ∃ b hd sz db tm,E[r]?=some (some b,hd,sz)∧w.heap[b]?=some (.loop { state:=st,pending:=fW,fn:=g,tmps:=tm,params:=ps.toArray,assign:=as,body:=bd,defers:=db })∧tm.size=M∧ik E (AV ay s.rs E) w M sl tm∧bN sl:=by
 have dD:r<E.length:=by rw [h.len]; exact (List.getElem?_eq_some_iff.1 hr).1
 have hE:=eY dD
 obtain ⟨b,db,tm,q1,q2,q3,q4,q5⟩:=h.roots r _ _ hr hE
 generalize E[r]=e at hE q1
 obtain ⟨e1,e2,e3⟩:=e
 have q1:e1=some b:=q1
 subst q1
 exact ⟨b,e2,e3,db,tm,hE,q2,q3,q4,q5⟩
theorem R.sS (h:R T N ay w0 sp s a w E) {r M b sz:Nat} {hd:Hd} {g:FuncId} {sl:aN} {ps:List Tmp} {as bd:Code} {st:LoopState} {fW:Option Code} (hr:s.rs[r]?=some (.loop g M sl ps as bd st fW)) {db:Nat} {tm:Array Value}
  (hE:E[r]?=some (some b,hd,sz)) (hw:w.heap[b]?=some (.loop { state:=st,pending:=fW,fn:=g,tmps:=tm,params:=ps.toArray,assign:=as,body:=bd,defers:=db })) (hM:tm.size=M) (Fx:ik E (AV ay s.rs E) w M sl tm) (hn:bN sl) (Yj:LoopState) (Uk:Option Code) :
  R T N ay w0 sp { s with rs:=setAt s.rs r (.loop g M sl ps as bd Yj Uk) } a (w.putObj b (.loop { state:=Yj,pending:=Uk,fn:=g,tmps:=tm,params:=ps.toArray,assign:=as,body:=bd,defers:=db })) E:=by
 have dD:b<w.heap.size:=(Array.getElem?_eq_some_iff.1 hw).1
 rw [aQ]
 refine h.turn hr trivial hE (by simp) (fun k hk=>World.putObj_heap_other hk) ⟨rfl,rfl,rfl⟩ ⟨b,db,tm,rfl,World.putObj_heap_same dD,hM,?_,hn⟩
 refine Fx.mono (Env.le_refl E) ⟨by simp,fun k hk eP=>World.putObj_heap_other fun e=>?_⟩ (fun _ _ q=>q)
 subst e
 exact eP (.inr ⟨r,_,sz,hr,trivial,bq.own ⟨hd,hE⟩⟩)
theorem R.kill (h:R T N ay w0 sp s a w E) {r b sz:Nat} {hd:Hd} {x:ah} (hr:s.rs[r]?=some x) (hx:x.live) (hE:E[r]?=some (some b,hd,sz)) (o:Obj):R T N ay w0 sp { s with rs:=setAt s.rs r .dead } a (w.putObj b o) E:=by
 rw [aQ]
 exact h.turn hr hx hE (by simp) (fun k hk=>World.putObj_heap_other hk) ⟨rfl,rfl,rfl⟩ trivial
theorem Ev (h:R T N ay w0 sp s a w E) {b:Frame} (hb:jm E b ro) {s':VS} (e:tJ ro s=some s') {k:List Item} {cs:List Frame} :
  ∃ w',R T N ay w0 sp s' a w' E∧s'.sl=s.sl∧Steps P (lone (b.atR a (.beginRound::k)) cs w) (lone (b.atR a k) cs w'):=by
 unfold tJ at e
 split at e
 case h_2=>simp at e
 rename_i r
 split at e
 case h_2=>simp at e
 rename_i g M sl ps as bd hr
 simp only [aq] at e
 subst e
 rw [bT] at hr
 obtain ⟨l,hd,sz,db,tm,h1,h2,h3,h4,h5⟩:=h.loop hr
 obtain ⟨l',cQ,h6,qk,h7⟩:=hb
 rw [h1] at h7
 simp only [aq,bs] at h7
 obtain ⟨rfl,rfl,rfl⟩:=h7
 exact ⟨_,h.sS hr h1 h2 h3 h4 h5 .busy none,rfl,.one (stepR_beginRound h6 (run_beginRound h2 rfl))⟩
theorem ES (h:R T N ay w0 sp s a w E) (hn:bN s.sl) (g:FuncId) (ps:List Tmp) (as bd:Code) :
  R T N ay w0 sp { s with rs:=s.rs++[.nZ,.loop g N s.sl ps as bd .ready none],df:=s.rs.length::s.df } { a with defers:=[{ target:=.collected w.heap.size,args := #[] }]++a.defers }
   ((w.alloc (.deferred (some []))).alloc (.loop { state:=.ready,pending:=none,fn:=g,tmps:=a.tmps,params:=ps.toArray,assign:=as,body:=bd,defers:=w.heap.size }))
   ((E++[(some w.heap.size,lW,1)])++[(some (w.heap.size+1),lW,1)])∧bq ((E++[(some w.heap.size,lW,1)])++[(some (w.heap.size+1),lW,1)]) (s.rs.length+1) (w.heap.size+1) 1:=by
 let w1:=w.alloc (.deferred (some []))
 have hs1:w1.heap.size=w.heap.size+1:=World.size_alloc ..
 have hold1:∀ b,b<w.heap.size→w1.heap[b]?=w.heap[b]?:=fun b hb=>(iQ w _).block b hb
 have h1:=h.new (x:=.nZ) (e:=(some w.heap.size,lW,1)) (w':=w1) hs1 hold1 (iQ w _) rfl ⟨w.heap.size,rfl,World.alloc_heap_new w _⟩
 let o:=Obj.loop { state:=.ready,pending:=none,fn:=g,tmps:=a.tmps,params:=ps.toArray,assign:=as,body:=bd,defers:=w.heap.size }
 let w2:=w1.alloc o
 have hs2:w2.heap.size=w1.heap.size+1:=World.size_alloc ..
 have hold2:∀ b,b<w1.heap.size→w2.heap[b]?=w1.heap[b]?:=fun b hb=>(iQ w1 _).block b hb
 have hlen1:(E++[(some w.heap.size,lW,1)]).length=(s.rs++[ah.nZ]).length:=h1.len
 have h2:=h1.new (x:=.loop g N s.sl ps as bd .ready none) (e:=(some w1.heap.size,lW,1)) (w':=w2) hs2 hold2 (iQ w1 _) rfl ⟨w1.heap.size,w.heap.size,a.tmps,rfl,World.alloc_heap_new w1 _,h.size,by
  have Fx:ik (E++[(some w.heap.size,lW,1)]) (AV ay (s.rs++[ah.nZ]) (E++[(some w.heap.size,lW,1)])) w1 N s.sl a.tmps:=h1.slots
  refine Fx.mono (Env.eK _ _) ⟨by omega,fun b hb _=>hold2 b hb⟩ ?_
  exact h1.WT,hn⟩
 have e1:s.rs++[ah.nZ,.loop g N s.sl ps as bd .ready none]=(s.rs++[ah.nZ])++[.loop g N s.sl ps as bd .ready none]:=by simp
 have hw1:w1.heap.size=w.heap.size+1:=hs1
 have jr:∀ F:Env,bq ((E++[(some w.heap.size,lW,1)])++F) s.rs.length w.heap.size 1:=fun F=>by
  refine ⟨lW,?_⟩
  rw [List.append_assoc,gC (by rw [h.len]; exact bk _)]
  simp [h.len]
 rw [hw1] at h2
 refine ⟨?_,⟨lW,?_⟩⟩
 ·rw [e1]
  exact ⟨h2.size,.cons ⟨w.heap.size,1,jr _,rfl⟩ h2.defers,h2.spec,h2.below,h2.len,h2.outer,h2.roots,h2.dh,h2.dQ,h2.slots,h2.gM⟩
 ·rw [gC (by rw [hlen1]; simp)]
  simp [h.len]
theorem yR {g:Operand} {l:Nat} {ρ:Operand→Value} {Vg:FuncId} {cs:Array Value} (hg:ρ g=.func (.func Vg) #[] cs) (hv:ρ (.const (.func (.yield l) #[] #[]))=.func (.yield l) #[] #[]) (he:Enters P Vg) (w:World) :
  ∃ d,(resolve ρ (rangeCall g l) 0).run P w=.ok d w∧(invoke d.target d.args).run P w=.ok (.enter Vg (#[.func (.yield l) #[] #[]]++cs)) w:=by
 refine ⟨_,by simp [resolve,hg,Deferred.ofValue,Sem.run_pure]; rfl,?_⟩
 simp only [invoke]
 have:=zh he (#[.func (.yield l) #[] #[]]++cs) w
 simpa [hv] using this
end
open Go.RowKit
section
variable {P:Program} {T:dY} {lo:Lo} {hi:Hint} {N:Nat} {ay:Nat→Prop} {w0:Kp} {sp:List (D×Value)} {s:VS} {a:Act} {w:World} {E:Env} {f:FuncId} {ro:Option Nat}
theorem Fq (hl:ib T P lo) (h:R T N ay w0 sp s a w E) (hn:bN s.sl) {b:Frame} (Gv:b.fn=f) (Iv:jm E b ro) {g:Operand} {ps:Array Tmp} {as bd:Code} {j:Option Code} {s':VS} (e:oP lo N f ro g ps.toList as bd s=some (j,s')) {k:List Item} {cs:List Frame} :
  ∃ a' w' E',Kept E E'∧R T N ay w0 sp s' a' w' E'∧s'.sl=s.sl∧Steps P (lone (b.atR a (.code (.rangeFunc g ps as bd)::k)) cs w) (lone (b.atR a' (zj j k)) cs w'):=by
 unfold oP at e
 split at e
 ·simp at e
 split at e
 case h_2=>simp at e
 rename_i c hc
 split at e
 case h_2=>simp at e
 rename_i hf eJ yf
 split at e
 case h_2=>simp at e
 rename_i d0 aG uD
 have hbr:b.roundOf=none:=Iv
 obtain ⟨h2,jr⟩:=ES h hn f ps.toList as bd
 generalize hE2:((E++[(some w.heap.size,lW,1)])++[(some (w.heap.size+1),lW,1)]:Env)=E2 at h2 jr
 generalize hw2:((w.alloc (.deferred (some []))).alloc (.loop { state:=.ready,pending:=none,fn:=f,tmps:=a.tmps,params:=ps.toList.toArray,assign:=as,body:=bd,defers:=w.heap.size }))=w2 at h2
 have hkE:Kept E E2:=by
  subst hE2
  refine ⟨(Env.eK _ _).trans (Env.eK _ _),fun q hq=>?_⟩
  have dD:=(List.getElem?_eq_some_iff.1 hq).1
  rw [dH (by simp; omega),dH dD]
  exact hq
 have hev:=h2.cA hn (cz hc)
 obtain ⟨cv,hfv,hcv⟩:=ub h2 yf hev
 obtain ⟨hen,hcon⟩:=hl.call _ _ _ _ _ uD
 have hfv':a.eval g=.func (.func hf) #[] cv:=hfv
 obtain ⟨dd,yG,hinv⟩:=yR (l:=w.heap.size+1) (ρ:=a.eval) hfv' rfl hen w2
 have henter:(Instr.enterLoop b.fn a.tmps ps as bd b.roundOf).run P w=.ok (w.heap.size+1,[{ target:=.collected w.heap.size,args := #[] }]) w2:=by
  rw [hbr,Gv,← hw2]
  exact run_enterLoop_outer _ _ _ _ _
 have hstep:=stepR_rangeFunc (k:=k) (cs:=cs) henter yG hinv
 have qa:aB (a7 E2 (AV ay (s.rs++[ah.nZ,.loop f N s.sl ps.toList as bd .ready Option.none]) E2) w2) (.c (.yl (s.rs.length+1))::eJ) (.func (.yield (w.heap.size+1)) #[] #[]::cv.toList):=
  .cons ⟨_,_,jr,rfl⟩ hcv
 have sT:((Value.func (.yield (w.heap.size+1)) #[] #[]::cv.toList:List Value)).toArray = #[.func (.yield (w.heap.size+1)) #[] #[]]++cv:=by
  apply Array.ext'; simp
 obtain ⟨en,w3,fr,⟨v,E3,rfl,hk3,hR3,_⟩,hcomes,hfr,hleave⟩:=hcon N ay w0 sp s.sl (s.rs.length::s.df) _ w2 E2 _ h2 qa (b.atR { a with defers:=[{ target:=.collected w.heap.size,args := #[] }]++a.defers } (.inRangeFunc (w.heap.size+1)::k)::cs)
 rw [sT] at hcomes
 have hsteps:Steps P (lone (b.atR a (.code (.rangeFunc g ps as bd)::k)) cs w) (lone (b.atR { a with defers:=[{ target:=.collected w.heap.size,args := #[] }]++a.defers } (.endRangeFunc (w.heap.size+1)::k)) cs w3):=by
  refine (Steps.one hstep).trans (Steps.trans hcomes (.one ?_))
  rw [← finish_atR_inRangeFunc (w.heap.size+1) v]
  exact step_leave_returned hleave
 have fin:∀ (st:LoopState) (fW:Option Code) (g':FuncId) (M:Nat) (gy:aN) (TJ:List Tmp) (Te Re:Code),st ≠ .busy→aV aG (s.rs.length+1)=some (.loop g' M gy TJ Te Re st fW)→
   ∃ a' w' E',Kept E E'∧R T N ay w0 sp { s with rs:=setAt aG (s.rs.length+1) .dead,df:=s.rs.length::s.df } a' w' E'∧Steps P (lone (b.atR a (.code (.rangeFunc g ps as bd)::k)) cs w) (lone (b.atR a' (zj fW k)) cs w'):=by
  intro st fW g' M gy TJ Te Re om hr
  rw [bT] at hr
  obtain ⟨l,hd,sz,db,tm,h1,h3,h4,h5,h6⟩:=hR3.loop hr
  obtain ⟨qk,h7⟩:=hk3.le.at_ jr
  rw [h1] at h7
  simp only [aq,bs] at h7
  obtain ⟨rfl,rfl,rfl⟩:=h7
  refine ⟨_,_,E3,hkE.trans hk3,hR3.kill hr trivial h1 (.loop { state:=.exhausted,pending:=fW,fn:=g',tmps:=tm,params:=TJ.toArray,assign:=Te,body:=Re,defers:=db }),hsteps.trans (.one ?_)⟩
  have:=stepR_endRangeFunc (P:=P) (b:=b) (a:={ a with defers:=[{ target:=.collected w.heap.size,args := #[] }]++a.defers }) (k:=k) (cs:=cs) (run_endLoop h3 om)
  rw [this]
  cases fW<;>rfl
 split at e
 ·rename_i hr
  simp only [aq,bs] at e
  obtain ⟨rfl,rfl⟩:=e
  obtain ⟨a',w',E',q1,q2,q3⟩:=fin _ _ _ _ _ _ _ _ (by simp) hr
  exact ⟨a',w',E',q1,q2,rfl,q3⟩
 ·rename_i c' hr
  simp only [aq,bs] at e
  obtain ⟨rfl,rfl⟩:=e
  obtain ⟨a',w',E',q1,q2,q3⟩:=fin _ _ _ _ _ _ _ _ (by simp) hr
  exact ⟨a',w',E',q1,q2,rfl,q3⟩
 ·simp at e
theorem qM (bQ:dV P T) (hl:ib T P lo) (C5:P.follows .mixedOrders=true) {b:Frame} (Gv:b.fn=f) {cs:List Frame} {j:Option Code} {s':VS} :
  ∀ (n:Nat) {todo:List Item} {s:VS} {a:Act} {w:World} {E:Env},yF T lo hi N f ro n todo s=some (j,s')→R T N ay w0 sp s a w E→bN s.sl→jm E b ro→
   ∃ a' w' E' dB,Kept E E'∧R T N ay w0 sp s' a' w' E'∧bN s'.sl∧uB j dB∧Steps P (lone (b.atR a todo) cs w) (lone (b.atR a' dB) cs w')
 | 0,todo,s,a,w,E,e,h,hn,Iv=>by
   have e:(none:Option (Option Code×VS))=some (j,s'):=e
   simp at e
 | n+1,todo,s,a,w,E,e,h,hn,Iv=>by
   have go:∀ {gf:List Item} {s1:VS} {a1:Act} {w1:World} {E1:Env},yF T lo hi N f ro n gf s1=some (j,s')→Kept E E1→R T N ay w0 sp s1 a1 w1 E1→bN s1.sl→Steps P (lone (b.atR a todo) cs w) (lone (b.atR a1 gf) cs w1)→
     ∃ a' w' E' dB,Kept E E'∧R T N ay w0 sp s' a' w' E'∧bN s'.sl∧uB j dB∧Steps P (lone (b.atR a todo) cs w) (lone (b.atR a' dB) cs w'):=by
    intro gf s1 a1 w1 E1 e1 hk h1 Uh om
    obtain ⟨a',w',E',dB,q1,q2,q3,q4,q5⟩:=qM bQ hl C5 Gv n e1 h1 Uh (Iv.mono hk.le)
    exact ⟨a',w',E',dB,hk.trans q1,q2,q3,q4,om.trans q5⟩
   have stop:∀ {gf:List Item} {c:Option Code},some (c,s)=some (j,s')→uB c todo→∃ a' w' E' dB,Kept E E'∧R T N ay w0 sp s' a' w' E'∧bN s'.sl∧uB j dB∧Steps P (lone (b.atR a todo) cs w) (lone (b.atR a' dB) cs w'):=by
    intro gf c e1 he
    simp only [aq,bs] at e1
    obtain ⟨rfl,rfl⟩:=e1
    exact ⟨a,w,E,todo,Kept.refl E,h,hn,he,Steps.refl _ _⟩
   cases todo with
   | nil=>exact stop (gf:=[]) e rfl
   | cons x k=>
     cases x with
     | inBlock id=>exact go (gf:=k) (s1:=s) e (Kept.refl E) h hn (.one stepR_inBlock)
     | inLoop c=>exact go (gf:=.code c::.inLoop c::k) (s1:=s) e (Kept.refl E) h hn (.one stepR_inLoop)
     | beginRound=>
       have e:(match tJ ro s with
        | some s'=>yF T lo hi N f ro n k s'
        | none=>none)=some (j,s'):=e
       split at e
       case h_2=>simp at e
       rename_i s1 hs1
       obtain ⟨w',h1,h2,h3⟩:=Ev h Iv hs1
       exact go e (Kept.refl E) h1 (by rw [h2]; exact hn) h3
     | code c=>
       cases c with
       | skip=>exact go (gf:=k) (s1:=s) e (Kept.refl E) h hn (.one stepR_skip)
       | label l=>exact go (gf:=k) (s1:=s) e (Kept.refl E) h hn (.one stepR_label)
       | ret=>exact stop (gf:=[]) (c:=some .ret) e (.inl ⟨k,rfl,rfl⟩)
       | seq x y=>exact go (gf:=.code x::.code y::k) (s1:=s) e (Kept.refl E) h hn (.one stepR_seq)
       | cond c x y=>
         have e:(match ju (cA s.sl c) with
          | some p=>yF T lo hi N f ro n (.code (Bool.rec y x p)::k) s
          | none=>none)=some (j,s'):=e
         split at e
         case h_2=>simp at e
         rename_i p hp
         have hv:a.eval c=.bool p:=(h.cA hn (fi hp)).1
         refine go e (Kept.refl E) h hn ?_
         have:=Steps.one (stepR_cond (P:=P) (b:=b) (k:=k) (cs:=cs) (w:=w) (x:=x) (y:=y) hv)
         cases p<;>exact this
       | block id c=>exact go (gf:=.code c::.inBlock id::k) (s1:=s) e (Kept.refl E) h hn (.one stepR_block)
       | loop c=>exact go (gf:=.code c::.inLoop c::k) (s1:=s) e (Kept.refl E) h hn (.one stepR_loop)
       | exit id=>
         have e:(match exitTo id k with
          | some k'=>yF T lo hi N f ro n k' s
          | none=>some (some (.exit id),s))=some (j,s'):=e
         split at e
         ·rename_i k' kZ
          exact go e (Kept.refl E) h hn (.one (stepR_exit kZ))
         ·rename_i kZ
          exact stop (gf:=[]) e (.inr ⟨id,k,rfl,rfl,kZ⟩)
       | region id ops draw=>
         have e0:(match regionF T lo hi N f ro id ops.toList draw s with
          | some s'=>yF T lo hi N f ro n k s'
          | none=>none)=some (j,s'):=e
         clear e
         cases hs1:regionF T lo hi N f ro id ops.toList draw s with
         | none=>rw [hs1] at e0; simp at e0
         | some s1=>
         rw [hs1] at e0
         have e:yF T lo hi N f ro n k s1=some (j,s'):=e0
         clear e0
         cases draw with
         | false=>
           obtain ⟨a',w',E',q1,q2,q3,q4⟩:=xW (b:=b) (k:=k) (cs:=cs) bQ hl h hn hs1
           exact go e q1 q2 q3 q4
         | true=>
           obtain ⟨a',w',E',q1,q2,q3,q4⟩:=Em (b:=b) (k:=k) (cs:=cs) bQ hl C5 h hn hs1
           exact go e q1 q2 q3 q4
       | rangeFunc g ps as bd=>
         have e:(match oP lo N f ro g ps.toList as bd s with
          | some (j,s')=>yF T lo hi N f ro n (zj j k) s'
          | none=>none)=some (j,s'):=e
         split at e
         case h_2=>simp at e
         rename_i j1 s1 hs1
         obtain ⟨a',w',E',q1,q2,q3,q4⟩:=Fq (k:=k) (cs:=cs) hl h hn Gv Iv hs1
         exact go e q1 q2 (by rw [q3]; exact hn) q4
       | _=>
         have e:(none:Option (Option Code×VS))=some (j,s'):=e
         simp at e
     | _=>
       have e:(none:Option (Option Code×VS))=some (j,s'):=e
       simp at e
end
open Go.RowKit
section
variable {P:Program} {T:dY} {lo:Lo} {hi:Hint} {N:Nat} {ay:Nat→Prop} {w0:Kp} {sp:List (D×Value)} {s:VS} {a:Act} {w:World} {E:Env} {f:FuncId} {ro:Option Nat}
def NA (E:Env) (av:Nat→Prop) (w:World) (x:Bool×List C) (y:Value):Prop:=match x with
 | (true,l)=>∃ cs:Array Value,y=.agg cs∧aB (bh E av w) l cs.toList
 | (false,l)=>∃ c,l=[c]∧bh E av w c y
def qT (tmps:Array Value):ResultVar→Sem Value
 | .tmp t=>pure (tmps.getD t undef)
 | .cell a t=>do loadVar t (← asAddr (tmps.getD a undef))
theorem Ay (bQ:dV P T) (h:R T N ay w0 sp s a w E) {x:ResultVar} {p:Option Prop} {q:Bool×List C} (e:qA T s x=some (p,q)) (hp:need p) :
  ∃ v,(qT a.tmps x).run P w=.ok v w∧NA E (AV ay s.rs E) w q v:=by
 have nil:bK a []:=fun p hp=>by cases hp
 cases x with
 | tmp t=>
   simp only [qA] at e
   split at e
   ·rename_i x hx
    have hx:=h.ev nil hx
    simp only [aq,bs] at e
    obtain ⟨rfl,rfl⟩:=e
    exact ⟨_,rfl,x,rfl,hx⟩
   ·rename_i l hx
    obtain ⟨cs,hv,hl⟩:=h.ev nil hx
    simp only [aq,bs] at e
    obtain ⟨rfl,rfl⟩:=e
    exact ⟨_,rfl,cs,hv,hl⟩
   ·simp at e
 | cell ad t=>
   simp only [qA] at e
   have run:∀ v,(Instr.loadAt t (a.eval (.tmp ad))).run P w=.ok v w→(qT a.tmps (.cell ad t)).run P w=.ok v w:=by
    intro v hv
    have he:a.eval (.tmp ad)=a.tmps.getD ad undef:=rfl
    rw [he] at hv
    unfold qT
    cases hu:a.tmps.getD ad undef<;>rw [hu] at hv<;>simp [Instr.loadAt,Instr.sureAddr,stuck] at hv
    rename_i oa
    cases oa with
    | none=>simp at hv
    | some x=>
      simp only [hu,asAddr,Sem.run_bind]
      exact hv
   split at e
   ·rename_i p' x hx
    simp only [aq,bs] at e
    obtain ⟨rfl,rfl⟩:=e
    obtain ⟨v,h1,h2⟩:=ra bQ h nil hx hp
    exact ⟨v,run v (h1 w (Below.refl _ _)),x,rfl,h2⟩
   ·rename_i p' l hx
    simp only [aq,bs] at e
    obtain ⟨rfl,rfl⟩:=e
    obtain ⟨v,h1,cs,h2,h3⟩:=ra bQ h nil hx hp
    exact ⟨v,run v (h1 w (Below.refl _ _)),cs,h2,h3⟩
   ·simp at e
theorem kB (bQ:dV P T) (h:R T N ay w0 sp s a w E):∀ {rs:List ResultVar} {p:Option Prop} {l:List (Bool×List C)},qt T s rs=some (p,l)→need p→
  ∃ vs,(rs.mapM (qT a.tmps)).run P w=.ok vs w∧aB (NA E (AV ay s.rs E) w) l vs
 | [],p,l,e,hp=>by
   simp only [qt,aq,bs] at e
   obtain ⟨rfl,rfl⟩:=e
   exact ⟨[],rfl,.nil⟩
 | x::rs,p,l,e,hp=>by
   simp only [qt] at e
   split at e
   ·rename_i p1 q p2 l' h1 h2
    simp only [aq,bs] at e
    obtain ⟨rfl,rfl⟩:=e
    have hp':need p1∧need p2:=by
     cases p1<;>cases p2<;>simp_all [J4,need]
    obtain ⟨v,h3,h4⟩:=Ay bQ h h1 hp'.1
    obtain ⟨vs,h5,h6⟩:=kB bQ h h2 hp'.2
    refine ⟨v::vs,?_,.cons h4 h6⟩
    rw [List.mapM_cons]
    simp only [Sem.run_bind,h3,Result.andThen_ok,h5,Sem.run_pure]
   ·simp at e
theorem me (bQ:dV P T) (h:R T N ay w0 sp s a w E) {fn:Func} {p:Option Prop} {d:D} (e:Tx T s fn.results.toList=some (p,d)) (hp:need p) :
  ∃ v,(results fn a.tmps).run P w=.ok v w∧a7 E (AV ay s.rs E) w d v:=by
 have run:∀ vs,(fn.results.toList.mapM (qT a.tmps)).run P w=.ok vs w→(results fn a.tmps).run P w=.ok (if h:vs.toArray.size=1 then vs.toArray[0] else .tuple vs.toArray) w:=by
  intro vs sT
  have hm:(fn.results.mapM (qT a.tmps)).run P w=.ok vs.toArray w:=by
   have hgs:fn.results=fn.results.toList.toArray:=rfl
   rw [hgs,List.mapM_toArray]
   simp only [Sem.run_map,sT,Result.andThen_ok]
  show ((do let vs ← fn.results.mapM (qT a.tmps); pure (if h:vs.size=1 then vs[0] else .tuple vs)):Sem Value).run P w=_
  rw [Sem.run_bind,hm]
  rfl
 unfold Tx at e
 split at e
 ·rename_i p' x hx
  simp only [aq,bs] at e
  obtain ⟨rfl,rfl⟩:=e
  obtain ⟨vs,h1,h2⟩:=kB bQ h hx hp
  cases h2 with
  | cons q1 q2=>
    cases q2
    obtain ⟨c,hc,q⟩:=q1
    simp only [List.cons.injEq,and_true] at hc
    subst hc
    exact ⟨_,run _ h1,q⟩
 ·rename_i p' l hx
  simp only [aq,bs] at e
  obtain ⟨rfl,rfl⟩:=e
  obtain ⟨vs,h1,h2⟩:=kB bQ h hx hp
  cases h2 with
  | cons q1 q2=>cases q2; exact ⟨_,run _ h1,q1⟩
 ·rename_i p' l hne1 hne2 hx
  simp only [aq,bs] at e
  obtain ⟨rfl,rfl⟩:=e
  obtain ⟨vs,h1,h2⟩:=kB bQ h hx hp
  refine ⟨_,run vs h1,?_⟩
  have hlen:vs.length≠1:=by
   intro hl
   have:=h2.length
   rw [hl] at this
   match l,this with
   | [(true,l)],_=>exact hne2 _ rfl
   | [(false,k)],_=>
     cases h2 with
     | cons q1 q2=>
       obtain ⟨c,hc,_⟩:=q1
       exact hne1 _ (by rw [hc])
  rw [dif_neg (by simpa using hlen)]
  exact ⟨_,rfl,h2⟩
 ·simp at e
theorem lZ:∀ {ds:List D} {k t:Nat} {d:D} {c:ft},look (dN k ds) t=some (d,c)→c=[]∧k≤t∧ds[t-k]?=some d
 | [],k,t,d,c,h=>by simp [dN,look] at h
 | x::ds,k,t,d,c,h=>by
   simp only [dN,look] at h
   split at h
   ·rename_i he
    have he:=bL he
    simp only [aq,bs] at h
    obtain ⟨rfl,rfl⟩:=h
    subst he
    exact ⟨rfl,bk _,by simp⟩
   ·obtain ⟨h1,h2,h3⟩:=lZ h
    refine ⟨h1,by omega,?_⟩
    rw [show t-k=(t-(k+1))+1 by omega]
    simpa using h3
theorem kC:∀ {ds:List D} {k:Nat},bN (dN k ds)
 | [],k,x,hx=>by simp [dN] at hx
 | d::ds,k,x,hx=>by
   simp only [dN] at hx
   rcases List.mem_cons.1 hx with rfl|hx
   ·rfl
   ·exact kC x hx
theorem D3 (hn:bN s.sl) {x:ResultVar} {q:Bool×List C} (e:vq T s x=some q):∃ p,qA T s x=some (p,q)∧need p:=by
 unfold vq at e
 cases x with
 | tmp t=>
   simp only at e
   simp only [qA]
   split at e
   ·rename_i c hc
    have:s.ev [] (.tmp t)=some (.c c):=dR (x:=.tmp t) hn hc
    rw [this]
    simp only [aq] at e
    subst e; exact ⟨_,rfl,trivial⟩
   ·rename_i l hc
    have:s.ev [] (.tmp t)=some (.a l):=dR (x:=.tmp t) hn hc
    rw [this]
    simp only [aq] at e
    subst e; exact ⟨_,rfl,trivial⟩
   ·simp at e
 | cell ad t=>
   simp only at e
   simp only [qA]
   split at e
   ·rename_i c hc
    obtain ⟨p,h1,h2⟩:=rh hn hc
    rw [h1]
    simp only [aq] at e
    subst e; exact ⟨p,rfl,h2⟩
   ·rename_i l hc
    obtain ⟨p,h1,h2⟩:=rh hn hc
    rw [h1]
    simp only [aq] at e
    subst e; exact ⟨p,rfl,h2⟩
   ·simp at e
theorem lL (hn:bN s.sl):∀ {l:List ResultVar} {q:List (Bool×List C)},AH T s l=some q→∃ p,qt T s l=some (p,q)∧need p
 | [],q,e=>by
   have e:some []=some q:=e
   simp only [aq] at e
   subst e; exact ⟨_,rfl,trivial⟩
 | x::l,q,e=>by
   have e:(match vq T s x,AH T s l with
    | some q,some l=>some (q::l)
    | _,_=>none)=some q:=e
   split at e
   case h_2=>simp at e
   rename_i h1 h2
   simp only [aq] at e
   subst e
   obtain ⟨p1,k1,k2⟩:=D3 hn h1
   obtain ⟨p2,k3,k4⟩:=lL hn h2
   refine ⟨J4 p1 p2,by simp only [qt,k1,k3],?_⟩
   cases p1<;>cases p2<;>simp_all [J4,need]
theorem Ho (hn:bN s.sl) {l:List ResultVar} {d:D} (e:Vp T s l=some d):∃ p,Tx T s l=some (p,d)∧need p:=by
 unfold Vp at e
 unfold Tx
 split at e
 ·rename_i h1
  obtain ⟨p,k1,k2⟩:=lL hn h1
  rw [k1]
  simp only [aq] at e
  subst e; exact ⟨p,rfl,k2⟩
 ·rename_i h1
  obtain ⟨p,k1,k2⟩:=lL hn h1
  rw [k1]
  simp only [aq] at e
  subst e; exact ⟨p,rfl,k2⟩
 ·rename_i l' h1 h2 h3
  obtain ⟨p,k1,k2⟩:=lL hn h3
  rw [k1]
  simp only [aq] at e
  subst e
  refine ⟨p,?_,k2⟩
  split
  ·rename_i h4; simp only [aq,bs] at h4; exact (h1 _ h4.2).elim
  ·rename_i h4; simp only [aq,bs] at h4; exact (h2 _ h4.2).elim
  ·rename_i h4; simp only [aq,bs] at h4; obtain ⟨rfl,rfl⟩:=h4; rfl
  ·rename_i h4; simp at h4
 ·simp at e
open Classical in
def nX (sl:aN) (a:Act):List (D×Value):=sl.filterMap fun x=>if look sl x.1=some x.2∧bK a x.2.2 then some (x.2.1,a.tmps.getD x.1 undef) else none
theorem Eh:∀ {sl:aN} {t:Tmp} {x:D×ft},look sl t=some x→(t,x)∈sl
 | [],t,x,h=>by simp [look] at h
 | (k,d,c)::sl,t,x,h=>by
   simp only [look] at h
   split at h
   ·rename_i hb
    simp only [aq] at h
    rw [← bL hb,← h]
    exact eS ..
   ·exact fe _ (Eh h)
theorem OI {sl:aN} {t:Tmp} {d:D} {c:ft} (hl:look sl t=some (d,c)) (hc:bK a c):(d,a.tmps.getD t undef)∈nX sl a:=by
 unfold nX
 rw [List.mem_filterMap]
 refine ⟨(t,d,c),Eh hl,?_⟩
 rw [if_pos ⟨hl,hc⟩]
theorem NJ (h:R T N ay w0 sp s a w E):∀ x∈nX s.sl a,a7 E (AV ay s.rs E) w x.1 x.2:=by
 intro x hx
 unfold nX at hx
 rw [List.mem_filterMap] at hx
 obtain ⟨⟨t,d,c⟩,h1,h2⟩:=hx
 split at h2
 ·rename_i h3
  simp only [aq] at h2
  subst h2
  exact (h.slots t d c h3.1).2.1 h3.2
 ·simp at h2
theorem R.Ax {sl:aN} {rs:List ah} {df:List Nat} (h:R T N ay w0 sp ⟨sl,rs,df⟩ a w E) {M:Nat} {Jt:aN} {tm:Array Value} (hM:tm.size=M)
  (hs:ik E (AV ay rs E) w M Jt tm):R T M ay w0 (nX sl a++sp) ⟨Jt,rs,[]⟩ { tmps:=tm,defers:=[] } w E:=
 ⟨hM,.nil,fun x hx=>(List.mem_append.1 hx).elim (fun q=>NJ h x q) (h.spec x),h.below,h.len,h.outer,h.roots,h.dh,h.dQ,hs,h.gM⟩
theorem R.back {sl:aN} {rs:List ah} {df:List Nat} (h:R T N ay w0 sp ⟨sl,rs,df⟩ a w E) {M:Nat} {s':VS} {a':Act} {w':World} {E':Env} (h':R T M ay w0 (nX sl a++sp) s' a' w' E') (hE:Env.le E E') :
  R T N ay w0 sp ⟨sl,s'.rs,df⟩ a w' E' :=
 ⟨h.size,h.defers.mono fun _ _ ⟨b,sz,q,e⟩=>⟨b,sz,hE.at_ q,e⟩,fun x hx=>h'.spec x (List.mem_append_right _ hx),h'.below,h'.len,h'.outer,h'.roots,h'.dh,h'.dQ,fun t d c hl=>
  ⟨(h.slots t d c hl).1,fun hc=>h'.spec _ (List.mem_append_left _ (OI hl hc)),(h.slots t d c hl).2.2⟩,h'.gM⟩
theorem su {cs:List Frame}:∀ (l:List Nat) {sl:aN} {rs fT:List ah} {a:Act} {w:World} {fr:Frame},OH l rs=some fT→R T N ay w0 sp ⟨sl,rs,l⟩ a w E→fr.mode=.returning→fr.defers=a.defers→
  ∃ w',R T N ay w0 sp ⟨sl,fT,[]⟩ { a with defers:=[] } w' E∧Steps P (lone fr cs w) (lone { fr with defers:=[] } cs w')
 | [],sl,rs,fT,a,w,fr,e,h,hm,hd=>by
   have e:some rs=some fT:=e
   simp only [aq] at e
   subst e
   have qy:a.defers=[]:=by
    have:=h.defers
    generalize a.defers=l at this
    cases this; rfl
   have ha:({ a with defers:=[] }:Act)=a:=by rw [← qy]
   have hf:({ fr with defers:=[] }:Frame)=fr:=by rw [← qy,← hd]
   rw [ha,hf]
   exact ⟨w,h,Steps.refl _ _⟩
 | r::l,sl,rs,fT,a,w,fr,e,h,hm,hd=>by
   have e:(match aV rs r with
    | some .nZ=>OH l (setAt rs r .dead)
    | _=>none)=some fT:=e
   split at e
   case h_2=>simp at e
   rename_i hr
   rw [bT] at hr
   have LN:=h.defers
   generalize hads:a.defers=ads at LN
   cases LN with
   | cons h1 h2=>
     rename_i d ds
     obtain ⟨b,sz,⟨qk,hE⟩,rfl⟩:=h1
     obtain ⟨b',h3,h4⟩:=h.roots r _ _ hr hE
     have h3:some b=some b':=h3
     simp only [aq] at h3
     subst h3
     have hk:=h.kill hr trivial hE (.deferred none)
     have hR:R T N ay w0 sp ⟨sl,setAt rs r .dead,l⟩ { a with defers:=ds } (w.putObj b (.deferred none)) E:=
      ⟨hk.size,h2,hk.spec,hk.below,hk.len,hk.outer,hk.roots,hk.dh,hk.dQ,hk.slots,hk.gM⟩
     have om:=step_collected (P:=P) (cs:=cs) (fr:=fr) (by rw [hm]; simp) (hd.trans hads) rfl (run_takeDeferred h4)
     obtain ⟨w',q1,q2⟩:=su l (fr:={ fr with defers:=[]++ds }) e hR hm rfl
     exact ⟨w',q1,(Steps.one om).trans q2⟩
def Iy (P:Program) (F:FuncId→Option Func):Prop:=∀ f fn,F f=some fn→P.funcs[f]?=some fn∧(fn.name == "runtime.NumGoroutine")=false
theorem D0 (bQ:dV P T) (C5:P.follows .mixedOrders=true) {F:FuncId→Option Func} (hF:Iy P F) (hl:ib T P lo) {fuel:Nat} {ds:List D} {rs aG:List ah} {d:D} (e:PO T hi F fuel lo f ds rs=some (d,aG)) :
  Enters P f∧∀ (N:Nat) (ay:Nat→Prop) (w0:Kp) (sp:List (D×Value)) (sl:aN) (df:List Nat) (a:Act) (w:World) (E:Env) (vs:List Value),R T N ay w0 sp ⟨sl,rs,df⟩ a w E→aB (a7 E (AV ay rs E) w) ds vs→
  Go.Calls P f vs.toArray w fun e w'=>∃ v E',e=.returned v∧Kept E E'∧R T N ay w0 sp ⟨sl,aG,df⟩ a w' E'∧a7 E' (AV ay aG E') w' d v:=by
 unfold PO at e
 split at e
 case h_2=>simp at e
 rename_i fn hfn
 split at e
 case h_2=>simp at e
 rename_i c hc
 obtain ⟨hlen,e⟩:=Bool.au e
 have hlen:=eI hlen
 split at e
 case h_2=>simp at e
 rename_i j s hrun
 obtain ⟨hret,e⟩:=Bool.au e
 unfold NB at e
 split at e
 case h_2=>simp at e
 rename_i fT htake
 split at e
 case h_2=>simp at e
 rename_i d1 yG
 simp only [aq,bs] at e
 obtain ⟨rfl,rfl⟩:=e
 obtain ⟨hf,sP⟩:=hF f fn hfn
 refine ⟨⟨fn,hf,sP,by simp [hc]⟩,?_⟩
 intro N ay w0 sp sl df a w E vs h hv cs
 let b:Frame:={ (default:Frame) with fn:=f,kind:=.normal,roundOf:=none }
 let tm:=vs.toArray++Array.replicate (fn.ntmps-vs.toArray.size) undef
 have hvl:=hv.length
 have henter:Frame.enter P f vs.toArray .normal=b.atR { tmps:=tm,defers:=[] } [.code c]:=by
  simp [Frame.enter,Frame.atR,hf,hc,b,tm]
 have htm:tm.size=fn.ntmps:=by simp only [tm,Array.size_append,Array.size_replicate,List.size_toArray]; omega
 have hR:=h.Ax (M:=fn.ntmps) (Jt:=dN 0 ds) (tm:=tm) htm (fun t d' c' hl=>by
  obtain ⟨rfl,_,h2⟩:=lZ hl
  simp only [Nat.sub_zero] at h2
  have ht:t<ds.length:=(List.getElem?_eq_some_iff.1 h2).1
  obtain ⟨v,h3,h4⟩:=hv.nth (i:=t) (x:=d') (by rw [bp]; exact h2)
  refine ⟨Nat.lt_of_lt_of_le ht hlen,fun _=>?_,fun q=>(q fun p hp=>by cases hp).elim⟩
  have hg:tm.getD t undef=v:=by
   have htv:t<vs.length:=by rw [← hvl]; exact ht
   have:vs[t]?=some v:=h3
   simp only [tm]
   rw [Array.getD_eq_getD_getElem?,Array.getElem?_append_left (by simpa using htv)]
   simp [this]
  rw [hg]
  exact h4)
 obtain ⟨a',w1,E',dB,hk,tT,xY,hend,hsteps⟩:=qM (hi:=hi) (ro:=none) (b:=b) (cs:=cs) bQ hl C5 rfl fuel hrun hR kC rfl
 have hback:Steps P (lone (b.atR a' dB) cs w1) (lone { b.atR a' dB with mode:=.returning } cs w1):=by
  cases j with
  | none=>
    have hend:dB=[]:=hend
    subst hend
    exact .one (stepR_end rfl)
  | some c' =>
    rcases hend with ⟨k,rfl,rfl⟩|⟨id,k,rfl,_,_⟩
    ·exact .one (stepR_ret rfl)
    ·simp [MS] at hret
 have hR'':R T fn.ntmps ay w0 (nX sl a++sp) ⟨s.sl,s.rs,s.df⟩ a' w1 E':=tT
 obtain ⟨w2,hR2,hst2⟩:=su (P:=P) (cs:=cs) s.df (fr:={ b.atR a' dB with mode:=.returning }) htake hR'' rfl rfl
 obtain ⟨pr,hpr1,hpr2⟩:=Ho (s:=⟨s.sl,fT,[]⟩) xY yG
 obtain ⟨v,hrv,hdv⟩:=me bQ hR2 hpr1 hpr2
 refine ⟨.returned v,w2,{ { b.atR a' dB with mode:=.returning } with defers:=[] },⟨v,E',rfl,hk,h.back hR2 hk.le,hdv⟩,?_,rfl,rfl,rfl,rfl,fn,hf,hrv⟩
 rw [henter]
 exact (hsteps.trans hback).trans hst2
theorem DX (bQ:dV P T) (C5:P.follows .mixedOrders=true) {F:FuncId→Option Func} (hF:Iy P F) {Kn:FuncId→Option D} (hKn:∀ f d,Kn f=some d→Enters P f∧Dd T P f [] d) (hl:ib T P lo) {fuel:Nat} {ds:List D} {rs aG:List ah} {d:D}
  (e:NC T hi F Kn fuel lo f ds rs=some (d,aG)) :
  Enters P f∧∀ (N:Nat) (ay:Nat→Prop) (w0:Kp) (sp:List (D×Value)) (sl:aN) (df:List Nat) (a:Act) (w:World) (E:Env) (vs:List Value),R T N ay w0 sp ⟨sl,rs,df⟩ a w E→aB (a7 E (AV ay rs E) w) ds vs→
  Go.Calls P f vs.toArray w fun e w'=>∃ v E',e=.returned v∧Kept E E'∧R T N ay w0 sp ⟨sl,aG,df⟩ a w' E'∧a7 E' (AV ay aG E') w' d v:=by
 unfold NC at e
 split at e
 ·rename_i d0 hd0
  split at e
  case h_2=>simp at e
  simp only [aq,bs] at e
  obtain ⟨rfl,rfl⟩:=e
  obtain ⟨h1,h2⟩:=hKn f _ hd0
  refine ⟨h1,?_⟩
  intro N ay w0 sp sl df a w E vs h hv
  cases hv
  have avlt:∀ b,AV ay rs E b→b<w.heap.size:=by
   rintro b (q|⟨r,x,sz,q1,q2,q3⟩)
   ·exact h.jT q
   ·exact (h.dh r x b sz q1 q2 q3).2
  refine (h2 (AV ay rs E) w [] avlt h.gM .nil).mono ?_
  rintro en w' ⟨v,rfl,hd,hb⟩
  exact ⟨v,E,rfl,Kept.refl E,h.grown hb,a7.mono (fun r e q=>by simp at q) (ba.refl _ w') (fun b _ q=>q) hd⟩
 ·exact D0 bQ C5 hF hl e
theorem GZ {rs:List ah} {tms:Array Value→Array Value}:∀ {ps:List Tmp} {ds:List D} {vs:List Value} {sl gy:aN} {tm:Array Value},Mc N ps ds sl=some gy→R T N ay w0 sp ⟨sl,rs,[]⟩ { tmps:=tm,defers:=[] } w E→bN sl→
  aB (a7 E (AV ay rs E) w) ds vs→ps.length=vs.length∧R T N ay w0 sp ⟨gy,rs,[]⟩ { tmps:=(ps.zip vs).foldl (fun tmps x=>tmps.setIfInBounds x.1 x.2) tm,defers:=[] } w E∧bN gy
 | [],[],vs,sl,gy,tm,e,h,hn,hv=>by
   have e:some sl=some gy:=e
   simp only [aq] at e
   subst e
   cases hv
   exact ⟨rfl,h,hn⟩
 | [],d::ds,vs,sl,gy,tm,e,h,hn,hv=>by
   have e:(none:Option aN)=some gy:=e
   simp at e
 | t::ps,[],vs,sl,gy,tm,e,h,hn,hv=>by
   have e:(none:Option aN)=some gy:=e
   simp at e
 | t::ps,d::ds,vs,sl,gy,tm,e,h,hn,hv=>by
   obtain ⟨ht,e⟩:=Bool.au (show (Bool.rec none (Mc N ps ds ((t,d,[])::sl)) (Nat.blt t N):Option aN)=some gy from e)
   cases hv with
   | cons q k=>
     rename_i v vs
     have hp:rr N ⟨sl,rs,[]⟩ (some t) d=some ⟨(t,d,[])::sl,rs,[]⟩:=by
      unfold rr; simp only [ht]
     obtain ⟨h1,h2⟩:=qV h hn hp q
     obtain ⟨h3,h4,h5⟩:=GZ (tms:=tms) e h1 h2 k
     exact ⟨by simp [h3],h4,h5⟩
theorem GC (bQ:dV P T) (C5:P.follows .mixedOrders=true) (hl:ib T P lo) {fuel r:Nat} {ds:List D} {rs aG:List ah} {d:D} (e:Vr T hi fuel lo r ds rs=some (d,aG)) :
  ∀ (N:Nat) (ay:Nat→Prop) (w0:Kp) (sp:List (D×Value)) (sl:aN) (df:List Nat) (a:Act) (w:World) (E:Env) (vs:List Value),R T N ay w0 sp ⟨sl,rs,df⟩ a w E→aB (a7 E (AV ay rs E) w) ds vs→
  ∃ b sz f tm as bd,bq E r b sz∧(Instr.yield b vs.toArray).run P w=.ok (.round b f tm as bd) w∧
   wU P b f tm as bd w fun v w'=>∃ E',Kept E E'∧R T N ay w0 sp ⟨sl,aG,df⟩ a w' E'∧a7 E' (AV ay aG E') w' d v:=by
 intro N ay w0 sp sl df a w E vs h hv
 unfold Vr at e
 split at e
 case h_2=>simp at e
 rename_i g M QX ps as bd hr
 split at e
 case h_2=>simp at e
 rename_i Jt NQ
 split at e
 case h_2=>simp at e
 rename_i j s hrun
 rw [bT] at hr
 obtain ⟨l,hd,sz,db,tm,h1,h2,h3,h4,h5⟩:=h.loop hr
 have hR:=h.Ax (M:=M) (Jt:=QX) (tm:=tm) h3 h4
 obtain ⟨hlen,hR1,Uh⟩:=GZ (tms:=id) NQ hR h5 hv
 have hy:=run_yield (P:=P) (args:=vs.toArray) h2 (by simp [hlen])
 refine ⟨l,sz,g,_,as,bd,⟨hd,h1⟩,hy,?_⟩
 have htm:(Array.foldl (fun tmps x=>match x with
   | (t,a)=>tmps.setIfInBounds t a) tm (ps.toArray.zip vs.toArray))=(ps.zip vs).foldl (fun tmps x=>tmps.setIfInBounds x.1 x.2) tm:=by
  simp
 intro c cs
 simp only at htm ⊢
 rw [htm]
 let b:Frame:={ (default:Frame) with fn:=g,kind:=.normal,roundOf:=some l }
 have hb0:∀ tm,Frame.round l g tm as bd .normal=b.atR { tmps:=tm,defers:=[] } [.code as,.beginRound,.code bd]:=fun tm=>by
  simp [Frame.round,Frame.atR,b]
 rw [hb0]
 obtain ⟨a',w1,E',dB,hk,tT,xY,hend,hsteps⟩:=qM (hi:=hi) (ro:=some r) (b:=b) (cs:=c::cs) bQ hl C5 rfl fuel hrun hR1 Uh ⟨l,sz,rfl,hd,h1⟩
 unfold CZ at e
 split at e
 case h_2=>simp at e
 split at e
 case h_2=>simp at e
 rename_i g' M' gy TJ Te Re Qw
 rw [bT] at Qw
 obtain ⟨l',qk,cQ,db',tm',q1,q2,q3,q4,q5⟩:=tT.loop Qw
 obtain ⟨K,hE',_⟩:=hk.le r _ h1 (fQ.Je rfl)
 rw [hE'] at q1
 simp only [fQ.wk,aq,bs] at q1
 obtain ⟨rfl,rfl,rfl⟩:=q1
 cases j with
 | none=>
   simp only [aq,bs] at e
   obtain ⟨rfl,rfl⟩:=e
   have hend:dB=[]:=hend
   subst hend
   exact ⟨.bool true,_,⟨E',hk,h.back (tT.sS Qw hE' q2 q3 q4 q5 .ready none) hk.le,rfl,rfl⟩,hsteps.trans (.one (stepR_round_end rfl rfl (run_endRound none q2)))⟩
 | some c' =>
   simp only [aq,bs] at e
   obtain ⟨rfl,rfl⟩:=e
   refine ⟨.bool false,_,⟨E',hk,h.back (tT.sS Qw hE' q2 q3 q4 q5 .done (some c')) hk.le,rfl,rfl⟩,hsteps.trans (.one ?_)⟩
   rcases hend with ⟨k,rfl,rfl⟩|⟨id,k,rfl,rfl,hx⟩
   ·exact stepR_round_ret rfl rfl (run_endRound (some .ret) q2)
   ·exact stepR_round_exit rfl rfl hx (run_endRound (some (.exit id)) q2)
theorem sY (bQ:dV P T) (C5:P.follows .mixedOrders=true) {F:FuncId→Option Func} (hF:Iy P F) {Kn:FuncId→Option D} (hKn:∀ f d,Kn f=some d→Enters P f∧Dd T P f [] d) {fuel:Nat} :
  ∀ n,ib T P (loN T hi F Kn fuel n)
 | 0=>⟨fun f ds rs d aG e=>by
   have e:(none:Option (D×List ah))=some (d,aG):=e
   simp at e,fun r ds rs d aG e=>by
   have e:(none:Option (D×List ah))=some (d,aG):=e
   simp at e,EY,fun f ds rs d q x e=>by
   have e:(none:Option (D×Nat×ah))=some (d,q,x):=e
   simp at e,fun f ds rs pQ r _ _ e=>by
   have e:(none:Option (D×Nat×ah))=some r:=e
   simp at e⟩
 | n+1=>⟨fun f ds rs d aG e=>DX bQ C5 hF hKn (sY bQ C5 hF hKn n) e,fun r ds rs d aG e=>GC bQ C5 (sY bQ C5 hF hKn n) e,EY,fun f ds rs d q x e=>by
   have e:(none:Option (D×Nat×ah))=some (d,q,x):=e
   simp at e,fun f ds rs pQ r _ _ e=>by
   have e:(none:Option (D×Nat×ah))=some r:=e
   simp at e⟩
end
section
def nd (b:Bool) (A:Prop):Prop:=Bool.rec False A b
def br (b:Bool) (A B:Prop):Prop:=Bool.rec B A b
theorem bW {b:Bool} {A:Prop}:nd b A↔b=true∧A:=by cases b<;>simp [nd]
theorem aw {b:Bool} {A:Prop} (h:b=true) (a:A):nd b A:=bW.2 ⟨h,a⟩
theorem ak {b:Bool} {A B:Prop} (h:b=true→A) (k:b=false→B):br b A B:=by
 cases b
 ·exact k rfl
 ·exact h rfl
theorem xQ {b:Bool} {A B:Prop} (h:br b A B):(b=true∧A)∨(b=false∧B):=by
 cases b
 ·exact .inr ⟨rfl,h⟩
 ·exact .inl ⟨rfl,h⟩
def cV {α:Type} (x:Option α) (k:α→Prop):Prop:=match x with
 | some a=>k a
 | none=>False
theorem cL {α:Type} {x:Option α} {k:α→Prop} (h:cV x k):∃ a,x=some a∧k a:=by
 cases x with
 | none=>exact h.elim
 | some a=>exact ⟨a,rfl,h⟩
structure cu (T:dY) (P:Program) (f:FuncId) (ds:List D) (rs:List ah) (d:D) (aG:List ah):Prop where
 out:Enters P f∧∀ (N:Nat) (ay:Nat→Prop) (w0:Kp) (sp:List (D×Value)) (sl:aN) (df:List Nat) (a:Act) (w:World) (E:Env) (vs:List Value),R T N ay w0 sp ⟨sl,rs,df⟩ a w E→aB (a7 E (AV ay rs E) w) ds vs→
  Go.Calls P f vs.toArray w fun e w'=>∃ v E',e=.returned v∧Kept E E'∧R T N ay w0 sp ⟨sl,aG,df⟩ a w' E'∧a7 E' (AV ay aG E') w' d v
structure ti (T:dY) (P:Program) (r:Nat) (ds:List D) (rs:List ah) (d:D) (aG:List ah):Prop where
 out:∀ (N:Nat) (ay:Nat→Prop) (w0:Kp) (sp:List (D×Value)) (sl:aN) (df:List Nat) (a:Act) (w:World) (E:Env) (vs:List Value),R T N ay w0 sp ⟨sl,rs,df⟩ a w E→aB (a7 E (AV ay rs E) w) ds vs→
  ∃ b sz f tm as bd,bq E r b sz∧(Instr.yield b vs.toArray).run P w=.ok (.round b f tm as bd) w∧
   wU P b f tm as bd w fun v w'=>∃ E',Kept E E'∧R T N ay w0 sp ⟨sl,aG,df⟩ a w' E'∧a7 E' (AV ay aG E') w' d v
structure xa (T:dY) (P:Program) (f:FuncId) (ds:List D) (rs:List ah) (d:D) (q:Nat) (x:ah):Prop where
 out:∀ pQ:List ah,rs.length=pQ.length→(∀ (k:Nat) (y:ah),aV rs k=some y→y.live→aV pQ k=some y)→cu T P f ds pQ d (place q x pQ)
abbrev Out:=D×List (Nat×ah)×List ah
inductive Rd where
 | no
 | ret (o:D×Nat×ah)
 | get (q:Nat) (k:ah→Rd)
def xU (rs:List ah) (r:Rd):Option (D×Nat×ah):=Rd.rec none (fun o=>some o) (fun q _ ih=>match aV rs q with
 | some x=>match x with
   | .dead=>none
   | x=>ih x
 | none=>none) r
structure hX where
 F:FuncId→List D→List ah→Out
 FY:Nat→List D→List ah→Out:=fun _ _ _=>(.t [],[],[])
 B:FuncId→List D→List ah→Bool:=fun _ _ _=>true
 R1:FuncId→List D→List ah→Out:=fun _ _ _=>(.t [],[],[])
 R2:FuncId→List D→List ah→Out:=fun _ _ _=>(.t [],[],[])
 S:List Nat:=[]
 W:FuncId→List D→Rd:=fun _ _=>.no
def cT (rs:List ah) (x:Out):List ah:=writes x.2.1 rs++x.2.2
def C6 (S:List Nat) (ws:List (Nat×ah)):Bool:=List.rec true (fun p _ ih=>Bool.rec false ih (oS p.1 S)) ws
def kg (S:List Nat) (aG:List ah):List (Nat×ah):=List.rec [] (fun q _ ih=>match aV aG q with
 | some x=>(q,x)::ih
 | none=>ih) S
def N1 (n:Nat) (ws:List (Nat×ah)):Bool:=List.rec true (fun p _ ih=>Bool.rec false ih (lC n p.2)) ws
def ku (X:hX):Lo:=⟨fun f ds rs=>some ((X.F f ds rs).1,cT rs (X.F f ds rs)),fun r ds rs=>some ((X.FY r ds rs).1,cT rs (X.FY r ds rs)),fun rs aG=>some (kg X.S aG),fun f ds rs=>xU rs (X.W f ds)⟩
def Grown (S:List Nat) (rs aG:List ah):Prop:=∃ ws ex,C6 S ws=true∧aG=writes ws rs++ex
open Classical in
def cH (T:dY) (P:Program) (X:hX):Lo:=⟨fun f ds rs=>if cu T P f ds rs (X.F f ds rs).1 (cT rs (X.F f ds rs)) then some ((X.F f ds rs).1,cT rs (X.F f ds rs)) else none,
 fun r ds rs=>if ti T P r ds rs (X.FY r ds rs).1 (cT rs (X.FY r ds rs)) then some ((X.FY r ds rs).1,cT rs (X.FY r ds rs)) else none,
 fun rs aG=>if Grown X.S rs aG∧N1 rs.length (kg X.S aG)=true then some (kg X.S aG) else none,
 fun f ds rs=>match xU rs (X.W f ds) with
  | some o=>if xa T P f ds rs o.1 o.2.1 o.2.2 then some o else none
  | none=>none⟩
section
variable (T:dY) (P:Program) (X:hX) (hi:Hint)
def Gn (s:VS) (t:Nat) (x ix:Operand) (k:D→Prop):Prop:=match KK T t with
 | some a=>match iH (cA s.sl ix) with
   | some i=>match dE (cA s.sl x) with
     | some (.rt r q j)=>nd (cd i a.1) (k (.c (.rt r q (j+i.toNat*a.2.size))))
     | some (.im (.gp q))=>cV (HB T a.1 a.2.size i q) k
     | _=>False
   | none=>False
 | none=>match sE T t with
   | some y=>match iH (cA s.sl ix) with
     | some i=>match dE (cA s.sl x) with
       | some (.im (.sl sz n get))=>nd (Nat.beq sz y.size) (nd (cd i n) (k (.c (.im (.pt sz (get i.toNat))))))
       | some (.sa r m)=>match aV s.rs r with
         | some (.row _ sz _ _)=>nd (Nat.beq sz y.size) (nd (cd i m) (k (.c (.rt r i.toNat 0))))
         | some (.arr _ sz _ _)=>nd (Nat.beq sz y.size) (nd (cd i m) (k (.c (.rt r i.toNat 0))))
         | some (.cR _ sz _ _ _)=>nd (Nat.beq sz y.size) (nd (cd i m) (k (.c (.rt r i.toNat 0))))
         | _=>False
       | _=>False
     | none=>False
   | none=>False
def P4 (s:VS) (c x y:Operand) (k:D→Prop):Prop:=match ju (cA s.sl c) with
 | some b=>br b (cV (ju (cA s.sl x)) fun z=>k (bool z)) (cV (ju (cA s.sl y)) fun z=>k (bool z))
 | none=>False
def BQ (rs:List ah) (c:C) (h:Int) (k:D→Prop):Prop:=match c with
 | .im (.sl sz n get)=>nd (HH h n) (k (.c (.im (.sl sz h.toNat get))))
 | .sa r m=>match aV rs r with
   | some (.row _ _ _ _)=>nd (HH h m) (k (.c (.sa r h.toNat)))
   | some (.arr _ _ _ _)=>nd (HH h m) (k (.c (.sa r h.toNat)))
   | some (.cR _ _ _ _ _)=>nd (HH h m) (k (.c (.sa r h.toNat)))
   | _=>False
 | _=>cV (nb rs c h) k
def AO (sz:Nat) (c:C) (h:Int) (k:D→Prop):Prop:=match c with
 | .im (.sl cQ n get)=>nd (HH h n) (nd (Nat.beq cQ sz) (k (.c (.im (.sl cQ (n-h.toNat) fun i j=>get (h.toNat+i) j)))))
 | _=>False
def H9 (s:VS) (t:Nat) (x:Operand) (lo hi mx:Option Operand) (k:D→Prop):Prop:=match lo,hi,mx with
 | none,some h,none=>match sE T t with
   | some _=>match dE (cA s.sl x),iH (cA s.sl h) with
     | some c,some n=>BQ s.rs c n k
     | _,_=>False
   | none=>False
 | some l,none,none=>match sE T t with
   | some y=>match dE (cA s.sl x),iH (cA s.sl l) with
     | some c,some n=>AO y.size c n k
     | _,_=>False
   | none=>False
 | _,_,_=>False
def PD (y:Ty) (sz n:Nat) (get:Nat→Nat→I) (i j:Nat) (k:D→Prop):Prop:=match y.kd.agg with
 | true=>nd (Nat.ble (j+y.size) sz) (nd (Nat.blt i n) (k (.a (ea (get i) j y.size))))
 | false=>nd (Nat.blt j sz) (nd (Nat.blt i n) (k (.c (.im (get i j)))))
def AG (i:Nat) (K:Nat→Prop) (m:Nat):Nat→Prop:=Nat.rec (fun _=>False) (fun _ ih c=>br (Nat.beq i c) (K c) (ih (c+1))) m
def Dk (y:Ty) (f:Nat→Option C) (j:Nat) (k:D→Prop):Prop:=match y.kd.agg with
 | true=>cV (pL f j y.size) fun l=>k (.a l)
 | false=>cV (f j) fun c=>k (.c c)
def ac1 (y:Ty) (sz j:Nat):Bool:=match y.kd.agg with
 | true=>Nat.ble (j+y.size) sz
 | false=>Nat.blt j sz
def Gf (y:Ty) (sz n:Nat) (get:Nat→Nat→O) (eG:Option (Nat×List Fc)) (i j:Nat) (k:D→Prop):Prop:=nd (ac1 y sz j) (nd (Nat.blt i n) (match eG with
 | none=>Dk y (fun j=>Lw (get i j)) j k
 | some x=>nd (Nat.beq i x.1) (Dk y (fun j=>Lx (aV x.2 j)) j k)))
def Qa (s:VS) (t:Nat) (x:Operand) (k:D→Prop):Prop:=match T.ty t,dE (cA s.sl x) with
 | some y,some c=>match c with
   | .rt r i j=>match aV s.rs r with
     | some (.arr _ sz n get)=>PD y sz n get i j k
     | some (.row _ sz n l)=>AG i (fun c=>cV (sA y l (c*sz+j)) k) n 0
     | some (.cR _ sz n get eG)=>Gf y sz n get eG i j k
     | _=>cV (kN T s t x) k
   | _=>cV (kN T s t x) k
 | _,_=>False
def VQ (op:BinOp) (a b:Int) (k:D→Prop):Prop:=match op with
 | .quo=>nd (!(b==0)) (k (int (IntKind.i64.wrap (a.tdiv b))))
 | .rem=>nd (!(b==0)) (k (int (a.tmod b)))
 | _=>cV (uM op a b) fun z=>k (.v z)
def XT (s:VS) (op:BinOp) (t:Nat) (x y:Operand) (k:D→Prop):Prop:=match isNil y with
 | true=>cV (uz T s op t x) k
 | false=>match iH (cA s.sl x),iH (cA s.sl y) with
   | some a,some b=>VQ op a b k
   | _,_=>cV (vP T s op t x y) k
def BN (el sz n:Nat) (get:Nat→Nat→O) (eG:Option (Nat×List Fc)) (r i j:Nat) (cs:List C) (k:cF→Prop):Prop:=match Av cs with
 | some ys=>nd (Nat.blt i n) (k (.wr none [(r,.cR el sz n (Ld get i j ys) eG)]))
 | none=>False
def A6 (el sz n:Nat) (get:Nat→Nat→O) (eG:Option (Nat×List Fc)) (size r i j:Nat) (cs:List C) (k:cF→Prop):Prop:=nd (Nat.ble (j+size) sz) (match eG with
 | none=>BN el sz n get none r i j cs k
 | some x=>nd (Nat.beq i x.1) (cV (KH cs x.2 j) fun l=>k (.wr none [(r,.cR el sz n get (some (x.1,l)))])))
def JA (rs:List ah) (size r i j:Nat) (cs:List C) (k:cF→Prop):Prop:=match aV rs r with
 | some (.arr el sz n get)=>match Av cs with
   | some ys=>nd (Nat.ble (j+size) sz) (nd (Nat.blt i n) (k (.wr none [(r,.arr el sz n (jS get i j ys))])))
   | none=>cV (ot rs cs) k
 | some (.cR el sz n get eG)=>A6 el sz n get eG size r i j cs k
 | _=>cV (mn rs size r i j cs) k
def FN (s:VS) (dst:Option Tmp) (t:Nat) (x v:Operand) (k:cF→Prop):Prop:=match dst with
 | some _=>False
 | none=>match T.ty t,cA s.sl v with
   | some y,some d=>match d.cells with
     | some cs=>nd (Nat.beq cs.length y.size&&Nat.blt 0 y.size) (match dE (cA s.sl x) with
       | some (.rt r i j)=>JA s.rs y.size r i j cs k
       | _=>False)
     | none=>False
   | _,_=>False
def Mb (b:Nat) (s:VS) (t:Nat) (l c:Operand) (k:cF→Prop):Prop:=match T.ty t with
 | some { kd:=.slice el,.. }=>match T.ty el with
   | some y=>match wb y with
     | some z=>match iH (cA s.sl l),iH (cA s.sl c) with
       | some (.ofNat n),some (.ofNat m)=>match Av z with
         | some is=>nd (Nat.blt 0 y.size) (nd (Nat.ble n maxLen&&Nat.ble (n*y.bytes) 281474976710656) (nd (Nat.beq n m) (k (.wr (some (.c (.sa b n))) [(b,.arr el y.size n (fun _=>bH is))]))))
         | none=>False
       | _,_=>False
     | none=>False
   | none=>False
 | _=>False
def ME (el sz n':Nat) (get':Nat→Nat→I) (bytes b:Nat) (rs:List ah) (c:C) (k:cF→Prop):Prop:=match c with
 | .im (.v (.slice none 0 0))=>nd (cg n' bytes) (k (.wr (some (.c (.sa b n'))) [(b,.arr el sz n' get')]))
 | .sa r m=>match aV rs r with
   | some (.arr pM cQ n get)=>nd (Nat.beq el pM&&Nat.beq sz cQ) (nd (cg (n+n') bytes) (nd (Nat.beq m n) (k (.wr (some (.c (.sa b (n+n')))) [(r,.dead),(b,.arr el sz (n+n') (gP n get get'))]))))
   | _=>False
 | _=>False
def Pg (sz:Nat) (rs:List ah) (c:C) (k:Nat×(Nat→Nat→I)→Prop) (K:Prop):Prop:=match c with
 | .sa q m=>match aV rs q with
   | some (.arr _ cQ n get)=>nd (Nat.beq cQ sz) (nd (Nat.ble m n) (k (m,get)))
   | _=>match sQ sz rs c with
     | some x=>k x
     | none=>K
 | _=>match sQ sz rs c with
   | some x=>k x
   | none=>K
def Ur (ty:Ty) (el b:Nat) (rs:List ah) (c src:C) (k:cF→Prop):Prop:=Pg ty.size rs src (fun x=>nd (Nat.blt 0 ty.size) (ME el ty.size x.1 x.2 ty.bytes b rs c k)) (cV (ot rs [src]) k)
def US (ty:Ty) (el pM cQ n:Nat) (get:Nat→Nat→O) (b r m:Nat) (rs:List ah) (src:C) (k:cF→Prop):Prop:=match wS rs src with
 | some (sz,1,l)=>nd (Nat.beq sz ty.size&&Nat.blt 0 sz) (nd (Nat.beq el pM&&Nat.beq sz cQ) (nd (cg (n+1) ty.bytes) (nd (Nat.beq m n) (k (.wr (some (.c (.sa b (n+1)))) [(r,.dead),(b,.cR el sz (n+1) get (some (n,l.map Fc.c)))])))))
 | _=>False
def OE (el b:Nat) (rs:List ah) (c src:C) (k:cF→Prop):Prop:=match c with
 | .sa r m=>match aV rs r with
   | some (.cR pM cQ n get none)=>match T.ty el with
     | some ty=>US ty el pM cQ n get b r m rs src k
     | none=>False
   | _=>cV (pj T el b rs (some c) (some src)) k
 | _=>cV (pj T el b rs (some c) (some src)) k
def V8 (el b:Nat) (rs:List ah) (x src:Option C) (k:cF→Prop):Prop:=match x,src with
 | some c,some src=>match LQ rs c src with
   | true=>match T.ty el with
     | some ty=>Ur ty el b rs c src k
     | none=>False
   | false=>OE T el b rs c src k
 | _,_=>False
def VU (b:Nat) (s:VS) (ts:List TypeId) (xs:List Operand) (k:cF→Prop):Prop:=match ts,xs with
 | [t,t'],[x,y]=>nd (Nat.beq t t') (match T.ty t with
   | some { kd:=.slice el,.. }=>V8 T el b s.rs (dE (cA s.sl x)) (dE (cA s.sl y)) k
   | _=>False)
 | _,_=>False
def Bi (rs:List ah) (g:FuncId) (ds:List D) (k:cF→Prop):Prop:=match dG rs ds with
 | some is=>cu T P g is [] (X.F g is []).1 (cT [] (X.F g is []))∧cV (ie (ku X) rs g ds) k
 | none=>False
def Pt (rs:List ah) (g:FuncId) (ds:List D) (k:cF→Prop):Prop:=
 cu T P g ds rs (X.F g ds rs).1 (cT rs (X.F g ds rs))∧nd (C6 X.S (X.F g ds rs).2.1) (k (.all (X.F g ds rs).1 (cT rs (X.F g ds rs))))
def ab2 (rs:List ah) (g:FuncId) (ds:List D) (k:cF→Prop):Prop:=match xU rs (X.W g ds) with
 | some o=>xa T P g ds rs o.1 o.2.1 o.2.2∧nd (Nat.blt o.2.1 rs.length) (k (.wr (some o.1) [(o.2.1,o.2.2)]))
 | none=>False
def HQ (rs:List ah) (b:Nat) (g:FuncId) (ds:List D) (k:cF→Prop):Prop:=match hi.mode g with
 | 0=>Bi T P X rs g ds k
 | 1=>Pt T P X rs g ds k
 | 2=>match dG rs ds with
   | some is=>cu T P g is [] (X.F g is []).1 (cT [] (X.F g is []))∧cV (iD (ku X) rs g ds b) k
   | none=>False
 | 4=>ab2 T P X rs g ds k
 | 5=>match dG rs ds with
   | some is=>cu T P g is [] (X.F g is []).1 (cT [] (X.F g is []))∧cV (yN (ku X) rs g ds b) k
   | none=>False
 | _=>Bool.rec (Pt T P X rs g ds k) (Bi T P X rs g ds k) (fH ds)
def aa7 (rs:List ah) (r:Nat) (ds:List D) (k:cF→Prop):Prop:=
 ti T P r ds rs (X.FY r ds rs).1 (cT rs (X.FY r ds rs))∧nd (C6 X.S (X.FY r ds rs).2.1) (k (.all (X.FY r ds rs).1 (cT rs (X.FY r ds rs))))
def GS (b:Nat) (s:VS) (f:Operand) (xs:List Operand) (k:cF→Prop):Prop:=match dE (cA s.sl f),yL s.sl xs with
 | some c,some ds=>match c with
   | .yl r=>aa7 T P X s.rs r ds k
   | _=>match pE c with
     | some (g,eJ)=>HQ T P X hi s.rs b g (ds++eJ) k
     | none=>False
 | _,_=>False
def Na (b:Nat) (s:VS) (c:Call) (k:cF→Prop):Prop:=match FQ T s c with
 | some d=>k (.val d)
 | none=>match c.callee with
   | .builtin .append=>VU T b s c.argTypes.toList c.args.toList k
   | .value f=>GS T P X hi b s f c.args.toList k
   | _=>False
def N8 (b:Nat) (s:VS) (dst:Option Tmp) (op:Op) (k:cF→Prop):Prop:=match op with
 | .indexAddr t x i=>Gn T s t x i fun d=>k (.val d)
 | .pick c x y=>P4 s c x y fun d=>k (.val d)
 | .slice t x lo h mx=>H9 T s t x lo h mx fun d=>k (.val d)
 | .load t x=>Qa T s t x fun d=>k (.val d)
 | .binOp o t x y _=>XT T s o t x y fun d=>k (.val d)
 | .store t x v=>FN T s dst t x v k
 | .makeSlice t l c=>Mb T b s t l c k
 | .call c=>Na T P X hi b s c k
 | op=>cV (gk T (ku X) hi b s dst op) k
def Oh (t:Tmp) (b:Bool) (sl:aN):aN:=List.rec [] (fun x l ih=>Bool.rec (x::ih) ((x.1,bool b,x.2.2)::l) (Nat.beq x.1 t)) sl
def uw (t:Tmp) (b:Bool) (s:VS):VS:={ s with sl:=Oh t b s.sl }
def I7 (s:VS) (c:Operand) (p:Bool) (A B:VS→Prop):Prop:=match c with
 | .tmp t=>br p (A (uw t true s)) (B (uw t false s))
 | _=>br p (A s) (B s)
def IJ (ops:List Oper) (s:VS) (g:Option (Nat×Bool)) (A B:VS→Prop):Prop:=match g with
 | none=>A s
 | some (j,want)=>match aV ops j with
   | some p=>match p.dst with
     | some t=>match fc s.sl t with
       | some (.t [])=>B s
       | d=>match ju d with
         | some x=>Bool.rec (br x (B (uw t true s)) (A (uw t false s))) (br x (A (uw t true s)) (B (uw t false s))) want
         | none=>False
     | none=>False
   | none=>False
def I4 (N:Nat) (s:VS) (dst:Option Tmp) (k:VS→Prop) (again:List Nat→Prop) (e:cF):Prop:=match e with
 | .cX l=>again l
 | e=>cV (qc N s dst e) k
def P3 (N:Nat) (s:VS) (dst:Option Tmp) (op:Op) (k:VS→Prop):Prop:=
 N8 T P X hi s.rs.length s dst op (I4 N s dst k fun l=>cV (gW l s) fun s1=>N8 T P X hi s1.rs.length s1 dst op (I4 N s1 dst k fun _=>False))
def opW (N:Nat) (ops:List Oper) (s:VS) (o:Oper) (k:VS→Prop):Prop:=
 IJ ops s o.guard (fun s=>P3 T P X hi N s o.dst o.op k) fun s=>cV (rr N s o.dst (.t [])) k
def Wo (N:Nat) (ops l:List Oper):VS→(VS→Prop)→Prop:=List.rec (fun s k=>k s) (fun o _ ih s k=>opW T P X hi N ops s o fun s'=>ih s' k) l
def af5 (rs:List ah) (cJ:List Nat) (i:Nat) (dst:Option Tmp) (e:cF) (k:NY→Prop):Prop:=cV (sb (ku X) rs cJ i dst (some e)) fun u=>match u with
 | .ok ⟨t,d,ws,none,true⟩=>nd (N1 rs.length ws) (k (.ok ⟨t,d,ws,none,true⟩))
 | u=>k u
def evalW (cJ:List Nat) (i b:Nat) (ops:List Oper) (s:VS) (o:Oper) (k:VS→NY→Prop):Prop:=
 IJ ops s o.guard (fun s=>N8 T P X hi b s o.dst o.op fun e=>af5 X s.rs cJ i o.dst e (k s)) fun s=>k s (.ok ⟨o.dst,some (.t []),[],none,false⟩)
def Bk (N:Nat) (cJ:List Nat) (ops l:List Oper):Nat→Nat→List (Nat×List Nat)→VS→(Cb→Prop)→Prop:=List.rec (fun _ _ W s q=>q (.ok W s)) (fun o _ ih k b W s q=>
 evalW T P X hi cJ k b ops s o fun s u=>match u with
  | .ok u=>nd (C4 N u.dst u.val) (ih (k+1) (b+eH o.op) (Eb k u W) (u.on s) q)
  | .cX c=>q (.cX c)) l
def Bx (N:Nat) (ops:List Oper) (cJ:List Nat) (W:List (Nat×List Nat)) (l:List Oper):List Nat→Nat→Nat→VS→(VS→Prop)→Prop:=List.rec (fun _ _ _ s q=>q s) (fun o _ ih ms i b s q=>
 match ms with
 | m::ms=>evalW T P X hi cJ i b ops (Rn (eL cJ i m W) s) o fun s1 u=>match u with
   | .ok u=>nd (C4 N u.dst u.val&&(CT (u.ws.map (·.1)) (nt i W)&&(nz (u.ws.map (·.1)) (eL cJ i m W)&&Qp u.ex (eL cJ i m W)))) (ih ms (i+1) (b+eH o.op) (u.on { s with sl:=s1.sl }) q)
   | .cX _=>False
 | []=>False) l
def C1 (N:Nat) (ops:List Oper) (s0 s':VS) (b:Nat) (W:List (Nat×List Nat)) (k:VS→Prop):Prop:=match W with
 | []=>k s'
 | _=>Bx T P X hi N ops (jw ops []) W ops (jw ops []) 0 b s0 k
def HU (N:Nat) (ops:List Oper) (n:Nat):VS→(VS→Prop)→Prop:=Nat.rec (fun _ _=>False) (fun _ ih s k=>
 Bk T P X hi N (jw ops []) ops ops 0 s.rs.length [] (gh ops s) fun r=>match r with
  | .cX l=>cV (gW l s) fun s'=>ih s' k
  | .ok W s'=>C1 T P X hi N ops (gh ops s) s' s.rs.length W k) n
def vp (N:Nat) (f:FuncId) (ro:Option Nat) (id:Nat) (ops:List Oper) (draw:Bool) (s:VS) (k:VS→Prop):Prop:=match draw with
 | false=>Wo T P X hi N ops ops s fun s'=>k (rE hi f id s')
 | true=>match ro with
   | some _=>False
   | none=>match sH ops with
     | true=>HU T P X hi N ops 8 s fun s'=>k (rE hi f id s')
     | false=>False
def AP (b:Nat) (s:VS) (aG:List ah) (k:Option Code→VS→Prop):Prop:=match aV aG (b+1) with
 | some (.loop _ _ _ _ _ _ .ready none)=>k none { s with rs:=setAt aG (b+1) .dead,df:=b::s.df }
 | some (.loop _ _ _ _ _ _ .done (some c))=>k (some c) { s with rs:=setAt aG (b+1) .dead,df:=b::s.df }
 | _=>False
def PR (s:VS) (h:FuncId) (ds:List D) (rs:List ah) (k:Option Code→VS→Prop):Prop:=
 br (X.B h ds rs) (cu T P h ds rs (X.R1 h ds rs).1 (cT rs (X.R1 h ds rs))∧AP s.rs.length s (cT rs (X.R1 h ds rs)) k) (cu T P h ds rs (X.R2 h ds rs).1 (cT rs (X.R2 h ds rs))∧AP s.rs.length s (cT rs (X.R2 h ds rs)) k)
def Cm (N:Nat) (f:FuncId) (ro:Option Nat) (g:Operand) (ps:List Tmp) (as b:Code) (s:VS) (k:Option Code→VS→Prop):Prop:=match ro with
 | some _=>False
 | none=>match dE (cA s.sl g) with
   | some c=>match pE c with
     | some (h,eJ)=>PR T P X s h (.c (.yl (s.rs.length+1))::eJ) (s.rs++[.nZ,.loop f N s.sl ps as b .ready none]) k
     | none=>False
   | none=>False
def uT (N:Nat) (f:FuncId) (ro:Option Nat) (stop:Nat→Bool) (L:List Item→VS→Prop) (Q:Option Code→VS→Prop) (n:Nat):Bool→List Item→VS→Prop:=Nat.rec (fun _ _ _=>False) (fun _ ih go todo s=>match todo with
 | []=>Q none s
 | x::k=>match x with
   | .inBlock _=>ih go k s
   | .inLoop c=>ih go (.code c::.inLoop c::k) s
   | .beginRound=>cV (tJ ro s) fun s'=>ih go k s'
   | .code c=>match c with
     | .skip=>ih go k s
     | .label _=>ih go k s
     | .ret=>Q (some .ret) s
     | .seq a b=>ih go (.code a::.code b::k) s
     | .cond c a b=>match ju (cA s.sl c) with
       | some p=>I7 s c p (ih go (.code a::k)) (ih go (.code b::k))
       | none=>False
     | .block id c=>ih go (.code c::.inBlock id::k) s
     | .loop c=>ih go (.code c::.inLoop c::k) s
     | .exit id=>match exitTo id k with
       | some k'=>ih go k' s
       | none=>Q (some (.exit id)) s
     | .region id ops draw=>Bool.rec (vp T P X hi N f ro id ops.toList draw s fun s'=>ih false k s') (L (.code (.region id ops draw)::k) s) (!go&&stop id)
     | .rangeFunc g ps as b=>Cm T P X N f ro g ps.toList as b s fun j s'=>ih false (zj j k) s'
     | _=>False
   | _=>False) n
end
def uo (T:dY) (res:List ResultVar) (Q:D→List ah→Prop) (j:Option Code) (s:VS):Prop:=nd (MS j) (cV (NB T s res) fun x=>Q x.1 x.2)
def Un (r:Nat) (Q:D→List ah→Prop) (j:Option Code) (s:VS):Prop:=cV (CZ r j s) fun x=>Q x.1 x.2
end
section
variable {T:dY} {P:Program} {X:hX} {hi:Hint} {N:Nat} {s:VS}
theorem KR {t:Nat} {x ix:Operand} {k:D→Prop} (h:Gn T s t x ix k):∃ d,nG T s t x ix=some d∧k d:=by
 unfold Gn at h
 unfold nG
 split at h
 ·rename_i a ha
  split at h
  case h_2=>exact h.elim
  rename_i i jD
  split at h
  case h_3=>exact h.elim
  ·rename_i r q j hc
   obtain ⟨h1,h2⟩:=bW.1 h
   refine ⟨_,?_,h2⟩
   simp only [ha,jD,hc,wK,A3,h1]
  ·rename_i q hc
   obtain ⟨d,h1,h2⟩:=cL h
   exact ⟨d,by simp only [ha,jD,hc,wK,h1],h2⟩
 ·rename_i ha
  split at h
  case h_2=>exact h.elim
  rename_i y hy
  split at h
  case h_2=>exact h.elim
  rename_i i jD
  split at h
  ·rename_i sz n get hc
   obtain ⟨h1,h2⟩:=bW.1 h
   obtain ⟨h3,h4⟩:=bW.1 h2
   refine ⟨_,?_,h4⟩
   simp only [ha,hy,jD,hc,qz,h1,h3]
  ·rename_i r m hc
   split at h
   case h_4=>exact h.elim
   all_goals
    rename_i hr
    obtain ⟨h1,h2⟩:=bW.1 h
    obtain ⟨h3,h4⟩:=bW.1 h2
    refine ⟨_,?_,h4⟩
    simp only [ha,hy,jD,hc,qz,hr,h1,h3]
  ·exact h.elim
theorem Nz {c x y:Operand} {k:D→Prop} (h:P4 s c x y k):∃ d,zH s c x y=some d∧k d:=by
 unfold P4 at h
 unfold zH
 split at h
 case h_2=>exact h.elim
 rename_i b hb
 rcases xQ h with ⟨rfl,h⟩|⟨rfl,h⟩
 ·obtain ⟨z,h1,h2⟩:=cL h
  refine ⟨_,?_,h2⟩
  simp only [hb,h1]
 ·obtain ⟨z,h1,h2⟩:=cL h
  refine ⟨_,?_,h2⟩
  simp only [hb,h1]
theorem FZ {rs:List ah} {c:C} {h0:Int} {k:D→Prop} (h:BQ rs c h0 k):∃ d,nb rs c h0=some d∧k d:=by
 unfold BQ at h
 split at h
 ·obtain ⟨h1,h2⟩:=bW.1 h
  exact ⟨_,by simp only [nb,h1],h2⟩
 ·split at h
  case h_4=>exact h.elim
  all_goals
   rename_i hr
   obtain ⟨h1,h2⟩:=bW.1 h
   exact ⟨_,by simp only [nb,hr,h1],h2⟩
 ·exact cL h
theorem GL {sz:Nat} {c:C} {h0:Int} {k:D→Prop} (h:AO sz c h0 k):∃ d,wL sz c h0=some d∧k d:=by
 unfold AO at h
 split at h
 case h_2=>exact h.elim
 obtain ⟨h1,h2⟩:=bW.1 h
 obtain ⟨h3,h4⟩:=bW.1 h2
 exact ⟨_,by simp only [wL,h1,h3,Bool.and_self],h4⟩
theorem Kk {t:Nat} {x:Operand} {l h0 mx:Option Operand} {k:D→Prop} (h:H9 T s t x l h0 mx k):∃ d,lr T s t x l h0 mx=some d∧k d:=by
 unfold H9 at h
 unfold lr
 split at h
 ·split at h
  case h_2=>exact h.elim
  rename_i y hy
  split at h
  case h_2=>exact h.elim
  rename_i c n hc hn
  obtain ⟨d,h1,h2⟩:=FZ h
  exact ⟨d,by simp only [hy,hc,hn,h1],h2⟩
 ·split at h
  case h_2=>exact h.elim
  rename_i y hy
  split at h
  case h_2=>exact h.elim
  rename_i c n hc hn
  obtain ⟨d,h1,h2⟩:=GL h
  exact ⟨d,by simp only [hy,hc,hn,h1],h2⟩
 ·exact h.elim
theorem xV {i:Nat} {K:Nat→Prop}:∀ {m c:Nat},AG i K m c→K i
 | 0,c,h=>h.elim
 | m+1,c,h=>by
   have h:br (Nat.beq i c) (K c) (AG i K m (c+1)):=h
   rcases xQ h with ⟨h1,h2⟩|⟨_,h2⟩
   ·rw [bL h1]; exact h2
   ·exact xV h2
theorem Pr {y:Ty} {f g:Nat→Option C} {j:Nat} {k:D→Prop} (hfg:f=g) (h:Dk y f j k):∃ d,(match y.kd.agg with
  | true=>match pL g j y.size with
    | some l=>some (.a l)
    | none=>none
  | false=>match g j with
    | some c=>some (.c c)
    | none=>none)=some d∧k d:=by
 subst hfg
 unfold Dk at h
 split at h
 ·rename_i ha
  obtain ⟨l,h1,h2⟩:=cL h
  exact ⟨_,by simp only [ha,h1],h2⟩
 ·rename_i ha
  obtain ⟨l,h1,h2⟩:=cL h
  exact ⟨_,by simp only [ha,h1],h2⟩
theorem Ko {y:Ty} {sz n:Nat} {get:Nat→Nat→O} {eG:Option (Nat×List Fc)} {i j:Nat} {k:D→Prop} (h:Gf y sz n get eG i j k):∃ d,Fk y sz n (yS get eG i) i j=some d∧k d:=by
 unfold Gf at h
 obtain ⟨h1,h2⟩:=bW.1 h
 obtain ⟨h3,h4⟩:=bW.1 h2
 have fin:∀ {f:Nat→Option C},f=yS get eG i→Dk y f j k→∃ d,Fk y sz n (yS get eG i) i j=some d∧k d:=by
  intro f hf hp
  obtain ⟨d,q1,q2⟩:=Pr hf hp
  refine ⟨d,?_,q2⟩
  unfold Fk
  unfold ac1 at h1
  cases ha:y.kd.agg with
  | true=>simp only [ha] at h1 q1 ⊢; simp only [h1,h3]; exact q1
  | false=>simp only [ha] at h1 q1 ⊢; simp only [h1,h3]; exact q1
 split at h4
 ·exact fin rfl h4
 ·rename_i x
  obtain ⟨q1,q2⟩:=bW.1 h4
  exact fin (by funext j; simp only [yS,q1]) q2
theorem L9 {t:Nat} {x:Operand} {k:D→Prop} (h:Qa T s t x k):∃ d,kN T s t x=some d∧k d:=by
 unfold Qa at h
 split at h
 case h_2=>exact h.elim
 rename_i y c hy hc
 split at h
 case h_2=>exact cL h
 rename_i r i j
 split at h
 case h_4=>exact cL h
 case h_2=>
  rename_i el sz n l hr
  obtain ⟨d,h1,h2⟩:=cL (xV h)
  exact ⟨d,by simp only [kN,hy,hc,rU,hr,xS,h1],h2⟩
 case h_3=>
  rename_i el sz n get eG hr
  obtain ⟨d,h1,h2⟩:=Ko h
  exact ⟨d,by simp only [kN,hy,hc,rU,hr,xS,h1],h2⟩
 rename_i el sz n get hr
 unfold PD at h
 split at h
 ·rename_i ha
  obtain ⟨h1,h2⟩:=bW.1 h
  obtain ⟨h3,h4⟩:=bW.1 h2
  exact ⟨_,by simp only [kN,hy,hc,rU,hr,xS,I2,ha,h1,h3],h4⟩
 ·rename_i ha
  obtain ⟨h1,h2⟩:=bW.1 h
  obtain ⟨h3,h4⟩:=bW.1 h2
  exact ⟨_,by simp only [kN,hy,hc,rU,hr,xS,I2,ha,h1,h3],h4⟩
theorem SP {op:BinOp} {a b:Int} {k:D→Prop} (h:VQ op a b k):∃ z,uM op a b=some z∧k (.v z):=by
 unfold VQ at h
 split at h
 ·obtain ⟨h1,h2⟩:=bW.1 h
  simp only [Bool.not_eq_true'] at h1
  exact ⟨_,by simp only [uM,h1],h2⟩
 ·obtain ⟨h1,h2⟩:=bW.1 h
  simp only [Bool.not_eq_true'] at h1
  exact ⟨_,by simp only [uM,h1],h2⟩
 ·exact cL h
theorem Dt {d:Option D} {n:Int} (e:iH d=some n):∃ v,EZ d=some v∧Hx v=some n:=by
 unfold iH at e
 split at e
 ·rename_i v hv; exact ⟨v,hv,e⟩
 ·simp at e
theorem Rw {op:BinOp} {t:Nat} {x y:Operand} {k:D→Prop} (h:XT T s op t x y k):∃ d,vP T s op t x y=some d∧k d:=by
 unfold XT at h
 split at h
 ·rename_i hn
  obtain ⟨d,h1,h2⟩:=cL h
  exact ⟨d,by simp only [vP,hn,h1],h2⟩
 ·rename_i hn
  split at h
  ·rename_i a b ha hb
   obtain ⟨z,h1,h2⟩:=SP h
   obtain ⟨u,hu,hu2⟩:=Dt ha
   obtain ⟨v,hv,hv2⟩:=Dt hb
   have hp:G8 y=false:=by
    unfold G8
    split
    ·rename_i q
     have hb:iH (some (.c (.im (.v (.pointer none)))))=some b:=hb
     cases hb
    ·have hb:iH (some (.c (.im (.v .nilFunc))))=some b:=hb
     cases hb
    ·rfl
   exact ⟨_,by simp only [vP,hn,hp,hu,hv,Hp,hu2,hv2,h1],h2⟩
  ·exact cL h
theorem HD {el sz n size r i j:Nat} {get:Nat→Nat→O} {eG:Option (Nat×List Fc)} {cs:List C} {k:cF→Prop} (hb:Nat.ble (j+size) sz=true) (h:BN el sz n get eG r i j cs k):∃ e,oW el sz n get eG size r i j cs=some e∧k e:=by
 unfold BN at h
 split at h
 case h_2=>exact h.elim
 rename_i ys hys
 obtain ⟨h1,h2⟩:=bW.1 h
 exact ⟨_,by simp only [oW,hys,h1,hb],h2⟩
theorem FW {el sz n size r i j:Nat} {get:Nat→Nat→O} {eG:Option (Nat×List Fc)} {cs:List C} {k:cF→Prop} (h:A6 el sz n get eG size r i j cs k):∃ e,qH el sz n get eG size r i j cs=some e∧k e:=by
 unfold A6 at h
 obtain ⟨h1,h2⟩:=bW.1 h
 split at h2
 ·exact HD h1 h2
 ·rename_i x
  obtain ⟨q1,q2⟩:=bW.1 h2
  obtain ⟨l,q3,q4⟩:=cL q2
  exact ⟨_,by simp only [qH,q1,q3,h1],q4⟩
theorem Ln {lo:Lo} {hi:Hint} {b:Nat} {dst:Option Tmp} {t:Nat} {x v:Operand} {k:cF→Prop} (h:FN T s dst t x v k):∃ e,ij T s dst t x v=some e∧k e:=by
 unfold FN at h
 split at h
 ·exact h.elim
 split at h
 case h_2=>exact h.elim
 rename_i y d hy hd
 split at h
 case h_2=>exact h.elim
 rename_i cs hcs
 obtain ⟨h1,h2⟩:=bW.1 h
 split at h2
 case h_2=>exact h2.elim
 rename_i r i j hx
 have fin:∀ {e:cF},mn s.rs y.size r i j cs=some e→ij T s none t x v=some e:=fun he=>by
  simp only [ij,hy,hd,hcs,h1,hx,he]
 unfold JA at h2
 split at h2
 ·rename_i el sz n get hr
  split at h2
  ·rename_i ys hys
   obtain ⟨h3,h4⟩:=bW.1 h2
   obtain ⟨h5,h6⟩:=bW.1 h4
   exact ⟨_,fin (by simp only [mn,hr,hys,h3,h5]),h6⟩
  ·rename_i hys
   obtain ⟨e,h3,h4⟩:=cL h2
   exact ⟨e,fin (by simp only [mn,hr,hys,h3]),h4⟩
 ·rename_i el sz n get eG hr
  obtain ⟨e,h3,h4⟩:=FW h2
  exact ⟨e,fin (by simp only [mn,hr,h3]),h4⟩
 ·obtain ⟨e,h3,h4⟩:=cL h2
  exact ⟨e,fin h3,h4⟩
theorem Ni {b:Nat} {t:Nat} {l c:Operand} {k:cF→Prop} (h:Mb T b s t l c k):∃ e,mB T b s t l c=some e∧k e:=by
 unfold Mb at h
 split at h
 case h_2=>exact h.elim
 rename_i rP
 split at h
 case h_2=>exact h.elim
 rename_i hy
 split at h
 case h_2=>exact h.elim
 rename_i hz
 split at h
 case h_2=>exact h.elim
 rename_i hl hc
 split at h
 case h_2=>exact h.elim
 rename_i his
 obtain ⟨h1,h2⟩:=bW.1 h
 obtain ⟨h3,h4⟩:=bW.1 h2
 obtain ⟨h5,h6⟩:=bW.1 h4
 exact ⟨_,by simp only [mB,rP,hy,hz,hl,hc,his,h1,h3,h5],h6⟩
theorem NZ {el sz n':Nat} {get':Nat→Nat→I} {bytes b:Nat} {rs:List ah} {c:C} {k:cF→Prop} (h:ME el sz n' get' bytes b rs c k):∃ e,qx el sz n' get' bytes b rs c=some e∧k e:=by
 unfold ME at h
 split at h
 ·obtain ⟨h1,h2⟩:=bW.1 h
  exact ⟨_,by simp only [qx,h1],h2⟩
 ·split at h
  case h_2=>exact h.elim
  rename_i hr
  obtain ⟨h1,h2⟩:=bW.1 h
  obtain ⟨h3,h4⟩:=bW.1 h2
  obtain ⟨h5,h6⟩:=bW.1 h4
  exact ⟨_,by simp only [qx,hr,h1,h3,h5],h6⟩
 ·exact h.elim
theorem NT {sz:Nat} {rs:List ah} {c:C} {k:Nat×(Nat→Nat→I)→Prop} {K:Prop} (h:Pg sz rs c k K):(∃ x,sQ sz rs c=some x∧k x)∨(sQ sz rs c=none∧K):=by
 have fin:(match sQ sz rs c with
  | some x=>k x
  | none=>K)→(∃ x,sQ sz rs c=some x∧k x)∨(sQ sz rs c=none∧K):=fun q=>by
  split at q
  ·rename_i x hx; exact .inl ⟨x,hx,q⟩
  ·rename_i hx; exact .inr ⟨hx,q⟩
 unfold Pg at h
 split at h
 ·split at h
  ·rename_i hr
   obtain ⟨h1,h2⟩:=bW.1 h
   obtain ⟨h3,h4⟩:=bW.1 h2
   exact .inl ⟨_,by simp only [sQ,hr,h1,h3],h4⟩
  ·exact fin h
 ·exact fin h
theorem Mf {el b:Nat} {rs:List ah} {c src:C} {k:cF→Prop} (h:OE T el b rs c src k):∃ e,pj T el b rs (some c) (some src)=some e∧k e:=by
 unfold OE at h
 split at h
 ·split at h
  ·rename_i hr
   split at h
   case h_2=>exact h.elim
   rename_i ty bQ
   unfold US at h
   split at h
   case h_2=>exact h.elim
   rename_i hs
   obtain ⟨h1,h2⟩:=bW.1 h
   obtain ⟨h3,h4⟩:=bW.1 h2
   obtain ⟨h5,h6⟩:=bW.1 h4
   obtain ⟨h7,h8⟩:=bW.1 h6
   exact ⟨_,by simp only [pj,bQ,hs,h1,C3,hr,h3,h5,h7,Bool.and_self],h8⟩
  ·exact cL h
 ·exact cL h
theorem Ta {el b:Nat} {x src:Option C} {k:cF→Prop} (h:V8 T el b s.rs x src k):∃ e,(match pX T el b s.rs x src with
   | some e=>e
   | none=>pj T el b s.rs x src)=some e∧k e:=by
 unfold V8 at h
 split at h
 case h_2=>exact h.elim
 rename_i c src
 split at h
 ·rename_i hg
  split at h
  case h_2=>exact h.elim
  rename_i ty bQ
  simp only [pX,hg,bQ]
  unfold Ur at h
  rcases NT h with ⟨x,h1,h2⟩|⟨h1,h2⟩
  ·obtain ⟨h3,h4⟩:=bW.1 h2
   obtain ⟨e,h5,h6⟩:=NZ h4
   refine ⟨e,?_,h6⟩
   simp only [Bb,h1,h3]
   exact h5
  ·obtain ⟨e,h3,h4⟩:=cL h2
   exact ⟨e,by simp only [Bb,h1,h3],h4⟩
 ·rename_i hg
  simp only [pX,hg]
  exact Mf h
theorem Sj {b:Nat} {ts:List TypeId} {xs:List Operand} {k:cF→Prop} (h:VU T b s ts xs k):∃ e,pw T b s ts xs=some e∧k e:=by
 unfold VU at h
 split at h
 case h_2=>exact h.elim
 obtain ⟨h1,h2⟩:=bW.1 h
 split at h2
 case h_2=>exact h2.elim
 rename_i hy
 obtain ⟨e,h3,h4⟩:=Ta h2
 refine ⟨e,?_,h4⟩
 simp only [pw,h1,hy]
 exact h3
theorem CX {dst:Option Tmp} {t:Nat} {x v:Operand} {d:D} {aG:List ah} (h:ij T s dst t x v=some (.all d aG)):False:=by
 unfold ij at h
 split at h
 ·simp at h
 split at h
 case h_2=>simp at h
 split at h
 case h_2=>simp at h
 replace h:=(Bool.au h).2
 split at h
 case h_2=>simp at h
 unfold mn at h
 split at h
 ·split at h
  ·split at h<;>simp at h
  ·simp at h
 ·split at h<;>simp at h
 ·split at h
  ·replace h:=(Bool.au h).2
   replace h:=(Bool.au h).2
   simp at h
  ·obtain ⟨m,hm⟩:=kT h; cases hm
 ·obtain ⟨x,hx⟩:=rR h
  cases hx
 ·simp at h
theorem Hn {b:Nat} {ts:List TypeId} {xs:List Operand} {d:D} {aG:List ah} (h:pw T b s ts xs=some (.all d aG)):False:=by
 unfold pw at h
 split at h
 case h_2=>simp at h
 replace h:=(Bool.au h).2
 split at h
 case h_2=>simp at h
 split at h
 ·rename_i e' he'
  subst h
  unfold pX at he'
  split at he'
  case h_2=>simp at he'
  split at he'
  case h_2=>simp at he'
  split at he'
  case h_2=>simp at he'
  simp only [aq] at he'
  unfold Bb at he'
  split at he'
  ·replace he':=(Bool.au he').2
   unfold qx at he'
   split at he'
   ·replace he':=(Bool.au he').2; simp at he'
   ·split at he'
    ·replace he':=(Bool.au he').2
     replace he':=(Bool.au he').2
     replace he':=(Bool.au he').2
     simp at he'
    ·simp at he'
   ·simp at he'
  ·obtain ⟨m,hm⟩:=kT he'; cases hm
 ·have fin:∀ {el sz k:Nat} {l':List C} {Pk:Nat} {c:C},C3 el sz k l' Pk b s.rs c≠some (.all d aG):=by
   intro el sz k l' Pk c q
   unfold C3 at q
   split at q
   ·split at q
    ·simp at q
    ·replace q:=(Bool.au q).2; simp at q
   ·split at q
    ·replace q:=(Bool.au q).2
     replace q:=(Bool.au q).2
     simp at q
    ·split at q
     ·replace q:=(Bool.au q).2
      replace q:=(Bool.au q).2
      simp at q
     ·simp at q
    ·simp at q
   ·simp at q
  unfold pj at h
  split at h
  case h_2=>simp at h
  split at h
  case h_2=>simp at h
  split at h
  case h_2=>simp at h
  split at h
  case h_2=>simp at h
  split at h
  ·exact fin (Bool.au h).2
  ·exact fin (Bool.au h).2
theorem HL {lo:Lo} {b:Nat} {dst:Option Tmp} {op:Op} {d:D} {aG:List ah} (h1:∀ c,op ≠ .call c) (h2:∀ t x v,op ≠ .store t x v) (h3:∀ t l c,op ≠ .makeSlice t l c) (h:gk T lo hi b s dst op=some (.all d aG)):False:=by
 unfold gk at h
 split at h
 ·simp at h
 ·cases op with
  | call c=>exact h1 c rfl
  | store t x v=>exact h2 t x v rfl
  | makeSlice t l c=>exact h3 t l c rfl
  | box t x=>
    have h:uR b s x=_:=h
    unfold uR at h
    split at h<;>(try split at h)<;>simp at h
  | alloc t=>
    have h:kW T b t=_:=h
    unfold kW at h
    split at h<;>(try split at h)<;>simp at h
  | makeMap t r=>
    have h:kV T b t r=_:=h
    unfold kV at h
    split at h<;>simp at h
  | buildSlice t n ps=>
    have h:LM T b s (sw hi dst) t n ps.toList=_:=h
    unfold LM at h
    split at h
    case h_2=>simp at h
    split at h
    case h_2=>simp at h
    split at h
    case h_2=>simp at h
    split at h
    case h_2=>simp at h
    replace h:=(Bool.au h).2
    rcases jX (sw hi dst) b _ _ n _ with hc|⟨_,_,hc⟩|⟨_,hc⟩<;>rw [hc] at h<;>simp at h
  | mapUpdate t m k v=>
    have h:mQ T s dst t m k v=_:=h
    unfold mQ at h
    split at h
    ·simp at h
    ·replace h:=(Bool.au h).2
     split at h
     case h_2=>simp at h
     split at h<;>simp at h
  | _=>simp [hJ] at h
def Good (X:hX) (rs:List ah) (e:cF):Prop:=∀ d aG,e=.all d aG→Grown X.S rs aG
theorem nj {f:FuncId} {ds:List D} {rs:List ah} (h:cu T P f ds rs (X.F f ds rs).1 (cT rs (X.F f ds rs))):(cH T P X).call f ds rs=(ku X).call f ds rs:=by
 simp [cH,ku,h]
theorem Km {r:Nat} {ds:List D} {rs:List ah} (h:ti T P r ds rs (X.FY r ds rs).1 (cT rs (X.FY r ds rs))):(cH T P X).Np r ds rs=(ku X).Np r ds rs:=by
 simp [cH,ku,h]
theorem Nj {rs:List ah} {g:FuncId} {ds is:List D} (hr:dG rs ds=some is) (hk:cu T P g is [] (X.F g is []).1 (cT [] (X.F g is []))):yP (cH T P X) rs g ds=yP (ku X) rs g ds:=by
 simp only [yP,hr,nj hk]
theorem L6 {rs:List ah} {g:FuncId} {ds is:List D} {b:Nat} (hr:dG rs ds=some is) (hk:cu T P g is [] (X.F g is []).1 (cT [] (X.F g is []))):yz (cH T P X) rs g ds b=yz (ku X) rs g ds b:=by
 simp only [yz,hr,nj hk]
theorem qR {rs:List ah} {ds:List D} {e e':cF} (h:jQ rs ds e=some e') (he:∀ d aG,e ≠ .all d aG):Good X rs e':=by
 intro d aG q
 subst q
 rcases fh h with ⟨l,hl⟩|⟨hl,_⟩
 ·cases hl
 ·exact (he _ _ hl.symm).elim
theorem EW {lo:Lo} {rs:List ah} {g:FuncId} {ds:List D} {e:cF} (h:ie lo rs g ds=some e):Good X rs e:=by
 unfold ie at h
 split at h
 case h_2=>simp at h
 rename_i d hd
 cases hp:iG d with
 | true=>rw [hp] at h; simp only [aq] at h; subst h; intro _ _ q; cases q
 | false=>
   rw [hp] at h
   obtain ⟨_,h⟩:=Bool.au (show (Bool.rec none (jQ rs ds (.val d)) (kr d):Option cF)=some e from h)
   exact qR h fun _ _ q=>by cases q
theorem Ek {lo:Lo} {rs:List ah} {g:FuncId} {ds:List D} {b:Nat} {e:cF} (h:iD lo rs g ds b=some e):Good X rs e:=by
 unfold iD at h
 split at h
 ·simp only [aq] at h; subst h; intro _ _ q; cases q
 ·revert h
  generalize fB _=p
  intro h
  cases p with
  | true=>simp only [aq] at h; subst h; intro _ _ q; cases q
  | false=>exact qR h fun _ _ q=>by cases q
 ·exact qR h fun _ _ q=>by cases q
 ·simp at h
theorem zd {rs:List ah} {g:FuncId} {ds:List D} {k:cF→Prop} (h:Bi T P X rs g ds k):∃ e,ie (cH T P X) rs g ds=some e∧Good X rs e∧k e:=by
 unfold Bi at h
 split at h
 case h_2=>exact h.elim
 rename_i is hr
 obtain ⟨hk,h⟩:=h
 obtain ⟨e,h1,h2⟩:=cL h
 refine ⟨e,?_,EW h1,h2⟩
 rw [← h1]
 simp only [ie,Nj hr hk]
theorem Ft {rs:List ah} {g:FuncId} {ds:List D} {k:cF→Prop} (h:Pt T P X rs g ds k):∃ e,tn (cH T P X) rs g ds=some e∧Good X rs e∧k e:=by
 obtain ⟨hk,h⟩:=h
 obtain ⟨h1,h2⟩:=bW.1 h
 refine ⟨_,by simp only [tn,nj hk,ku],?_,h2⟩
 intro d aG q
 simp only [cF.all.injEq] at q
 exact ⟨_,_,h1,q.2.symm⟩
theorem R7 {rs:List ah} {r:Nat} {ds:List D} {k:cF→Prop} (h:aa7 T P X rs r ds k):∃ e,Ak (cH T P X) rs r ds=some e∧Good X rs e∧k e:=by
 obtain ⟨hk,h⟩:=h
 obtain ⟨h1,h2⟩:=bW.1 h
 refine ⟨_,by simp only [Ak,Km hk,ku],?_,h2⟩
 intro d aG q
 simp only [cF.all.injEq] at q
 exact ⟨_,_,h1,q.2.symm⟩
theorem K6 {rs:List ah} {b:Nat} {g:FuncId} {ds:List D} {k:cF→Prop} (h:HQ T P X hi rs b g ds k):∃ e,oi (cH T P X) hi rs b g ds=some e∧Good X rs e∧k e:=by
 unfold HQ at h
 unfold oi
 split at h
 ·rename_i hm
  simp only [hm]
  exact zd h
 ·rename_i hm
  simp only [hm]
  exact Ft h
 ·rename_i hm
  simp only [hm]
  split at h
  case h_2=>exact h.elim
  rename_i is hr
  obtain ⟨hk,h⟩:=h
  obtain ⟨e,h1,h2⟩:=cL h
  exact ⟨e,by rw [← h1]; simp only [iD,L6 hr hk],Ek h1,h2⟩
 ·rename_i hm
  simp only [hm]
  unfold ab2 at h
  split at h
  case h_2=>exact h.elim
  rename_i x hx
  obtain ⟨h2,h3⟩:=h
  obtain ⟨h4,h5⟩:=bW.1 h3
  refine ⟨.wr (some x.1) [(x.2.1,x.2.2)],?_,(by intro d aG q; cases q),h5⟩
  unfold Qx cH
  simp only [hx,if_pos h2,h4]
 ·rename_i hm
  simp only [hm]
  split at h
  case h_2=>exact h.elim
  rename_i is hr
  obtain ⟨hk,h⟩:=h
  obtain ⟨e,h1,h2⟩:=cL h
  refine ⟨e,by rw [← h1]; simp only [yN,hr,nj hk],?_,h2⟩
  obtain ⟨is',cs,ob,L,_,_,_,_,rfl⟩:=kD h1
  intro d aG q; cases q
 ·rename_i h0 h1 h2 h4 h5
  split
  ·exact absurd (by assumption) h0
  ·exact absurd (by assumption) h1
  ·exact absurd (by assumption) h2
  ·exact absurd (by assumption) h4
  ·exact absurd (by assumption) h5
  ·cases hp:fH ds with
   | true=>
     rw [hp] at h
     exact zd h
   | false=>
     rw [hp] at h
     exact Ft h
theorem Lt {b:Nat} {f:Operand} {xs:List Operand} {k:cF→Prop} (h:GS T P X hi b s f xs k):∃ e,mo (cH T P X) hi b s f xs=some e∧Good X s.rs e∧k e:=by
 unfold GS at h
 unfold mo
 split at h
 case h_2=>exact h.elim
 rename_i c ds hc hd
 simp only [hc,hd]
 split at h
 ·exact R7 h
 ·rename_i hy
  split at h
  case h_2=>exact h.elim
  rename_i g eJ hg
  obtain ⟨e,h1,h2⟩:=K6 h
  refine ⟨e,?_,h2⟩
  cases c<;>first|(simp only [hg]; exact h1)|exact absurd rfl (hy _)
theorem L8 {b:Nat} {c:Call} {dst:Option Tmp} {k:cF→Prop} (h:Na T P X hi b s c k):∃ e,gk T (cH T P X) hi b s dst (.call c)=some e∧Good X s.rs e∧k e:=by
 unfold Na at h
 unfold gk
 split at h
 ·rename_i d hd
  have hl:fL T s (.call c)=some d:=hd
  rw [hl]
  exact ⟨_,rfl,(fun _ _ q=>by cases q),h⟩
 ·rename_i hd
  have hl:fL T s (.call c)=none:=hd
  rw [hl]
  show ∃ e,gI T (cH T P X) hi b s c=some e∧Good X s.rs e∧k e
  unfold gI
  split at h
  ·rename_i hc
   simp only [hc]
   obtain ⟨e,h1,h2⟩:=Sj h
   refine ⟨e,h1,fun d aG q=>?_,h2⟩
   subst q
   have h3:gk T (cH T P X) hi b s dst (.call c)=some (.all d aG):=by
    unfold gk; rw [hl]; show gI T (cH T P X) hi b s c=_; unfold gI; simp only [hc]; exact h1
   exact (Hn h1).elim
  ·rename_i hc
   simp only [hc]
   exact Lt h
  ·exact h.elim
theorem AF {b:Nat} {dst:Option Tmp} {op:Op} {k:cF→Prop} (h:N8 T P X hi b s dst op k):∃ e,gk T (cH T P X) hi b s dst op=some e∧Good X s.rs e∧k e:=by
 have gv:∀ d:D,Good X s.rs (.val d):=fun d _ _ q=>by cases q
 unfold N8 at h
 split at h
 ·rename_i t x i
  obtain ⟨d,h1,h2⟩:=KR h
  have hl:fL T s (.indexAddr t x i)=some d:=h1
  exact ⟨_,by unfold gk; rw [hl],gv _,h2⟩
 ·rename_i c x y
  obtain ⟨d,h1,h2⟩:=Nz h
  have hl:fL T s (.pick c x y)=some d:=h1
  exact ⟨_,by unfold gk; rw [hl],gv _,h2⟩
 ·rename_i t x lo h0 mx
  obtain ⟨d,h1,h2⟩:=Kk h
  have hl:fL T s (.slice t x lo h0 mx)=some d:=h1
  exact ⟨_,by unfold gk; rw [hl],gv _,h2⟩
 ·rename_i t x
  obtain ⟨d,h1,h2⟩:=L9 h
  have hl:fL T s (.load t x)=some d:=h1
  exact ⟨_,by unfold gk; rw [hl],gv _,h2⟩
 ·rename_i o t x y t2
  obtain ⟨d,h1,h2⟩:=Rw h
  have hl:fL T s (.binOp o t x y t2)=some d:=h1
  exact ⟨_,by unfold gk; rw [hl],gv _,h2⟩
 ·rename_i t x v
  obtain ⟨e,h1,h2⟩:=Ln (lo:=cH T P X) (hi:=hi) (b:=b) h
  exact ⟨e,h1,fun d aG q=>(CX (q▸h1)).elim,h2⟩
 ·rename_i t l c
  obtain ⟨e,h1,h2⟩:=Ni h
  refine ⟨e,h1,fun d aG q=>?_,h2⟩
  subst q
  unfold mB at h1
  repeat (first|(split at h1)|(replace h1:=(Bool.au h1).2))
  all_goals simp at h1
 ·exact L8 h
 ·rename_i op0 n1 n2 n3 n4 n5 n6 n7 n8
  obtain ⟨e,h1,h2⟩:=cL h
  have hw:hJ T (cH T P X) hi b s dst op=hJ T (ku X) hi b s dst op:=by
   cases op<;>first|(simp only [hJ]; done)|exact (n8 _ rfl).elim
  refine ⟨e,?_,fun d aG q=>?_,h2⟩
  ·rw [← h1]
   unfold gk
   rw [hw]
  ·subst q
   exact (HL (fun c q=>n8 c q) (fun t x v q=>n6 t x v q) (fun t l c q=>n7 t l c q) h1).elim
theorem wX {t:Tmp} {b:Bool}:∀ {sl:aN},fc sl t=some (bool b)→Oh t b sl=sl
 | [],h=>by simp [fc] at h
 | x::l,h=>by
   have h:(Bool.rec (fc l t) (some x.2.1) (Nat.beq x.1 t):Option D)=some (bool b):=h
   show (Bool.rec (x::Oh t b l) ((x.1,bool b,x.2.2)::l) (Nat.beq x.1 t):aN)=x::l
   cases hb:Nat.beq x.1 t with
   | true=>
     rw [hb] at h
     simp only [aq] at h
     rw [← h]
   | false=>
     rw [hb] at h
     simp only
     rw [wX h]
theorem jC {t:Tmp} {b:Bool} {s:VS} (h:fc s.sl t=some (bool b)):uw t b s=s:=by
 unfold uw
 rw [wX h]
theorem LU {s:VS} {c:Operand} {p:Bool} {A B:VS→Prop} (hp:ju (cA s.sl c)=some p) (h:I7 s c p A B):(p=true∧A s)∨(p=false∧B s):=by
 unfold I7 at h
 split at h
 ·rcases xQ h with ⟨rfl,h⟩|⟨rfl,h⟩
  ·rw [jC (fi hp)] at h; exact .inl ⟨rfl,h⟩
  ·rw [jC (fi hp)] at h; exact .inr ⟨rfl,h⟩
 ·exact xQ h
theorem Dc {ops:List Oper} {s:VS} {g:Option (Nat×Bool)} {A B:VS→Prop} (h:IJ ops s g A B):(mA ops s.sl g=some true∧A s)∨(mA ops s.sl g=some false∧B s):=by
 unfold IJ at h
 unfold mA
 split at h
 ·exact .inl ⟨rfl,h⟩
 ·rename_i j want
  split at h
  case h_2=>exact h.elim
  rename_i p hp
  split at h
  case h_2=>exact h.elim
  rename_i t ht
  simp only [hp,ht]
  split at h
  ·rename_i hl
   exact .inr ⟨by rw [hl]; rfl,h⟩
  ·rename_i d hl
   split at h
   case h_2=>exact h.elim
   rename_i x hx
   have hw:IV (fc s.sl t) want=some (K9 x want):=by
    unfold IV
    split
    ·exact absurd (by assumption) hl
    ·rw [hx]
   rw [hw]
   have X4:=fi hx
   cases want with
   | true=>
     rcases xQ (b:=x) h with ⟨rfl,h⟩|⟨rfl,h⟩
     ·exact .inl ⟨rfl,by rw [jC X4] at h; exact h⟩
     ·exact .inr ⟨rfl,by rw [jC X4] at h; exact h⟩
   | false=>
     rcases xQ (b:=x) h with ⟨rfl,h⟩|⟨rfl,h⟩
     ·exact .inr ⟨rfl,by rw [jC X4] at h; exact h⟩
     ·exact .inl ⟨rfl,by rw [jC X4] at h; exact h⟩
theorem EJ {dst:Option Tmp} {k:VS→Prop} {again:List Nat→Prop} {e:cF} (h:I4 N s dst k again e):(∃ l,e=.cX l∧again l)∨((∀ l,e ≠ .cX l)∧∃ s',qc N s dst e=some s'∧k s'):=by
 unfold I4 at h
 split at h
 ·exact .inl ⟨_,rfl,h⟩
 ·rename_i hn
  exact .inr ⟨hn,cL h⟩
theorem Ol {dst:Option Tmp} {op:Op} {k:VS→Prop} (h:P3 T P X hi N s dst op k):∃ s',Dw T (cH T P X) hi N s dst op=some s'∧k s':=by
 unfold P3 at h
 obtain ⟨e,h1,_,h2⟩:=AF h
 unfold Dw
 rw [h1]
 rcases EJ h2 with ⟨l,rfl,h2⟩|⟨hn,s',h2,h3⟩
 ·obtain ⟨s1,h3,h4⟩:=cL h2
  obtain ⟨e1,h5,_,h6⟩:=AF h4
  simp only [h3,M6,h5]
  rcases EJ h6 with ⟨l,rfl,h7⟩|⟨_,s',h7,h8⟩
  ·exact h7.elim
  ·exact ⟨s',h7,h8⟩
 ·refine ⟨s',?_,h3⟩
  cases e<;>first|exact h2|exact absurd rfl (hn _)
theorem VM {ops:List Oper} {o:Oper} {k:VS→Prop} (h:opW T P X hi N ops s o k):∃ s',XZ T (cH T P X) hi N ops s o=some s'∧k s':=by
 unfold opW at h
 unfold XZ
 rcases Dc h with ⟨h1,h2⟩|⟨h1,h2⟩
 ·rw [h1]; exact Ol h2
 ·rw [h1]; exact cL h2
theorem JE {ops:List Oper}:∀ (l:List Oper) {s:VS} {k:VS→Prop},Wo T P X hi N ops l s k→∃ s',K2 T (cH T P X) hi N ops l s=some s'∧k s'
 | [],s,k,h=>⟨s,rfl,h⟩
 | o::l,s,k,h=>by
   have h:opW T P X hi N ops s o (fun s'=>Wo T P X hi N ops l s' k):=h
   obtain ⟨s1,h1,h2⟩:=VM h
   obtain ⟨s2,h3,h4⟩:=JE l h2
   refine ⟨s2,?_,h4⟩
   show (match XZ T (cH T P X) hi N ops s o with
    | some s'=>K2 T (cH T P X) hi N ops l s'
    | none=>none)=some s2
   rw [h1]
   exact h3
theorem Dx {cJ:List Nat} {i b:Nat} {ops:List Oper} {o:Oper} {k:VS→NY→Prop} (h:evalW T P X hi cJ i b ops s o k):∃ u,lq T (cH T P X) hi cJ i b ops s o=some u∧k s u:=by
 unfold evalW at h
 unfold lq
 rcases Dc h with ⟨h1,h2⟩|⟨h1,h2⟩
 ·rw [h1]
  obtain ⟨e,h3,h4,h5⟩:=AF h2
  simp only [h3]
  unfold af5 at h5
  obtain ⟨u,h6,h7⟩:=cL h5
  cases e with
  | val d=>
    simp only [sb,aq] at h6 ⊢
    subst h6
    exact ⟨_,rfl,h7⟩
  | wr d ws=>
    simp only [sb,aq] at h6 ⊢
    subst h6
    exact ⟨_,rfl,h7⟩
  | cX l=>
    simp only [sb,aq] at h6 ⊢
    subst h6
    exact ⟨_,rfl,h7⟩
  | all d aG=>
    simp only [sb] at h6 ⊢
    cases hb:E9 cJ i with
    | true=>
      rw [hb] at h6
      simp only [aq] at h6 ⊢
      subst h6
      exact ⟨_,rfl,h7⟩
    | false=>
      rw [hb] at h6
      have h6:KY (ku X) o.dst d s.rs aG=some u:=h6
      show ∃ u,KY (cH T P X) o.dst d s.rs aG=some u∧k s u
      unfold KY at h6 ⊢
      simp only [ku] at h6
      obtain ⟨h8,h9⟩:=Bool.au h6
      simp only [aq] at h9
      subst h9
      obtain ⟨nN,uP⟩:=bW.1 h7
      have hd:(cH T P X).diff s.rs aG=some (kg X.S aG):=by
       simp only [cH]
       rw [if_pos ⟨h4 d aG rfl,nN⟩]
      simp only [hd,h8]
      exact ⟨_,rfl,uP⟩
 ·rw [h1]; exact ⟨_,rfl,h2⟩
theorem zU {cJ:List Nat} {ops:List Oper}:∀ (l:List Oper) {k b:Nat} {W:List (Nat×List Nat)} {s:VS} {q:Cb→Prop},Bk T P X hi N cJ ops l k b W s q→∃ r,l4 T (cH T P X) hi N cJ ops l k b W s=some r∧q r
 | [],k,b,W,s,q,h=>⟨_,rfl,h⟩
 | o::l,k,b,W,s,q,h=>by
   have h:evalW T P X hi cJ k b ops s o (fun s u=>match u with
    | .ok u=>nd (C4 N u.dst u.val) (Bk T P X hi N cJ ops l (k+1) (b+eH o.op) (Eb k u W) (u.on s) q)
    | .cX c=>q (.cX c)):=h
   obtain ⟨u,h1,h2⟩:=Dx h
   have hf:l4 T (cH T P X) hi N cJ ops (o::l) k b W s=(match lq T (cH T P X) hi cJ k b ops s o with
    | some (.ok u)=>Bool.rec none (l4 T (cH T P X) hi N cJ ops l (k+1) (b+eH o.op) (Eb k u W) (u.on s)) (C4 N u.dst u.val)
    | some (.cX c)=>some (.cX c)
    | none=>none):=rfl
   rw [hf,h1]
   cases u with
   | cX c=>exact ⟨_,rfl,h2⟩
   | ok u=>
     obtain ⟨h3,h4⟩:=bW.1 h2
     obtain ⟨r,h5,h6⟩:=zU l h4
     refine ⟨r,?_,h6⟩
     simp only [h3]
     exact h5
theorem vW {ops:List Oper} {cJ:List Nat} {W:List (Nat×List Nat)}:∀ (l:List Oper) {ms:List Nat} {i b:Nat} {s:VS} {q:VS→Prop},Bx T P X hi N ops cJ W l ms i b s q→∃ r,kA T (cH T P X) hi N ops cJ W l ms i b s=some r∧q r
 | [],ms,i,b,s,q,h=>⟨_,rfl,h⟩
 | o::l,ms,i,b,s,q,h=>by
   cases ms with
   | nil=>exact (show False from h).elim
   | cons m ms=>
     have h:evalW T P X hi cJ i b ops (Rn (eL cJ i m W) s) o (fun s1 u=>match u with
      | .ok u=>nd (C4 N u.dst u.val&&(CT (u.ws.map (·.1)) (nt i W)&&(nz (u.ws.map (·.1)) (eL cJ i m W)&&Qp u.ex (eL cJ i m W)))) (Bx T P X hi N ops cJ W l ms (i+1) (b+eH o.op) (u.on { s with sl:=s1.sl }) q)
      | .cX _=>False):=h
     obtain ⟨u,h1,h2⟩:=Dx h
     have Fx:(Rn (eL cJ i m W) s).sl=s.sl:=by cases eL cJ i m W<;>rfl
     simp only [Fx] at h2
     have hf:kA T (cH T P X) hi N ops cJ W (o::l) (m::ms) i b s=(match lq T (cH T P X) hi cJ i b ops (Rn (eL cJ i m W) s) o with
      | some (.ok u)=>Bool.rec none (kA T (cH T P X) hi N ops cJ W l ms (i+1) (b+eH o.op) (u.on s)) (C4 N u.dst u.val&&(CT (u.ws.map (·.1)) (nt i W)&&(nz (u.ws.map (·.1)) (eL cJ i m W)&&Qp u.ex (eL cJ i m W))))
      | _=>none):=rfl
     rw [hf,h1]
     cases u with
     | cX c=>exact h2.elim
     | ok u=>
       obtain ⟨h3,h4⟩:=bW.1 h2
       obtain ⟨r,h5,h6⟩:=vW l h4
       refine ⟨r,?_,h6⟩
       simp only [h3]
       exact h5
theorem z7 {ops:List Oper}:∀ (n:Nat) {s:VS} {k:VS→Prop},HU T P X hi N ops n s k→∃ s',wV T (cH T P X) hi N ops n s=some s'∧k s'
 | 0,s,k,h=>(show False from h).elim
 | n+1,s,k,h=>by
   have h:Bk T P X hi N (jw ops []) ops ops 0 s.rs.length [] (gh ops s) (fun r=>match r with
    | .cX l=>cV (gW l s) fun s'=>HU T P X hi N ops n s' k
    | .ok W s'=>C1 T P X hi N ops (gh ops s) s' s.rs.length W k):=h
   obtain ⟨r,h1,h2⟩:=zU _ h
   have hf:wV T (cH T P X) hi N ops (n+1) s=(match l4 T (cH T P X) hi N (jw ops []) ops ops 0 s.rs.length [] (gh ops s) with
    | some (.cX l)=>match gW l s with
      | some s'=>wV T (cH T P X) hi N ops n s'
      | none=>none
    | some (.ok W s')=>yZ T (cH T P X) hi N ops (gh ops s) s' s.rs.length W
    | none=>none):=rfl
   rw [hf,h1]
   cases r with
   | cX l=>
     obtain ⟨s1,h3,h4⟩:=cL h2
     simp only [h3]
     exact z7 n h4
   | ok W s' =>
     have h2:C1 T P X hi N ops (gh ops s) s' s.rs.length W k:=h2
     show ∃ s2,yZ T (cH T P X) hi N ops (gh ops s) s' s.rs.length W=some s2∧k s2
     unfold C1 at h2
     unfold yZ
     split at h2
     ·exact ⟨_,rfl,h2⟩
     ·rename_i hW
      split
      ·exact absurd rfl hW
      ·exact vW _ h2
theorem Ha {f:FuncId} {ro:Option Nat} {id:Nat} {ops:List Oper} {draw:Bool} {k:VS→Prop} (h:vp T P X hi N f ro id ops draw s k):∃ s',regionF T (cH T P X) hi N f ro id ops draw s=some s'∧k s':=by
 unfold vp at h
 cases draw with
 | false=>
   obtain ⟨s1,h1,h2⟩:=JE _ h
   refine ⟨_,?_,h2⟩
   show (match K2 T (cH T P X) hi N ops ops s with
    | some s'=>some (rE hi f id s')
    | none=>none)=_
   rw [h1]
 | true=>
   simp only at h
   cases ro with
   | some r=>exact (show False from h).elim
   | none=>
   simp only at h
   split at h
   case h_2=>exact h.elim
   rename_i om
   obtain ⟨s1,h1,h2⟩:=z7 _ h
   refine ⟨_,?_,h2⟩
   show (match sH ops with
    | true=>match wV T (cH T P X) hi N ops 8 s with
      | some s'=>some (rE hi f id s')
      | none=>none
    | false=>none)=_
   rw [om,h1]
end
end
end Go.V
