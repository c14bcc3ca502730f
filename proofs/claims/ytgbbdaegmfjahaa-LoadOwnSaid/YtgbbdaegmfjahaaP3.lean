/- Operations that turn memory: what they read, which roots they write. -/
import Derived.Test.YtgbbdaegmfjahaaP2
import Derived.OrdersIn
import Derived.RangeFuncNested
import Derived.RangeFuncLeaves
set_option linter.unusedSimpArgs false
set_option linter.unusedVariables false
namespace Go.V
noncomputable section
section
variable {T:dL} {lo:Lo} {hi:Hint} {sl gb:aK} {rs aJ:List ag} {df Ed:List Nat}
theorem jr (hr:pH rs aJ) {q:Nat} {rec PJ:List C->Option (List I)} (mm:∀ l r,rec l=some r->PJ l=some r) {x:I} (e:kc rs q rec=some x):kc aJ q PJ=some x:=by
 unfold kc at e ⊢
 split at e
 case h_2=>simp at e
 rename_i h1
 split at e
 case h_2=>simp at e
 rename_i h2
 simp only [hr.nth h1 trivial,mm _ _ h2]
 exact e
theorem Ab (hr:pH rs aJ) {rec PJ:List C->Option (List I)} (mm:∀ l r,rec l=some r->PJ l=some r) {c:C} {x:I} (e:nB rs rec c=some x):nB aJ PJ c=some x:=by
 unfold nB at e ⊢
 split at e
 .exact e
 .exact jr hr mm e
 .split at e
  .rename_i h1; rw [hr.nth h1 trivial]; exact e
  .rename_i h1
   rw [hr.nth h1 trivial]
   split at e
   case h_2=>simp at e
   rename_i h2
   split at e
   case h_2=>simp at e
   rename_i h3
   simp only [h2,mm _ _ h3]
   exact e
  .rename_i h1; rw [hr.nth h1 trivial]; exact e
  .simp at e
 .split at e
  .rename_i h1; rw [hr.nth h1 trivial]; exact e
  .simp at e
 .exact e
 .split at e
  case h_2=>simp at e
  rename_i h1
  simp only [jr hr mm h1]
  exact e
 .split at e
  case h_2=>simp at e
  rename_i h1 h2
  simp only [jr hr mm h1,jr hr mm h2]
  exact e
 .split at e
  case h_2=>simp at e
  rename_i h1 h2 h3
  simp only [jr hr mm h1,jr hr mm h2,jr hr mm h3]
  exact e
 .simp at e
theorem Dq {α β:Type} {f g:α->Option β} (h:∀ x y,f x=some y->g x=some y):∀ {l:List α} {r:List β},rz f l=some r->rz g l=some r
 | [],r,e=>e
 | x::l,r,e=>by
   simp only [rz] at e ⊢
   split at e
   case h_2=>simp at e
   rename_i h1 h2
   simp only [h _ _ h1,Dq h h2]
   exact e
theorem sJ (hr:pH rs aJ):∀ (k:Nat) (l:List C) (r:List I),reify k rs l=some r->reify k aJ l=some r
 | 0,l,r,e=>Dq (λx y h=>Ab hr (λ_ _ h=>h) h) e
 | k+1,l,r,e=>Dq (λx y h=>Ab hr (sJ hr k) h) e
theorem Af (hr:pH rs aJ):∀ {l r:List (Bool×List C)},dF.reifyT rs l=some r->dF.reifyT aJ l=some r
 | [],r,e=>e
 | (b,l)::m,r,e=>by
   simp only [dF.reifyT] at e ⊢
   split at e
   case h_2=>simp at e
   rename_i h1 h2
   simp only [sJ hr _ _ _ h1,Af hr h2]
   exact e
theorem Lb (hr:pH rs aJ) {d d':D} (e:dF rs d=some d'):dF aJ d=some d':=by
 cases d with
 | c x=>
   simp only [dF] at e ⊢
   split at e
   case h_2=>simp at e
   rename_i h1
   simp only [sJ hr _ _ _ h1]
   exact e
 | a l=>
   simp only [dF] at e ⊢
   split at e
   case h_2=>simp at e
   rename_i h1
   simp only [sJ hr _ _ _ h1]
   exact e
 | t l=>
   simp only [dF] at e ⊢
   split at e
   case h_2=>simp at e
   rename_i h1
   simp only [Af hr h1]
   exact e
theorem nD (hr:pH rs aJ):∀ {l r:List D},dn rs l=some r->dn aJ l=some r
 | [],r,e=>e
 | d::l,r,e=>by
   simp only [dn] at e ⊢
   split at e
   case h_2=>simp at e
   rename_i h1 h2
   simp only [Lb hr h1,nD hr h2]
   exact e
theorem qB {rec:List C->Option (List Nat)}:∀ {l:List C},fI l=true->Gn rec rs l=some []
 | [],_=>rfl
 | c::l,h=>by
   cases c with
   | im x=>
     have:=qB (rec:=rec) (l:=l) (by simpa [fI] using h)
     show (match (some []:Option (List Nat)) with
      | some a=>match Gn rec rs l with
        | some b=>some (a++b)
        | none=>none
      | none=>none)=some []
     rw [this]; rfl
   | _=>simp [fI] at h
theorem E8:∀ {ds:List D},vg rs ds=some []->vg aJ ds=some []
 | [],_=>rfl
 | d::ds,h=>by
   have h:(match IH rs d,vg rs ds with
    | some a,some b=>some (a++b)
    | _,_=>none)=some []:=h
   split at h
   case h_2=>simp at h
   rename_i m k hm hk
   simp only [ak,List.append_eq_nil_iff] at h
   obtain ⟨rfl,rfl⟩:=h
   have hd:IH aJ d=some []:=by
    cases d with
    | c x=>exact qB (mX (l:=[x]) hm)
    | a l=>exact qB (mX (l:=l) hm)
    | t l=>simp [IH] at hm
   show (match IH aJ d,vg aJ ds with
    | some a,some b=>some (a++b)
    | _,_=>none)=some []
   rw [hd,E8 hk]; rfl
theorem yT {ds:List D} {e e':cm} (hc:∀ l,e' ≠ .cD l) (h:jk rs ds e=some e'):jk aJ ds e=some e':=by
 rcases eU h with ⟨l,hl⟩|⟨rfl,hs⟩
 .exact (hc l hl).elim
 .unfold jk
  rw [E8 hs]
theorem TA (hr:pH rs aJ) {f:FuncId} {ds:List D} {d:D} (e:zO lo rs f ds=some d):zO lo aJ f ds=some d:=by
 unfold zO at e ⊢
 split at e
 case h_2=>simp at e
 rename_i h1
 simp only [nD hr h1]
 exact e
theorem CX (hr:pH rs aJ) {f:FuncId} {ds:List D} {b:Nat} {d:cm} (e:yC lo rs f ds b=some d):yC lo aJ f ds b=some d:=by
 unfold yC at e ⊢
 split at e
 case h_2=>simp at e
 rename_i h1
 simp only [nD hr h1]
 exact e
theorem Ar (hr:pH rs aJ) {f:FuncId} {ds:List D} {e:cm} (hc:∀ l,e ≠ .cD l) (h:gR lo rs f ds=some e):gR lo aJ f ds=some e:=by
 unfold gR at h ⊢
 split at h
 case h_2=>simp at h
 rename_i d hd
 simp only [TA hr hd]
 cases hp:ir d with
 | true=>rw [hp] at h; exact h
 | false=>
   rw [hp] at h
   cases hq:ki d with
   | true=>rw [hq] at h; exact yT hc h
   | false=>rw [hq] at h; simp at h
theorem LH (hr:pH rs aJ) {f:FuncId} {ds:List D} {b:Nat} {e:cm} (hc:∀ l,e ≠ .cD l) (h:gf lo rs f ds b=some e):gf lo aJ f ds b=some e:=by
 unfold gf at h ⊢
 split at h
 .rename_i ho; rw [CX hr ho]; exact h
 .rename_i ho
  rw [CX hr ho]
  simp only
  revert h
  generalize fe _=p
  intro h
  cases p with
  | true=>exact h
  | false=>exact yT hc h
 .rename_i ho
  rw [CX hr ho]
  exact yT hc h
 .simp at h
theorem VR (hr:pH rs aJ) {f:FuncId} {ds:List D} {b:Nat} {e:cm} (h:zT lo rs f ds b=some e):zT lo aJ f ds b=some e:=by
 obtain ⟨is,cs,oH,L,hp,hi,hc,hm,rfl⟩:=kN h
 simp only [zT,hp,nD hr hi,hc,hm]
theorem HB {b:Nat} {f:FuncId} {ds:List D} {d:Option D} {ws:List (Nat×ag)} (h:zT lo rs f ds b=some (.wr d ws)):∃ x,ws=[(b,x)]:=by
 obtain ⟨is,cs,oH,L,hp,hi,hc,hm,he⟩:=kN h
 simp only [cm.wr.injEq] at he
 exact ⟨_,he.2⟩
def Bq (lo:Lo):Prop:=∀ f ds rs pK r,rs.length=pK.length->(∀ (q:Nat) (x:ag),aV rs q=some x->x.live->aV pK q=some x)->lo.wr f ds rs=some r->lo.wr f ds pK=some r
theorem Zl (hm:Bq lo) (hlen:rs.length=aJ.length) (hr:pH rs aJ) {f:FuncId} {ds:List D} {e:cm} (h:SC lo rs f ds=some e):SC lo aJ f ds=some e:=by
 unfold SC at h ⊢
 split at h
 case h_2=>simp at h
 rename_i d q x hd
 rw [hm _ _ _ _ _ hlen hr hd,<- hlen]
 exact h
theorem M5 (hm:Bq lo) (hlen:rs.length=aJ.length) (hr:pH rs aJ) {b:Nat} {f:FuncId} {ds:List D} {e:cm} (hc:∀ l,e ≠ .cD l) (ha:∀ d r,e=.all d r->rs=aJ) (h:oQ lo hi rs b f ds=some e):oQ lo hi aJ b f ds=some e:=by
 have hE:tO lo rs f ds=some e->tO lo aJ f ds=some e:=λh=>by
  have h0:=h
  unfold tO at h
  split at h
  .simp only [ak] at h
   rw [<- ha _ _ h.symm]; exact h0
  .simp at h
 unfold oQ at h ⊢
 split at h
 .exact Ar hr hc h
 .exact hE h
 .exact LH hr hc h
 .exact Zl hm hlen hr h
 .exact VR hr h
 .cases hp:fk ds with
  | true=>rw [hp] at h; exact Ar hr hc h
  | false=>rw [hp] at h; exact hE h
theorem Vd {r:Nat} {ds:List D} {e:cm} (ha:∀ d r,e=.all d r->rs=aJ) (h:D6 lo rs r ds=some e):D6 lo aJ r ds=some e:=by
 have h0:=h
 unfold D6 at h
 split at h
 .simp only [ak] at h
  rw [<- ha _ _ h.symm]; exact h0
 .simp at h
theorem Vp (hr:pH rs aJ) {c:C} {x:Nat×Nat×List C} (e:xY rs c=some x):xY aJ c=some x:=by
 unfold xY at e ⊢
 split at e
 .exact e
 .exact e
 .split at e
  .rename_i hq; rw [hr _ _ hq trivial]; exact e
  .rename_i hq; rw [hr _ _ hq trivial]; exact e
  .simp at e
 .simp at e
theorem SX (hr:pH rs aJ) {sz:Nat} {c:C} {x:Nat×(Nat->Nat->I)} (e:se sz rs c=some x):se sz aJ c=some x:=by
 unfold se at e ⊢
 split at e
 .exact e
 .exact e
 .split at e
  .rename_i hq; rw [hr _ _ hq trivial]; exact e
  .rename_i hq; rw [hr _ _ hq trivial]; exact e
  .simp at e
 .simp at e
theorem Yc (hr:pH rs aJ) {c src:C} (e:MJ rs c src=true):MJ aJ c src=true:=by
 unfold MJ at e ⊢
 split at e
 .split at e
  .rename_i hq; rw [hr _ _ hq trivial]
  .simp at e
 .split at e
  .rfl
  .split at e
   .rename_i hq; rw [hr _ _ hq trivial]
   .simp at e
  .simp at e
 .simp at e
theorem Tj (hr:pH rs aJ) {el sz k:Nat} {l':Nat->Nat->I} {bytes b:Nat} {c:C} {e:cm} (h:qV el sz k l' bytes b rs c=some e):qV el sz k l' bytes b aJ c=some e:=by
 unfold qV at h ⊢
 split at h
 .exact h
 .split at h
  .rename_i hq; rw [hr _ _ hq trivial]; exact h
  .simp at h
 .simp at h
theorem kV {l:List C} {e:cm} (h:oP rs l=some e):∃ m,e=.cD m:=by
 unfold oP at h
 split at h
 .simp only [ak] at h; exact ⟨_,h.symm⟩
 .simp at h
theorem G2 {b:Nat} {t t':TypeId} {x y:Operand} {e:cm} {s:VS} (h:oR T b s [t,t'] [x,y]=some e):∃ xj gY z0 el,T.ty t=some ⟨xj,gY,z0,.slice el⟩/\Nat.beq t t'=true/\
  ((pX T el b s.rs (dm (cl s.sl x)) (dm (cl s.sl y))=some (some e))∨(pX T el b s.rs (dm (cl s.sl x)) (dm (cl s.sl y))=none/\oW T el b s.rs (dm (cl s.sl x)) (dm (cl s.sl y))=some e)):=by
 obtain ⟨h1,h2⟩:=Bool.au (show (Bool.rec none _ (Nat.beq t t'):Option cm)=some e from h)
 split at h2
 case h_2=>simp at h2
 rename_i hy
 refine ⟨_,_,_,_,hy,h1,?_⟩
 split at h2
 .rename_i h3; subst h2; exact .inl h3
 .rename_i h3; exact .inr ⟨h3,h2⟩
theorem N5 (hr:pH rs aJ) {el sz k:Nat} {l':List C} {bytes b:Nat} {c:C} {e:cm} (h:Eb el sz k l' bytes b rs c=some e):Eb el sz k l' bytes b aJ c=some e:=by
 unfold Eb at h ⊢
 split at h
 .exact h
 .split at h
  .rename_i hq; rw [hr _ _ hq trivial]; exact h
  .rename_i hq; rw [hr _ _ hq trivial]; exact h
  .simp at h
 .simp at h
theorem S3 (hr:pH rs aJ) {el b:Nat} {x src:Option C} {e:cm} (h:oW T el b rs x src=some e):oW T el b aJ x src=some e:=by
 unfold oW at h ⊢
 split at h
 case h_2=>simp at h
 rename_i h1
 split at h
 case h_2=>simp at h
 split at h
 case h_2=>simp at h
 rename_i h3
 split at h
 case h_2=>simp at h
 simp only [Vp hr h3]
 split at h
 .obtain ⟨h5,h6⟩:=Bool.au h
  simp only [h5]
  exact N5 hr h6
 .obtain ⟨h5,h6⟩:=Bool.au h
  simp only [h5]
  exact N5 hr h6
theorem UA (hr:pH rs aJ) {el b:Nat} {x src:Option C} {e:cm} (hc:∀ l,e ≠ .cD l) (h:pX T el b rs x src=some (some e)):pX T el b aJ x src=some (some e):=by
 unfold pX at h ⊢
 split at h
 case h_2=>simp at h
 split at h
 case h_2=>simp at h
 rename_i hg
 simp only [Yc hr hg]
 split at h
 case h_2=>simp at h
 rename_i hy
 simp only [ak] at h ⊢
 unfold DA at h ⊢
 split at h
 .rename_i h1
  obtain ⟨h2,h3⟩:=Bool.au h
  simp only [SX hr h1,h2]
  exact Tj hr h3
 .obtain ⟨m,hm⟩:=kV h
  exact (hc m hm).elim
theorem Zv (hr:pH rs aJ) {el b:Nat} {c src:C} {e:cm} (h:oW T el b rs (some c) (some src)=some e) (hg:MJ rs c src=false):MJ aJ c src=false:=by
 unfold oW at h
 split at h
 case h_2=>simp at h
 simp only at h
 split at h
 case h_2=>simp at h
 rename_i h3
 have hap:∃ sz k l' bytes,Eb el sz k l' bytes b rs c=some e:=by
  split at h
  .exact ⟨_,_,_,_,(Bool.au h).2⟩
  .exact ⟨_,_,_,_,(Bool.au h).2⟩
 obtain ⟨sz,k,l',bytes,hap⟩:=hap
 unfold Eb at hap
 split at hap
 .unfold xY at h3
  split at h3
  .simp [MJ] at hg
  .rfl
  .split at h3
   .rename_i hq; simp only [MJ,hr _ _ hq trivial]
   .rename_i hq; simp [MJ,hq] at hg
   .simp at h3
  .simp at h3
 .split at hap
  .rename_i hq; simp only [MJ,hr _ _ hq trivial]
  .rename_i hq; simp only [MJ,hr _ _ hq trivial]
  .simp at hap
 .simp at hap
theorem UL (hr:pH rs aJ) {b:Nat} {ts:List TypeId} {xs:List Operand} {e:cm} (hc:∀ l,e ≠ .cD l) (h:oR T b ⟨sl,rs,df⟩ ts xs=some e):oR T b ⟨sl,aJ,df⟩ ts xs=some e:=by
 have h0:=h
 unfold oR at h ⊢
 split at h
 case h_2=>simp at h
 rename_i t t' x y
 obtain ⟨xj,gY,z0,el,hy,ht,hcase⟩:=G2 h0
 simp only at hcase
 simp only [ht,hy]
 rcases hcase with hcase|⟨hn,hcase⟩
 .rw [UA hr hc hcase]
 .have za:pX T el b aJ (dm (cl sl x)) (dm (cl sl y))=none:=by
   unfold pX at hn ⊢
   split at hn
   .rename_i c src h1 h2
    rw [h1,h2] at hcase
    split at hn
    .split at hn<;>simp at hn
    .rename_i hg
     simp only [Zv hr hcase hg]
   .rfl
  rw [za]
  exact S3 hr hcase
theorem N6 (hm:Bq lo) (hlen:rs.length=aJ.length) (hr:pH rs aJ) {b:Nat} {dst:Option Tmp} {op:Op} {e:cm} (hc:∀ l,e ≠ .cD l) (ha:∀ d r,e=.all d r->rs=aJ)
  (h:gM T lo hi b ⟨sl,rs,df⟩ dst op=some e):gM T lo hi b ⟨sl,aJ,df⟩ dst op=some e:=by
 cases op with
 | store t x v=>
   have h:gU T ⟨sl,rs,df⟩ dst t x v=some e:=h
   show gU T ⟨sl,aJ,df⟩ dst t x v=some e
   unfold gU at h ⊢
   split at h
   .simp at h
   .split at h
    case h_2=>simp at h
    rename_i h1 h2
    split at h
    case h_2=>simp at h
    rename_i h3
    obtain ⟨h4,h⟩:=Bool.au h
    split at h
    case h_2=>simp at h
    rename_i h5
    simp only at h2 h5 ⊢
    simp only [h1,h2,h3,h4,h5]
    unfold mo at h ⊢
    split at h
    .rename_i hq; rw [hr _ _ hq trivial]; exact h
    .rename_i hq; rw [hr _ _ hq trivial]; exact h
    .rename_i hq
     simp only [hr _ _ hq trivial]
     split at h
     .rename_i hi; try simp only [hi]
      exact h
     .obtain ⟨m,hm⟩:=kV h
      exact (hc m hm).elim
    .rename_i hq; rw [hr _ _ hq trivial]; exact h
    .simp at h
 | mapUpdate t m k v=>
   have h:mB T ⟨sl,rs,df⟩ dst t m k v=some e:=h
   show mB T ⟨sl,aJ,df⟩ dst t m k v=some e
   unfold mB at h ⊢
   split at h
   .simp at h
   .obtain ⟨h4,h⟩:=Bool.au h
    split at h
    case h_2=>simp at h
    rename_i h1 h2 h3
    split at h
    case h_2=>simp at h
    rename_i h5
    simp only at h1 h2 h3 h5 ⊢
    simp only [h1,h2,h3,h4,hr _ _ h5 trivial]
    exact h
 | call c=>
   have h:gG T lo hi b ⟨sl,rs,df⟩ c=some e:=h
   show gG T lo hi b ⟨sl,aJ,df⟩ c=some e
   unfold gG at h ⊢
   split at h
   .exact UL hr hc h
   .unfold ml at h ⊢
    split at h
    case h_2=>simp at h
    rename_i h1 h2
    simp only at h1 h2 ⊢
    simp only [h1,h2]
    split at h
    .exact Vd ha h
    .split at h
     case h_2=>simp at h
     rename_i h3
     try simp only [h3]
     exact M5 hm hlen hr hc ha h
   .simp at h
 | _=>exact h
theorem ID {b:Nat} {s:VS} {dst:Option Tmp} {op:Op} {e:cm} (h:gM T lo hi b s dst op=some e):fh T s op=none:=by
 cases op with
 | call c=>
   have h:gG T lo hi b s c=some e:=h
   show HP T s c=none
   unfold gG at h
   unfold HP
   split at h
   .rename_i hc; rw [hc]; rfl
   .rename_i hc; rw [hc]
   .simp at h
 | _=>first|rfl|simp [gM] at h
theorem If (hm:Bq lo) (hlen:rs.length=aJ.length) (hr:pH rs aJ) {b:Nat} {dst:Option Tmp} {op:Op} (hs:∀ x∈op.operands.toList,cl sl x=cl gb x) {e:cm} (hc:∀ l,e ≠ .cD l) (ha:∀ d r,e=.all d r->rs=aJ)
  (h:fO T lo hi b ⟨sl,rs,df⟩ dst op=some e):fO T lo hi b ⟨gb,aJ,Ed⟩ dst op=some e:=by
 rw [<- ME (df:=df) (Ed:=Ed) hs]
 unfold fO at h ⊢
 split at h
 .rename_i d hd
  rw [O5 hr hd]; exact h
 .have h1:=N6 hm hlen hr hc ha h
  rw [ID h1]
  exact h1
def Shape (b:Nat) (rs:List ag) (ws:List (Nat×ag)):Prop:=
 (∃ x,ws=[(b,x)])∨(∃ q x,ws=[(q,x)]/\q<rs.length)∨(∃ q x y,ws=[(q,x),(b,y)])
theorem lP {α:Type} {l:List α} {q:Nat} {x:α} (h:aV l q=some x):q<l.length:=by
 rw [cd,bp] at h; exact (List.getElem?_eq_some_iff.1 h).1
theorem AH {el sz k:Nat} {l':List C} {bytes b:Nat} {c:C} {d:Option D} {ws:List (Nat×ag)} (h:Eb el sz k l' bytes b rs c=some (.wr d ws)):Shape b rs ws:=by
 unfold Eb at h
 split at h
 .split at h
  .simp at h
  .replace h:=(Bool.au h).2
   simp only [ak,cm.wr.injEq] at h
   exact .inl ⟨_,h.2.symm⟩
 .split at h
  .replace h:=(Bool.au h).2
   replace h:=(Bool.au h).2
   simp only [ak,cm.wr.injEq] at h
   exact .inr (.inr ⟨_,_,_,h.2.symm⟩)
  .split at h
   .replace h:=(Bool.au h).2
    replace h:=(Bool.au h).2
    simp only [ak,cm.wr.injEq] at h
    exact .inr (.inr ⟨_,_,_,h.2.symm⟩)
   .simp at h
  .simp at h
 .simp at h
theorem s8 {el sz n size r i j:Nat} {get:Nat->Nat->O} {et:Option (Nat×List Fc)} {cs:List C} {e:cm} (h:pw el sz n get et size r i j cs=some e):∃ x,e=.wr none [(r,x)]:=by
 unfold pw at h
 split at h
 case h_2=>simp at h
 replace h:=(Bool.au h).2
 replace h:=(Bool.au h).2
 simp only [ak] at h
 exact ⟨_,h.symm⟩
theorem su {el sz n size r i j:Nat} {get:Nat->Nat->O} {et:Option (Nat×List Fc)} {cs:List C} {e:cm} (h:rv el sz n get et size r i j cs=some e):∃ x,e=.wr none [(r,x)]:=by
 unfold rv at h
 split at h
 .exact s8 h
 .rename_i x
  cases hb:Nat.beq i x.1 with
  | false=>rw [hb] at h; exact s8 h
  | true=>
    rw [hb] at h
    have h:(match Ll cs x.2 j with
     | some l=>(Bool.rec none (some (.wr none [(r,.bt el sz n get (some (x.1,l)))])) (Nat.ble (j+size) sz):Option cm)
     | none=>none)=some e:=h
    split at h
    case h_2=>simp at h
    replace h:=(Bool.au h).2
    simp only [ak] at h
    exact ⟨_,h.symm⟩
theorem Ij {el sz k:Nat} {l':Nat->Nat->I} {bytes b:Nat} {c:C} {d:Option D} {ws:List (Nat×ag)} (h:qV el sz k l' bytes b rs c=some (.wr d ws)):Shape b rs ws:=by
 unfold qV at h
 split at h
 .replace h:=(Bool.au h).2
  simp only [ak,cm.wr.injEq] at h
  exact .inl ⟨_,h.2.symm⟩
 .split at h
  .replace h:=(Bool.au h).2
   replace h:=(Bool.au h).2
   replace h:=(Bool.au h).2
   simp only [ak,cm.wr.injEq] at h
   exact .inr (.inr ⟨_,_,_,h.2.symm⟩)
  .simp at h
 .simp at h
theorem w4 {ds:List D} {e:cm} {d:Option D} {ws:List (Nat×ag)} (h:jk rs ds e=some (.wr d ws)):e=.wr d ws:=by
 rcases eU h with ⟨l,hl⟩|⟨h,_⟩
 .cases hl
 .exact h.symm
theorem sY {f:FuncId} {ds:List D} {d:Option D} {ws:List (Nat×ag)} (h:gR lo rs f ds=some (.wr d ws)):False:=by
 unfold gR at h
 split at h
 case h_2=>simp at h
 rename_i d hd
 cases hp:ir d with
 | true=>rw [hp] at h; simp at h
 | false=>
   rw [hp] at h
   have h:=w4 (Bool.au h).2
   cases h
theorem C8 {b:Nat} {f:FuncId} {ds:List D} {d:Option D} {ws:List (Nat×ag)} (h:gf lo rs f ds b=some (.wr d ws)):Shape b rs ws:=by
 unfold gf at h
 split at h
 .simp at h
 .rename_i d1 q el sz n l ho
  rcases mI ho with ⟨is,q',n',pK,pF,cF,l',_,_,_,_,_,hws⟩|⟨is,q',n',pK,pF,cF,l',_,_,_,_,hws⟩
  case inr=>simp at hws
  simp only [List.cons.injEq,bw,and_true] at hws
  obtain ⟨rfl,_⟩:=hws
  revert h
  generalize fe _=p
  intro h
  cases p with
  | true=>simp only [ak,cm.wr.injEq] at h; exact .inl ⟨_,h.2.symm⟩
  | false=>have h:=w4 h; simp only [cm.wr.injEq] at h; exact .inl ⟨_,h.2.symm⟩
 .rename_i d1 q el sz n get ho
  rcases mI ho with ⟨is,q',n',pK,pF,cF,l',_,_,_,_,_,hws⟩|⟨is,q',n',pK,pF,cF,l',_,_,_,_,hws⟩
  case inl=>simp at hws
  simp only [List.cons.injEq,bw,and_true] at hws
  obtain ⟨rfl,_⟩:=hws
  have h:=w4 h
  simp only [cm.wr.injEq] at h
  exact .inl ⟨_,h.2.symm⟩
 .simp at h
theorem xR {f:FuncId} {ds:List D} {d:Option D} {ws:List (Nat×ag)} (h:tO lo rs f ds=some (.wr d ws)):False:=by
 unfold tO at h
 split at h<;>simp at h
theorem yb {b:Nat} {s:VS} {dst:Option Tmp} {op:Op} {d:Option D} {ws:List (Nat×ag)} (h:fO T lo hi b s dst op=some (.wr d ws)):Shape b s.rs ws:=by
 unfold fO at h
 split at h
 .simp at h
 .cases op with
  | box t x=>
    have h:vI b s x=_:=h
    unfold vI at h
    split at h
    .split at h
     .simp only [ak,cm.wr.injEq] at h; exact .inl ⟨_,h.2.symm⟩
     .simp at h
    .simp at h
  | alloc t=>
    have h:lu T b t=_:=h
    unfold lu at h
    split at h
    .split at h
     .simp only [ak,cm.wr.injEq] at h; exact .inl ⟨_,h.2.symm⟩
     .simp at h
    .simp at h
  | store t x v=>
    have h:gU T s dst t x v=_:=h
    unfold gU at h
    split at h
    .simp at h
    .split at h
     case h_2=>simp at h
     split at h
     case h_2=>simp at h
     replace h:=(Bool.au h).2
     split at h
     case h_2=>simp at h
     unfold mo at h
     split at h
     .rename_i hq
      split at h
      .split at h
       .simp only [ak,cm.wr.injEq] at h; exact .inr (.inl ⟨_,_,h.2.symm,lP hq⟩)
       .simp at h
      .simp at h
     .rename_i hq
      split at h
      .simp only [ak,cm.wr.injEq] at h; exact .inr (.inl ⟨_,_,h.2.symm,lP hq⟩)
      .simp at h
     .rename_i hq
      split at h
      .replace h:=(Bool.au h).2
       replace h:=(Bool.au h).2
       simp only [ak,cm.wr.injEq] at h; exact .inr (.inl ⟨_,_,h.2.symm,lP hq⟩)
      .obtain ⟨m,hm⟩:=kV h
       cases hm
     .rename_i hq
      obtain ⟨x,hx⟩:=su h
      simp only [cm.wr.injEq] at hx
      exact .inr (.inl ⟨_,_,hx.2,lP hq⟩)
     .simp at h
  | buildSlice t n ps=>
    have h:MN T b s (rU hi dst) t n ps.toList=_:=h
    unfold MN at h
    split at h
    case h_2=>simp at h
    split at h
    case h_2=>simp at h
    split at h
    case h_2=>simp at h
    split at h
    case h_2=>simp at h
    replace h:=(Bool.au h).2
    rcases jO (rU hi dst) b _ _ n _ with hc|⟨_,_,hc⟩|⟨_,hc⟩
    .rw [hc] at h
     simp only [ak,cm.wr.injEq] at h; exact .inl ⟨_,h.2.symm⟩
    .rw [hc] at h; simp at h
    .rw [hc] at h
     simp only [ak,cm.wr.injEq] at h; exact .inl ⟨_,h.2.symm⟩
  | makeSlice t l c=>
    have h:mW T b s t l c=_:=h
    unfold mW at h
    split at h
    case h_2=>simp at h
    split at h
    case h_2=>simp at h
    split at h
    case h_2=>simp at h
    split at h
    case h_2=>simp at h
    split at h
    case h_2=>simp at h
    replace h:=(Bool.au h).2
    replace h:=(Bool.au h).2
    replace h:=(Bool.au h).2
    simp only [ak,cm.wr.injEq] at h; exact .inl ⟨_,h.2.symm⟩
  | makeMap t r=>
    have h:ld T b t r=_:=h
    unfold ld at h
    split at h
    .simp only [ak,cm.wr.injEq] at h; exact .inl ⟨_,h.2.symm⟩
    .simp at h
  | mapUpdate t m k v=>
    have h:mB T s dst t m k v=_:=h
    unfold mB at h
    split at h
    .simp at h
    .replace h:=(Bool.au h).2
     split at h
     case h_2=>simp at h
     split at h
     case h_2=>simp at h
     rename_i hq
     simp only [ak,cm.wr.injEq] at h; exact .inr (.inl ⟨_,_,h.2.symm,lP hq⟩)
  | call c=>
    have h:gG T lo hi b s c=_:=h
    unfold gG at h
    split at h
    .unfold oR at h
     split at h
     case h_2=>simp at h
     replace h:=(Bool.au h).2
     split at h
     case h_2=>simp at h
     split at h
     .rename_i e' he'
      subst h
      unfold pX at he'
      split at he'
      case h_2=>simp at he'
      split at he'
      case h_2=>simp at he'
      split at he'
      case h_2=>simp at he'
      simp only [ak] at he'
      unfold DA at he'
      split at he'
      .exact Ij (Bool.au he').2
      .unfold oP at he'
       split at he'
       .simp only [ak] at he'
        cases he'
       .simp at he'
     unfold oW at h
     split at h
     case h_2=>simp at h
     split at h
     case h_2=>simp at h
     split at h
     case h_2=>simp at h
     split at h
     case h_2=>simp at h
     split at h
     .exact AH (Bool.au h).2
     .exact AH (Bool.au h).2
    .unfold ml at h
     split at h
     case h_2=>simp at h
     split at h
     .unfold D6 at h
      split at h<;>simp at h
     .split at h
      case h_2=>simp at h
      unfold oQ at h
      split at h
      .exact (sY h).elim
      .exact (xR h).elim
      .exact C8 h
      .unfold SC at h
       split at h
       case h_2=>simp at h
       rename_i d' q x hd
       obtain ⟨hq,h⟩:=Bool.au h
       simp only [ak,cm.wr.injEq] at h
       exact .inr (.inl ⟨q,x,h.2.symm,by simpa [kD] using hq⟩)
      .exact .inl (HB h)
      .revert h
       generalize fk _=p
       intro h
       cases p with
       | true=>exact (sY h).elim
       | false=>exact (xR h).elim
    .simp at h
  | _=>simp [gM] at h
theorem oM {b b':Nat} {s:VS} {dst:Option Tmp} {op:Op} (h:eu op=0):fO T lo hi b s dst op=fO T lo hi b' s dst op:=by
 unfold fO
 have:gM T lo hi b s dst op=gM T lo hi b' s dst op:=by
  cases op with
  | call c=>
    show gG T lo hi b s c=gG T lo hi b' s c
    have h:DQ c.callee=0:=h
    unfold gG
    split
    .rename_i hc; rw [hc] at h; simp [DQ] at h
    .rename_i hc; rw [hc] at h; simp [DQ] at h
    .rfl
  | _=>first|rfl|simp [eu] at h
 rw [this]
end
open Go.RowKit
section
variable {P:Program} {T:dL} {lo:Lo} {hi:Hint} {N:Nat} {ay:Nat->Prop} {w0:Kp} {sp:List (D×Value)} {s:VS} {a:Act} {w:World} {E:Env} {ρ:Option Nat}
theorem uk {sl:aK}:∀ {l:List Tmp},bM (vf sl l)
 | [],x,hx=>by cases hx
 | t::l,x,hx=>by
   simp only [vf] at hx
   split at hx
   .cases hx with
    | head=>rfl
    | tail _ hx=>exact uk x hx
   .exact uk x hx
theorem pB:∀ {l:List Tmp} {sl:aK} {t:Tmp} {d:D} {c:e5},look (vf sl l) t=some (d,c)->c=[]/\look sl t=some (d,[])
 | [],sl,t,d,c,h=>by simp [vf,look] at h
 | k::l,sl,t,d,c,h=>by
   simp only [vf] at h
   split at h
   .rename_i d' hk
    simp only [look] at h
    split at h
    .rename_i he
     have he:=bK he
     simp only [ak,bw] at h
     obtain ⟨rfl,rfl⟩:=h
     subst he
     exact ⟨rfl,hk⟩
    .exact pB h
   .exact pB h
theorem JG (h:R T N ay w0 sp s a w E) (hn:bM s.sl) (f:FuncId) (id:Nat):R T N ay w0 sp (tj hi f id s) a w E/\bM (tj hi f id s).sl:=by
 unfold tj
 split
 .exact ⟨⟨h.size,h.defers,h.spec,h.below,h.len,h.outer,h.roots,h.cS,h.dD,λt d c hl=>by
   obtain ⟨rfl,h1⟩:=pB hl
   exact h.slots t d [] h1,h.gn⟩,uk⟩
 .exact ⟨h,hn⟩
theorem yG (bQ:dH P T) (hl:gP T P lo) (h:R T N ay w0 sp s a w E) (hn:bM s.sl) {f:FuncId} {ro:Option Nat} {id:Nat} {ops:Array Oper} {s':VS} (e:regionF T lo hi N f ro id ops.toList false s=some s')
  {b:Frame} {k:List Item} {cs:List Frame}:∃ a' w' E',Kept E E'/\R T N ay w0 sp s' a' w' E'/\bM s'.sl/\Steps P (lone (b.atR a (.code (.region id ops false)::k)) cs w) (lone (b.atR a' k) cs w'):=by
 unfold regionF at e
 simp only at e
 split at e
 case h_2=>simp at e
 rename_i s1 hs1
 simp only [ak] at e
 subst e
 have hw:=rF (ρ:=b.roundOf) (Q:=λen a' w'=>en=.normal/\∃ E',Kept E E'/\R T N ay w0 sp s1 a' w' E'/\bM s1.sl) bQ hl (λa' w' E' hk h1 h2=>⟨rfl,E',hk,h1,h2⟩) hs1 (Kept.refl E) h hn
 obtain ⟨en,a',w',⟨rfl,E',hk,h1,h2⟩,harr⟩:=wpIn_region_list (id:=id) hw b k cs rfl trivial (JK _ _)
 obtain ⟨h3,h4⟩:=JG (hi:=hi) h1 h2 f id
 exact ⟨a',w',E',hk,h3,h4,StepsIn.steps harr⟩
end
section
theorem bV {α:Type} (l:List α) (i:Nat):aV l i=l[i]?:=by rw [cd,bp]
theorem rp {acc:List Nat} {j:Nat}:∀ {l:List Edge} {m:Nat},(oi acc l m).testBit j=true↔(m.testBit j=true∨∃ e∈l,Region.binds .any e=true/\(j=e.on∨∃ x,acc[e.on]?=some x/\x.testBit j=true))
 | [],m=>by simp [oi]
 | e::l,m=>by
   have hun:oi acc (e::l) m=(Bool.rec (oi acc l m) (oi acc l (Nat.lor (Nat.lor (Nat.shiftLeft 1 e.on) m) (match aV acc e.on with
    | some x=>x
    | none=>0))) (Region.binds .any e):Nat):=rfl
   rw [hun]
   cases hb:Region.binds .any e with
   | false=>
     show (oi acc l m).testBit j=true↔_
     rw [rp]
     constructor
     .rintro (h|⟨e',h1,h2⟩)
      .exact .inl h
      .exact .inr ⟨e',eV _ h1,h2⟩
     .rintro (h|⟨e',h1,h2,h3⟩)
      .exact .inl h
      .rcases List.mem_cons.1 h1 with rfl|h1
       .rw [hb] at h2; simp at h2
       .exact .inr ⟨e',h1,h2,h3⟩
   | true=>
     show (oi acc l (((1 <<< e.on) ||| m) ||| (match aV acc e.on with
      | some x=>x
      | none=>0))).testBit j=true↔_
     rw [rp,bV]
     have h1:(1 <<< e.on).testBit j=true↔j=e.on:=by
      rw [Nat.one_shiftLeft,Nat.testBit_two_pow]
      simp only [decide_eq_true_eq]
      exact ⟨λh=>h.symm,λh=>h.symm⟩
     have h2:(match acc[e.on]? with
      | some x=>x
      | none=>0).testBit j=true↔∃ x,acc[e.on]?=some x/\x.testBit j=true:=by
      cases acc[e.on]? with
      | none=>simp
      | some x=>simp
     rw [Nat.testBit_or,Nat.testBit_or,Bool.or_eq_true,Bool.or_eq_true,h1,h2]
     constructor
     .rintro (((h|h)|h)|⟨e',h3,h4⟩)
      .exact .inr ⟨e,eI ..,hb,.inl h⟩
      .exact .inl h
      .exact .inr ⟨e,eI ..,hb,.inr h⟩
      .exact .inr ⟨e',eV _ h3,h4⟩
     .rintro (h|⟨e',h3,h4,h5⟩)
      .exact .inl (.inl (.inr h))
      .rcases List.mem_cons.1 h3 with rfl|h3
       .rcases h5 with h5|h5
        .exact .inl (.inl (.inl h5))
        .exact .inl (.inr h5)
       .exact .inr ⟨e',h3,h4,h5⟩
theorem yq:∀ (l:List Oper) (acc:List Nat),∃ rest,jm l acc=acc++rest/\rest.length=l.length/\∀ i o,l[i]?=some o->rest[i]?=some (oi (acc++rest.take i) o.after.toList 0)
 | [],acc=>⟨[],by simp [jm],rfl,λi o h=>by simp at h⟩
 | o::l,acc=>by
   obtain ⟨rest,h1,h2,h3⟩:=yq l (acc++[oi acc o.after.toList 0])
   refine ⟨oi acc o.after.toList 0::rest,?_,by simp [h2],λi o' h=>?_⟩
   .show jm l (acc++[oi acc o.after.toList 0])=_
    rw [h1]; simp
   .cases i with
    | zero=>simp at h; subst h; simp
    | succ i=>
      simp only [List.getElem?_cons_succ] at h ⊢
      rw [h3 i o' h]
      simp
structure Anc (ops:List Oper) (A:List Nat):Prop where
 len:A.length=ops.length
 bits:∀ i o m,ops[i]?=some o->A[i]?=some m->∀ j,m.testBit j=true↔∃ e∈o.after.toList,Region.binds .any e=true/\(j=e.on∨∃ x,(A.take i)[e.on]?=some x/\x.testBit j=true)
theorem Yb (ops:List Oper):Anc ops (jm ops []):=by
 obtain ⟨rest,h1,h2,h3⟩:=yq ops []
 rw [List.nil_append] at h1
 rw [h1]
 refine ⟨h2,λi o m ho hm j=>?_⟩
 have:=h3 i o ho
 rw [hm] at this
 simp only [ak] at this
 subst this
 rw [rp]
 simp
theorem vz:∀ {l:List Nat} {k:Nat},C3 l k=true->∀ i m,l[i]?=some m->∀ j,m.testBit j=true->j<k+i
 | [],k,h,i,m,hm,j,hj=>by simp at hm
 | x::l,k,h,i,m,hm,j,hj=>by
   have h:(Bool.rec false (C3 l (k+1)) (Nat.blt x (Nat.shiftLeft 1 k)):Bool)=true:=h
   have h1:Nat.blt x (Nat.shiftLeft 1 k)=true/\C3 l (k+1)=true:=by
    cases hb:Nat.blt x (Nat.shiftLeft 1 k) with
    | true=>rw [hb] at h; exact ⟨rfl,h⟩
    | false=>rw [hb] at h; simp at h
   cases i with
   | zero=>
     simp at hm
     subst hm
     have dB:x<2 ^ k:=by
      have:=aM h1.1
      rwa [show Nat.shiftLeft 1 k=1 <<< k from rfl,Nat.one_shiftLeft] at this
     rcases Nat.lt_or_ge j (k+0) with hj'|hj'
     .exact hj'
     .have:x.testBit j=false:=Nat.testBit_lt_two_pow (Nat.lt_of_lt_of_le dB (Nat.pow_le_pow_right (by omega) (by omega)))
      rw [this] at hj; simp at hj
   | succ i=>
     simp only [List.getElem?_cons_succ] at hm
     have:=vz h1.2 i m hm j hj
     omega
theorem Bool.gC {x b:Bool} (h:(Bool.rec false x b:Bool)=true):b=true/\x=true:=by
 cases b with
 | false=>simp at h
 | true=>exact ⟨rfl,h⟩
theorem xE {t:Tmp}:∀ {l:List Oper} {k j:Nat},pc t l k=some j->∃ i o,j=k+i/\l[i]?=some o/\o.dst=some t
 | [],k,j,h=>by simp [pc] at h
 | o::l,k,j,h=>by
   have h:(match o.dst with
    | some t'=>(Bool.rec (pc t l (k+1)) (some k) (Nat.beq t t'):Option Nat)
    | none=>pc t l (k+1))=some j:=h
   have go:pc t l (k+1)=some j->∃ i o',j=k+i/\(o::l)[i]?=some o'/\o'.dst=some t:=λh=>by
    obtain ⟨i,o',h1,h2,h3⟩:=xE h
    exact ⟨i+1,o',by omega,by simpa using h2,h3⟩
   split at h
   .rename_i t' ht
    cases hb:Nat.beq t t' with
    | true=>
      rw [hb] at h
      simp only [ak] at h
      have:=bK hb
      subst this
      exact ⟨0,o,by omega,rfl,ht⟩
    | false=>rw [hb] at h; exact go h
   .exact go h
theorem qA {t:Tmp}:∀ {l:List Oper} {k:Nat},pc t l k=none->∀ (i:Nat) (o:Oper),l[i]?=some o->o.dst≠some t
 | [],k,h,i,o',ho=>by simp at ho
 | o::l,k,h,i,o',ho=>by
   have h:(match o.dst with
    | some t'=>(Bool.rec (pc t l (k+1)) (some k) (Nat.beq t t'):Option Nat)
    | none=>pc t l (k+1))=none:=h
   have both:o.dst≠some t/\pc t l (k+1)=none:=by
    split at h
    .rename_i t' ht
     cases hb:Nat.beq t t' with
     | true=>rw [hb] at h; simp at h
     | false=>
       rw [hb] at h
       refine ⟨λe=>?_,h⟩
       rw [ht] at e
       simp only [ak] at e
       subst e
       rw [dq] at hb
       simp at hb
    .rename_i ht; exact ⟨by rw [ht]; simp,h⟩
   cases i with
   | zero=>simp at ho; subst ho; exact both.1
   | succ i=>exact qA both.2 i o' (by simpa using ho)
theorem yI:∀ {l:List Oper},Ff l=true->∀ (i j:Nat) (o o':Oper) (t:Tmp),l[i]?=some o->l[j]?=some o'->o.dst=some t->o'.dst=some t->i=j
 | [],h,i,j,o,o',t,h1,h2,h3,h4=>by simp at h1
 | x::l,h,i,j,o,o',t,h1,h2,h3,h4=>by
   have h:(match x.dst with
    | some t=>(Bool.rec false (Ff l) (I8 t l):Bool)
    | none=>Ff l)=true:=h
   have both:Ff l=true/\∀ t,x.dst=some t->∀ (i:Nat) (o:Oper),l[i]?=some o->o.dst≠some t:=by
    split at h
    .rename_i t' ht
     obtain ⟨q1,q2⟩:=Bool.gC h
     refine ⟨q2,λt ht'=>?_⟩
     rw [ht] at ht'
     simp only [ak] at ht'
     subst ht'
     unfold I8 at q1
     split at q1
     .simp at q1
     .rename_i hq; exact qA hq
    .rename_i ht; exact ⟨h,λt ht'=>by rw [ht] at ht'; simp at ht'⟩
   cases i with
   | zero=>
     cases j with
     | zero=>rfl
     | succ j=>
       simp at h1; subst h1
       exact (both.2 t h3 j o' (by simpa using h2) h4).elim
   | succ i=>
     cases j with
     | zero=>
       simp at h2; subst h2
       exact (both.2 t h4 i o (by simpa using h1) h3).elim
     | succ j=>rw [yI both.1 i j o o' t (by simpa using h1) (by simpa using h2) h3 h4]
theorem ll {ops:List Oper} {m:Nat}:∀ {l:List Operand},tb ops m l=true->∀ t,.tmp t∈l->KU ops m t=true
 | [],h,t,ht=>by simp at ht
 | x::l,h,t,ht=>by
   cases x with
   | tmp k=>
     have h:(Bool.rec false (tb ops m l) (KU ops m k):Bool)=true:=h
     rcases List.mem_cons.1 ht with e|ht
     .simp only [Operand.tmp.injEq] at e; subst e; exact (Bool.gC h).1
     .exact ll (Bool.gC h).2 t ht
   | const v=>
     have h:tb ops m l=true:=h
     rcases List.mem_cons.1 ht with e|ht
     .cases e
     .exact ll h t ht
   | func f=>
     have h:tb ops m l=true:=h
     rcases List.mem_cons.1 ht with e|ht
     .cases e
     .exact ll h t ht
   | global g=>
     have h:tb ops m l=true:=h
     rcases List.mem_cons.1 ht with e|ht
     .cases e
     .exact ll h t ht
theorem uR {ops:List Oper}:∀ {l:List Oper} {ms:List Nat},G5 ops l ms=true->∀ (i:Nat) (o:Oper) (m:Nat),l[i]?=some o->ms[i]?=some m->CQ m o.guard=true/\tb ops m o.op.operands.toList=true
 | [],ms,h,i,o,m,h1,h2=>by simp at h1
 | x::l,[],h,i,o,m,h1,h2=>by simp at h2
 | x::l,y::ms,h,i,o,m,h1,h2=>by
   have h:(Bool.rec false (G5 ops l ms) (CQ y x.guard&&tb ops y x.op.operands.toList):Bool)=true:=h
   obtain ⟨h3,h4⟩:=Bool.gC h
   cases i with
   | zero=>simp at h1 h2; subst h1 h2; simpa using h3
   | succ i=>exact uR h4 i o m (by simpa using h1) (by simpa using h2)
def er (us:Nat->kR) (s0:VS) (L:Nat->Bool):Nat->VS
 | 0=>s0
 | k+1=>match L k with
   | true=>(us k).on (er us s0 L k)
   | false=>er us s0 L k
structure View (α:Type) where
 f:VS->α
 act:kR->α->α
 od:kR->Prop
 on:∀ u s,f (u.on s)=act u (f s)
 idle:∀ u x,¬ od u->act u x=x
section
variable {α:Type} (v:View α) {us:Nat->kR} {s0:VS} {L L':Nat->Bool}
theorem View.agree:∀ {m:Nat},(∀ k,k<m->v.od (us k)->L k=L' k)->v.f (er us s0 L m)=v.f (er us s0 L' m)
 | 0,_=>rfl
 | m+1,h=>by
   have ih:=View.agree (m:=m) λk hk=>h k (by omega)
   simp only [er]
   by_cases ht:v.od (us m)
   .rw [h m (by omega) ht]
    split
    .rw [v.on,v.on,ih]
    .exact ih
   .split<;>split
    .rw [v.on,v.on,ih]
    .rw [v.on,v.idle _ _ ht,ih]
    .rw [v.on,v.idle _ _ ht,ih]
    .exact ih
theorem View.tail {i:Nat}:∀ {m:Nat},i<=m->(∀ k,i<=k->k<m->L k=true->¬ v.od (us k))->v.f (er us s0 L m)=v.f (er us s0 L i)
 | 0,hi,_=>by rw [show i=0 by omega]
 | m+1,hi,h=>by
   rcases Nat.lt_or_ge i (m+1) with jW|jW
   .have ih:=View.tail (i:=i) (m:=m) (by omega) λk h1 h2=>h k h1 (by omega)
    rw [<- ih]
    simp only [er]
    split
    .rename_i hL
     rw [v.on,v.idle _ _ (h m (by omega) (by omega) hL)]
    .rfl
   .rw [show i=m+1 by omega]
def more (L:Nat->Bool) (i k:Nat):Bool:=bif k==i then true else L k
theorem iD (i:Nat):more L i i=true:=by simp [more]
theorem jb {i k:Nat} (h:k≠i):more L i k=L k:=by simp [more,h]
theorem View.step {i n:Nat} (hi:i<n) (hL:L i=false) (h:v.od (us i)->∀ k,i<k->k<n->L k=true->¬ v.od (us k)):v.f ((us i).on (er us s0 L n))=v.f (er us s0 (more L i) n):=by
 rw [v.on]
 by_cases ht:v.od (us i)
 .have h:=h ht
  rw [v.tail (i:=i+1) (by omega) λk h1 h2 h3=>h k (by omega) h2 h3]
  rw [v.tail (L:=more L i) (i:=i+1) (by omega) λk h1 h2 h3=>h k (by omega) h2 (by rwa [jb (by omega)] at h3)]
  simp only [er,hL,iD]
  rw [v.on]
  rw [v.agree (L:=L) (L':=more L i) λk hk _=>(jb (by omega)).symm]
 .rw [v.idle _ _ ht]
  exact v.agree λk hk kT=>by
   rw [jb]
   intro e; subst e; exact ht kT
end
theorem ny {us:Nat->kR} {s0:VS} {L:Nat->Bool} {i:Nat}:∀ {n:Nat},i<=n->er us s0 (λk=>L k&&decide (k<i)) n=er us s0 L i
 | 0,h=>by rw [show i=0 by omega]; rfl
 | n+1,h=>by
   rcases Nat.lt_or_ge n i with hn|hn
   .have hi:i=n+1:=by omega
    subst hi
    have:∀ m,m<=n+1->er us s0 (λk=>L k&&decide (k<n+1)) m=er us s0 L m:=by
     intro m
     induction m with
     | zero=>intro _; rfl
     | succ m ih=>
       intro hm
       simp only [er]
       rw [ih (by omega),show (L m&&decide (m<n+1))=L m by simp [show m<n+1 by omega]]
    exact this _ (bG _)
   .simp only [er]
    rw [show (L n&&decide (n<i))=false by simp [show ¬ n<i by omega]]
    exact ny hn
theorem zy (k:Tmp) (d:D) (c:e5) (sl:aK) (t:Tmp):eJ ((k,d,c)::sl) t=(Bool.rec (eJ sl t) (some d) (Nat.beq k t):Option D):=rfl
def kR.at (u:kR) (t:Tmp):Option D:=match u.dst with
 | some t'=>match u.val with
   | some d=>match Nat.beq t' t with
     | true=>some d
     | false=>none
   | none=>none
 | none=>none
def N1 (t:Tmp):View (Option D) where
 f s:=eJ s.sl t
 act u x:=match u.at t with
  | some d=>some d
  | none=>x
 od u:=u.at t≠none
 on u s:=by
  unfold kR.on zU kR.at
  cases u.dst with
  | none=>rfl
  | some t' =>
    cases u.val with
    | none=>rfl
    | some d=>
      simp only [zy]
      cases Nat.beq t' t<;>rfl
 idle u x h:=by
  cases hq:u.at t with
  | none=>rfl
  | some d=>exact (h (by rw [hq]; simp)).elim
theorem kR.XP {u:kR} {t:Tmp} (h:u.at t≠none):u.dst=some t:=by
 unfold kR.at at h
 split at h
 .rename_i t' ht
  split at h
  .split at h
   .rename_i hb; rw [ht,bK hb]
   .simp at h
  .simp at h
 .simp at h
def K9 (q:Nat):List (Nat×ag)->Option ag->Option ag
 | [],x=>x
 | p::ws,x=>K9 q ws (match Nat.beq p.1 q with
   | true=>match x with
     | some _=>some p.2
     | none=>none
   | false=>x)
theorem zx (q:Nat):∀ (ws:List (Nat×ag)) (rs:List ag),aV (writes ws rs) q=K9 q ws (aV rs q)
 | [],rs=>rfl
 | p::ws,rs=>by
   show aV (writes ws (setAt rs p.1 p.2)) q=_
   rw [zx q ws]
   simp only [K9]
   congr 1
   rw [bV,bV,aT,dI]
   cases hb:Nat.beq p.1 q with
   | true=>
     have:=bK hb
     rw [if_pos this,<- this]
     by_cases hl:p.1<rs.length
     .simp [hl]
     .simp [hl]
   | false=>
     rw [if_neg]
     intro e
     rw [e,dq] at hb
     simp at hb
theorem Bf {q:Nat}:∀ {ws:List (Nat×ag)} {x:Option ag},q ∉ ws.map (·.1)->K9 q ws x=x
 | [],x,_=>rfl
 | p::ws,x,h=>by
   simp only [List.map_cons,List.mem_cons,not_or] at h
   simp only [K9]
   have:Nat.beq p.1 q=false:=by
    cases hb:Nat.beq p.1 q with
    | true=>exact (h.1 (bK hb).symm).elim
    | false=>rfl
   rw [this]
   exact Bf h.2
def Rp (q:Nat):View (Option ag) where
 f s:=aV s.rs q
 act u x:=K9 q u.ws (match u.al with
  | some rs=>aV rs q
  | none=>x)
 od u:=u.al≠none∨q∈u.ws.map (·.1)
 on u s:=by
  have:(u.on s).rs=writes u.ws (DI u.al s.rs):=by
   unfold kR.on zU
   cases u.dst with
   | none=>rfl
   | some t=>cases u.val<;>rfl
  rw [this,zx]
  congr 1
  unfold DI
  cases u.al<;>rfl
 idle u x h:=by
  simp only [not_or] at h
  rw [Bf h.2]
  cases ha:u.al with
  | none=>rfl
  | some rs=>exact (h.1 (by rw [ha]; simp)).elim
end
open Go.RowKit
section
variable {P:Program} {T:dL} {N:Nat} {ay:Nat->Prop} {w0:Kp} {sp:List (D×Value)} {a:Act} {w:World} {E E':Env} {av cY Hl:Nat->Prop} {w':World}
theorem Zc {x y:Value} (h:eqV x y=true):x=y:=by
 unfold eqV at h
 split at h
 .rename_i a b
  have:a=b:=by simpa using h
  rw [this]
 .rw [JY h]
 .simp at h
theorem Ub {x y:C} (h:Rc x y=true):x=y:=by
 unfold Rc at h
 split at h
 .rw [Zc h]
 .simp only [dJ] at h; rw [bK h.1,bK h.2.1,bK h.2.2]
 .simp only [dJ] at h; rw [bK h.1,bK h.2]
 .rw [bK h]
 .simp at h
theorem Jz:∀ {l m:List C},ZV l m=true->l=m
 | [],[],_=>rfl
 | [],y::m,h=>by
   have h:(false:Bool)=true:=h
   simp at h
 | x::l,[],h=>by
   have h:(false:Bool)=true:=h
   simp at h
 | x::l,y::m,h=>by
   have h:(Bool.rec false (ZV l m) (Rc x y):Bool)=true:=h
   cases hb:Rc x y with
   | false=>rw [hb] at h; simp at h
   | true=>rw [hb] at h; rw [Ub hb,Jz h]
theorem TR {x y:ag} (h:NJ x y=true):x=y:=by
 unfold NJ at h
 split at h
 .rfl
 .rw [Jz h]
 .simp at h
theorem Kept.take {E E':Env} (h:Kept E E') (n:Nat):Kept (E.take n) (E'.take n):=by
 refine ⟨λr e hr oZ=>?_,λq hq=>?_⟩
 .rw [dx] at hr ⊢
  split at hr
  .rename_i dB
   rw [if_pos dB]
   exact h.le r e hr oZ
  .simp at hr
 .rw [dx] at hq ⊢
  split at hq
  .rename_i dB
   rw [if_pos dB]
   exact h.free q hq
  .simp at hq
theorem Kept.len {E E':Env} (h:Kept E E'):E.length<=E'.length:=by
 by_cases dB:E.length<=E'.length
 .exact dB
 .exfalso
  have hr:E'.length<E.length:=by omega
  have h1:=eK hr
  have h0:E'[E'.length]?=none:=List.getElem?_eq_none (bG _)
  by_cases h2:E[E'.length]=hole
  .rw [h2] at h1
   have:=h.free _ h1
   rw [h0] at this
   simp at this
  .obtain ⟨_,this,_⟩:=h.le _ _ h1 h2
   rw [h0] at this
   simp at this
theorem Kept.lU (E:Env) (n:Nat):Kept (E.take n) E:=⟨λr e hr hn=>⟨e.2.1.2,by
 rw [dx] at hr
 split at hr
 .exact hr
 .simp at hr,hn⟩,λq hq=>by
 rw [dx] at hq
 split at hq
 .exact hq
 .simp at hq⟩
theorem MF {E:Env} {n r b sz:Nat}:cU (E.take n) r b sz->cU E r b sz:=λ⟨hh,q,q2⟩=>⟨hh,by
 rw [dx] at q
 split at q
 .exact q
 .simp at q,q2⟩
theorem Kept.back (hk:Kept E E') {r:Nat} (hr:r<E.length) {e:fA} (h:E'[r]?=some e) (he:e≠hole):∃ K,E[r]?=some (e.wk K):=by
 have h1:=eK hr
 by_cases h2:E[r]=hole
 .rw [h2] at h1
  have:=hk.free r h1
  rw [h] at this
  simp only [ak] at this
  exact (he this).elim
 .obtain ⟨K,this,_⟩:=hk.le r _ h1 h2
  rw [h] at this
  simp only [ak] at this
  exact ⟨E[r].2.1.2,by rw [h1,this]; rfl⟩
theorem Kept.bq (hk:Kept E E') {r b sz:Nat} (hr:r<E.length) (h:bq E' r b sz):bq E r b sz:=by
 obtain ⟨hd,h⟩:=h
 obtain ⟨K,h⟩:=hk.back hr h (fA.J7 rfl)
 exact ⟨(hd.1,K),h⟩
theorem ru {n:Nat}:∀ {l:List Nat},xF n l=true->∀ r∈l,r<n
 | [],_,r,hr=>by simp at hr
 | x::l,h,r,hr=>by
   have h:(Bool.rec false (xF n l) (Nat.blt x n):Bool)=true:=h
   cases hb:Nat.blt x n with
   | false=>rw [hb] at h; simp at h
   | true=>
     rw [hb] at h
     rcases List.mem_cons.1 hr with rfl|hr
     .exact aM hb
     .exact ru h r hr
theorem aB.shrink {α β:Type} {R S:α->β->Prop} {l:List α} {m:List β} (h:aB R l m) (k:∀ x∈l,∀ y,R x y->S x y):aB S l m:=by
 induction h with
 | nil=>exact .nil
 | cons q _ ih=>exact .cons (k _ (eI ..) _ q) (ih λx hx=>k x (eV _ hx))
theorem bg.shrink (hk:Kept E E') (ha:∀ b,Hl b->cY b) {x:C} {v:Value} (hx:vK E.length x=true) (h:bg E' cY w' x v):bg E Hl w' x v:=by
 cases x with
 | im x=>exact cX.mono (ba.refl _ w') (λb _ q=>ha b q) h
 | rt r i j=>obtain ⟨b,sz,h1,h2⟩:=h; exact ⟨b,sz,hk.bq (aM hx) h1,h2⟩
 | sa r m=>
   obtain ⟨e,a,n,cap,h1,h2,h3⟩:=h
   obtain ⟨K,h1⟩:=hk.back (aM hx) h1 (fA.J3 h2)
   exact ⟨_,a,n,cap,h1,h2,h3⟩
 | mp r=>obtain ⟨b,sz,h1,h2⟩:=h; exact ⟨b,sz,hk.bq (aM hx) h1,h2⟩
 | yl r=>obtain ⟨b,sz,h1,h2⟩:=h; exact ⟨b,sz,hk.bq (aM hx) h1,h2⟩
 | ow r j=>
   obtain ⟨e,vs,h1,h2,h3,h4⟩:=h
   obtain ⟨K,h1⟩:=hk.back (aM hx) h1 (fA.Rm h2 h3)
   exact ⟨_,vs,h1,h2,h3,h4⟩
 | dM f l=>
   obtain ⟨vs,h1,h2⟩:=h
   exact ⟨vs,h1,h2.shrink λr hr y ⟨b,sz,q,q2⟩=>⟨b,sz,hk.bq (ru hx r hr) q,q2⟩⟩
theorem ik {n:Nat}:∀ {l:List C},iH n l=true->∀ x∈l,vK n x=true
 | [],_,x,hx=>by simp at hx
 | y::l,h,x,hx=>by
   have h:(Bool.rec false (iH n l) (vK n y):Bool)=true:=h
   cases hb:vK n y with
   | false=>rw [hb] at h; simp at h
   | true=>
     rw [hb] at h
     rcases List.mem_cons.1 hx with rfl|hx
     .exact hb
     .exact ik h x hx
theorem tp {n:Nat}:∀ {l:List C},(∀ x∈l,vK n x=true)->iH n l=true
 | [],_=>rfl
 | y::l,h=>by
   show (Bool.rec false (iH n l) (vK n y):Bool)=true
   rw [h y (eI ..)]
   exact tp λx hx=>h x (eV _ hx)
theorem Ad {n:Nat}:∀ {l:List (Bool×List C)},Bx n l=true->∀ x∈l,iH n x.2=true
 | [],_,x,hx=>by simp at hx
 | y::l,h,x,hx=>by
   have h:(Bool.rec false (Bx n l) (iH n y.2):Bool)=true:=h
   cases hb:iH n y.2 with
   | false=>rw [hb] at h; simp at h
   | true=>
     rw [hb] at h
     rcases List.mem_cons.1 hx with rfl|hx
     .exact hb
     .exact Ad h x hx
theorem aZ.shrink (hk:Kept E E') (ha:∀ b,Hl b->cY b) {d:D} {v:Value} (hd:jz E.length d=true) (h:aZ E' cY w' d v):aZ E Hl w' d v:=by
 cases d with
 | c x=>exact bg.shrink hk ha hd h
 | a l=>obtain ⟨cs,h1,h2⟩:=h; exact ⟨cs,h1,h2.shrink λx hx y q=>bg.shrink hk ha (ik hd x hx) q⟩
 | t l=>
   obtain ⟨vs,h1,h2⟩:=h
   refine ⟨vs,h1,h2.shrink ?_⟩
   rintro ⟨b,l'⟩ hx y q
   have dy:=Ad hd _ hx
   cases b with
   | true=>obtain ⟨cs,q1,q2⟩:=q; exact ⟨cs,q1,q2.shrink λx hx y q=>bg.shrink hk ha (ik dy x hx) q⟩
   | false=>
     obtain ⟨c,q1,q2⟩:=q
     have q1:l'=[c]:=q1
     refine ⟨c,q1,bg.shrink hk ha (ik dy c ?_) q2⟩
     simp only [q1]; exact eI ..
theorem oX {r b sz:Nat} (h:bq E r b sz):r<E.length:=by obtain ⟨hd,h⟩:=h; exact (List.getElem?_eq_some_iff.1 h).1
theorem kY {a b:Nat} (h:a<b):Nat.blt a b=true:=by simpa [kD] using h
theorem yy {n:Nat}:∀ {l:List Nat},(∀ r∈l,r<n)->xF n l=true
 | [],_=>rfl
 | x::l,h=>by
   show (Bool.rec false (xF n l) (Nat.blt x n):Bool)=true
   rw [kY (h x (eI ..))]
   exact yy λr hr=>h r (eV _ hr)
theorem aB.left {α β:Type} {R:α->β->Prop} {l:List α} {m:List β} (h:aB R l m):∀ x∈l,∃ y,R x y:=by
 induction h with
 | nil=>intro x hx; simp at hx
 | cons q _ ih=>
   intro x hx
   rcases List.mem_cons.1 hx with rfl|hx
   .exact ⟨_,q⟩
   .exact ih x hx
theorem bg.low {x:C} {v:Value} (h:bg E av w x v):vK E.length x=true:=by
 cases x with
 | im x=>rfl
 | rt r i j=>obtain ⟨b,sz,h1,_⟩:=h; exact kY (oX h1)
 | sa r m=>obtain ⟨e,a,n,cap,h1,_⟩:=h; exact kY (List.getElem?_eq_some_iff.1 h1).1
 | mp r=>obtain ⟨b,sz,h1,_⟩:=h; exact kY (oX h1)
 | yl r=>obtain ⟨b,sz,h1,_⟩:=h; exact kY (oX h1)
 | ow r j=>obtain ⟨e,vs,h1,_⟩:=h; exact kY (List.getElem?_eq_some_iff.1 h1).1
 | dM f l=>
   obtain ⟨vs,_,h2⟩:=h
   exact yy λr hr=>by
    obtain ⟨_,b,sz,h1,_⟩:=h2.left r hr
    exact oX h1
theorem L.low {l:List C} {cs:List Value} (h:aB (bg E av w) l cs):iH E.length l=true:=tp λx hx=>by
 obtain ⟨y,q⟩:=h.left x hx
 exact bg.low q
theorem aZ.low {d:D} {v:Value} (h:aZ E av w d v):jz E.length d=true:=by
 cases d with
 | c x=>exact bg.low h
 | a l=>obtain ⟨cs,_,h2⟩:=h; exact L.low h2
 | t l=>
   obtain ⟨vs,_,h2⟩:=h
   show Bx E.length l=true
   have key:∀ x∈l,iH E.length x.2=true:=λx hx=>by
    obtain ⟨y,q⟩:=h2.left x hx
    obtain ⟨b,l'⟩:=x
    cases b with
    | true=>obtain ⟨cs,_,q2⟩:=q; exact L.low q2
    | false=>
      obtain ⟨c,q1,q2⟩:=q
      have q1:l'=[c]:=q1
      subst q1
      exact tp λx hx=>by
       rcases List.mem_cons.1 hx with rfl|hx
       .exact bg.low q2
       .simp at hx
   clear h2
   induction l with
   | nil=>rfl
   | cons y l ih=>
     show (Bool.rec false (Bx E.length l) (iH E.length y.2):Bool)=true
     rw [key y (eI ..)]
     exact ih λx hx=>key x (eV _ hx)
theorem qF {n:Nat}:∀ {rs aJ:List ag} {k:Nat} {ws:List (Nat×ag)},yE n rs aJ k=some ws->
  (∀ p∈ws,k<=p.1)/\∀ (pre:List ag),pre.length=k->∀ (q:Nat) (x:ag),(writes ws (pre++rs))[q]?=some x->(q<k/\pre[q]?=some x)∨(k<=q/\aJ[q-k]?=some x/\(rs[q-k]?=some x∨ib n x=true))
 | [],aJ,k,ws,h=>by
   have h:some []=some ws:=h
   simp only [ak] at h
   subst h
   refine ⟨λp hp=>by simp at hp,λpre tQ q x hx=>?_⟩
   have hx:(pre++[])[q]?=some x:=hx
   rw [List.append_nil] at hx
   exact .inl ⟨by rw [<- tQ]; exact (List.getElem?_eq_some_iff.1 hx).1,hx⟩
 | x0::rs,[],k,ws,h=>by
   have h:(none:Option (List (Nat×ag)))=some ws:=h
   simp at h
 | x0::rs,y::aJ,k,ws,h=>by
   have h:(Bool.rec (Bool.rec none (match yE n rs aJ (k+1) with
    | some ws=>some ((k,y)::ws)
    | none=>none) (ib n y)) (yE n rs aJ (k+1)) (NJ x0 y):Option (List (Nat×ag)))=some ws:=h
   cases hb:NJ x0 y with
   | true=>
     rw [hb] at h
     obtain ⟨h1,h2⟩:=qF (rs:=rs) (aJ:=aJ) (k:=k+1) h
     refine ⟨λp hp=>by have:=h1 p hp; omega,λpre tQ q x hx=>?_⟩
     have e:pre++x0::rs=(pre++[x0])++rs:=by simp
     rw [e] at hx
     rcases h2 (pre++[x0]) (by simp [tQ]) q x hx with ⟨h3,h4⟩|⟨h3,h4,h5⟩
     .by_cases hq:q<k
      .rw [dv (by omega)] at h4
       exact .inl ⟨hq,h4⟩
      .have:q=k:=by omega
       subst this
       rw [gm (by omega)] at h4
       simp [tQ] at h4
       subst h4
       right
       rw [Nat.sub_self]
       exact ⟨bG _,by simp [TR hb],.inl (by simp)⟩
     .right
      have:q-k=(q-(k+1))+1:=by omega
      rw [this]
      exact ⟨by omega,by simpa using h4,by simpa using h5⟩
   | false=>
     rw [hb] at h
     obtain ⟨dy,h⟩:=Bool.au (show (Bool.rec none (match yE n rs aJ (k+1) with
      | some ws=>some ((k,y)::ws)
      | none=>none) (ib n y):Option (List (Nat×ag)))=some ws from h)
     split at h
     case h_2=>simp at h
     rename_i ws' hws
     simp only [ak] at h
     subst h
     obtain ⟨h1,h2⟩:=qF (rs:=rs) (aJ:=aJ) (k:=k+1) hws
     refine ⟨λp hp=>by
      rcases List.mem_cons.1 hp with rfl|hp
      .exact bG _
      .have:=h1 p hp; omega,λpre tQ q x hx=>?_⟩
     have hx:(writes ws' (setAt (pre++x0::rs) k y))[q]?=some x:=hx
     have e:setAt (pre++x0::rs) k y=(pre++[y])++rs:=by
      rw [aT,List.set_append]
      simp [tQ]
     rw [e] at hx
     rcases h2 (pre++[y]) (by simp [tQ]) q x hx with ⟨h3,h4⟩|⟨h3,h4,h5⟩
     .by_cases hq:q<k
      .rw [dv (by omega)] at h4
       exact .inl ⟨hq,h4⟩
      .have:q=k:=by omega
       subst this
       rw [gm (by omega)] at h4
       simp [tQ] at h4
       subst h4
       right
       rw [Nat.sub_self]
       exact ⟨bG _,by simp,.inr dy⟩
     .right
      have:q-k=(q-(k+1))+1:=by omega
      rw [this]
      exact ⟨by omega,by simpa using h4,by simpa using h5⟩
theorem EG:OI λrs aJ=>yE rs.length rs aJ 0:=λrs aJ ws h q x hx=>by
 rcases (qF h).2 [] rfl q x hx with ⟨h1,_⟩|⟨_,h2,h3⟩
 .omega
 .exact ⟨h2,h3⟩
theorem hZ:∀ (ws:List (Nat×ag)) (rs:List ag),(writes ws rs).length=rs.length
 | [],rs=>rfl
 | p::ws,rs=>by
   show (writes ws (setAt rs p.1 p.2)).length=_
   rw [hZ ws,aT]; simp
theorem iE:∀ {sl:aK} {t:Tmp} {x:D×e5},look sl t=some x->(t,x)∈sl
 | [],t,x,h=>by simp [look] at h
 | (k,d,c)::sl,t,x,h=>by
   simp only [look] at h
   split at h
   .rename_i hb
    simp only [ak] at h
    rw [<- bK hb,<- h]
    exact eI ..
   .exact eV _ (iE h)
theorem rn {n:Nat}:∀ {l:List Fc},vv n l=true->∀ x∈l,yH n x=true
 | [],_,x,hx=>by simp at hx
 | y::l,h,x,hx=>by
   have h:(Bool.rec false (vv n l) (yH n y):Bool)=true:=h
   cases hb:yH n y with
   | false=>rw [hb] at h; simp at h
   | true=>
     rw [hb] at h
     rcases List.mem_cons.1 hx with rfl|hx
     .exact hb
     .exact rn h x hx
theorem Fh {n el sz k i j:Nat} {get:Nat->Nat->O} {et:Option (Nat×List Fc)} {c:Fc} (h:ib n (.bt el sz k get et)=true) (hc:fS get et i j=some c):yH n c=true:=by
 unfold fS at hc
 split at hc
 .simp only [ak] at hc; subst hc; rfl
 .rename_i x
  split at hc
  .rw [bp] at hc
   exact rn (show vv n x.2=true from h) c (List.mem_of_getElem? hc)
  .simp only [ak] at hc; subst hc; rfl
theorem iK.shrink {base:Nat} (hk:Kept E E') (ha:∀ b,Hl b->cY b) {x:Fc} {K:Nat->Prop} {v:Value} (hx:yH E.length x=true) (h:iK E' cY base w' x K v):iK E Hl base w' x K v:=by
 cases x with
 | c x=>exact bg.shrink hk ha hx h
 | o x=>exact fb.mono (ba.refl _ w') (λb _ q=>ha b q) (λ_ _=>rfl) h
theorem iK.low {av:Nat->Prop} {base:Nat} {x:Fc} {K:Nat->Prop} {v:Value} (h:iK E av base w x K v):yH E.length x=true:=by
 cases x with
 | c x=>exact bg.low h
 | o x=>rfl
theorem R.trim {sl:aK} {rs aJ:List ag} {df:List Nat} (h:R T N ay w0 sp ⟨sl,rs,df⟩ a w E) (h':R T N ay w0 sp ⟨sl,aJ,df⟩ a w' E') (hk0:Kept E E') {ws:List (Nat×ag)} (hw:∀ (q:Nat) (x:ag),(writes ws rs)[q]?=some x->aJ[q]?=some x/\(rs[q]?=some x∨ib rs.length x=true))
  {d:D} (hd:jz rs.length d=true) {v:Value} (hv:aZ E' (AV ay aJ E') w' d v):∃ E1,Kept E E1/\E1.length=E.length/\R T N ay w0 sp ⟨sl,writes ws rs,df⟩ a w' E1/\aZ E1 (AV ay (writes ws rs) E1) w' d v:=by
 have hlen0:E.length=rs.length:=h.len
 have hkE:Kept E (E'.take E.length):=by
  have:=hk0.take E.length
  rwa [List.take_length] at this
 have hlen:(E'.take E.length).length=rs.length:=by rw [List.length_take,Nat.min_eq_left hk0.len,hlen0]
 have hk:Kept (E'.take E.length) E':=Kept.lU E' E.length
 refine ⟨E'.take E.length,hkE,by rw [hlen,hlen0],?_⟩
 generalize hE1:E'.take E.length=E1 at hkE hlen hk ⊢
 have eE:∀ {r b sz:Nat},cU E1 r b sz->cU E' r b sz:=λq=>MF (by rw [hE1]; exact q)
 have yB:∀ {q:Nat} {e:fA},E1[q]?=some e->E'[q]?=some e:=λ{q e} h1=>by
  rw [<- hE1,dx] at h1
  split at h1
  .exact h1
  .simp at h1
 have key:∀ (q:Nat) (x:ag),(writes ws rs)[q]?=some x->aJ[q]?=some x/\(rs[q]?=some x∨ib E1.length x=true):=by
  intro q x hx
  rw [hlen]
  exact hw q x hx
 have eG:∀ b,AV ay (writes ws rs) E1 b->AV ay aJ E' b:=by
  rintro b (q|⟨r,x,sz,h1,h2,h3⟩)
  .exact .inl q
  .exact .inr ⟨r,x,sz,(key r x h1).1,h2,eE h3⟩
 have lowd:∀ {d:D} {v:Value},aZ E (AV ay rs E) w d v->jz E1.length d=true:=λq=>by rw [hlen,<- hlen0]; exact aZ.low q
 refine ⟨⟨h.size,h.defers.mono λ_ _ ⟨b,sz,q,e⟩=>⟨b,sz,hkE.le.at_ q,e⟩,λx hx=>aZ.shrink hk eG (lowd (h.spec x hx)) (h'.spec x hx),h'.below,by rw [show (VS.mk sl (writes ws rs) df).rs.length=rs.length from hZ ws rs]; exact hlen,h.outer,?_,?_,?_,?_,h'.gn.mono (ba.refl _ w') (λb _ q=>eG b q)⟩,aZ.shrink hk eG (by rw [hlen]; exact hd) hv⟩
 .intro q x e hx hE
  obtain ⟨k1,k2⟩:=key q x hx
  have hpost:=h'.roots q x e k1 (yB hE)
  have low:∀ {l:List C} {cs:List Value},(iH E1.length l=true)->aB (bg E' (AV ay aJ E') w') l cs->aB (bg E1 (AV ay (writes ws rs) E1) w') l cs:=λhl hc=>hc.shrink λx hx y q=>bg.shrink hk eG (ik hl x hx) q
  have hq0:q<E.length:=by rw [hlen0,<- hlen]; exact (List.getElem?_eq_some_iff.1 hE).1
  have h0:=eK hq0
  cases x with
  | dead=>trivial
  | box l=>
    obtain ⟨b,cs,Tc,p1,p2,p3,p4⟩:=hpost
    refine ⟨b,cs,Tc,p1,p2,p3,low ?_ p4⟩
    rcases k2 with k2|k2
    .obtain ⟨_,_,_,_,_,_,p5⟩:=h.roots q _ _ k2 h0
     rw [hlen,<- hlen0]
     exact L.low p5
    .exact k2
  | row el sz n l=>
    obtain ⟨p1,p2,xs,p3,p4⟩:=hpost
    refine ⟨p1,p2,xs,p3,low ?_ p4⟩
    rcases k2 with k2|k2
    .obtain ⟨_,_,_,_,p5⟩:=h.roots q _ _ k2 h0
     rw [hlen,<- hlen0]
     exact L.low p5
    .exact k2
  | arr el sz n get=>
    obtain ⟨p1,p2,xs,p3,p4⟩:=hpost
    refine ⟨p1,p2,xs,p3,λi hi j hj=>?_⟩
    obtain ⟨x,p5,p6⟩:=p4 i hi j hj
    exact ⟨x,p5,cX.mono (ba.refl _ w') (λb _ q=>eG b q) p6⟩
  | bt el sz n get et=>
    obtain ⟨p1,p2,xs,p3,Ks,p4,pf,p5⟩:=hpost
    refine ⟨p1,p2,xs,p3,Ks,p4,pf,λi hi j hj=>?_⟩
    obtain ⟨x,c,p6,p7,p8⟩:=p5 i hi j hj
    refine ⟨x,c,p6,p7,iK.shrink hk eG ?_ p8⟩
    rcases k2 with k2|k2
    .obtain ⟨_,_,_,_,_,_,_,r5⟩:=h.roots q _ _ k2 h0
     obtain ⟨x',c',_,r7,r8⟩:=r5 i hi j hj
     rw [p7] at r7
     simp only [ak] at r7
     subst r7
     rw [hlen,<- hlen0]
     exact iK.low r8
    .exact Fh k2 p7
  | own l=>
    obtain ⟨p1,p2,vs,p3,p4,Ks,p5,p6,p7⟩:=hpost
    refine ⟨p1,p2,vs,p3,p4,Ks,p5,p6,λi o ho=>?_⟩
    obtain ⟨v,g1,g2⟩:=p7 i o ho
    exact ⟨v,g1,fb.mono (ba.refl _ w') (λb _ q=>eG b q) (λ_ _=>rfl) g2⟩
  | set l=>exact hpost
  | kA=>exact hpost
  | loop f M gb ps as bd st fF=>
    obtain ⟨b,db,tm,p1,p2,p3,p4,p5⟩:=hpost
    rcases k2 with k2|k2
    .obtain ⟨b',db',tm',r1,r2,r3,r4,r5⟩:=h.roots q _ _ k2 h0
     refine ⟨b,db,tm,p1,p2,p3,λt d c hl=>?_,p5⟩
     have hcn:c=[]:=p5 _ (iE hl)
     subst hcn
     obtain ⟨s1,s2,s3⟩:=p4 t d [] hl
     obtain ⟨s4,s5,s6⟩:=r4 t d [] hl
     exact ⟨s1,λq=>aZ.shrink hk eG (lowd (s5 λp hp=>by cases hp)) (s2 q),s3⟩
    .simp [ib] at k2
 .intro q x b sz hx hlv ji
  exact h'.cS q x b sz (key q x hx).1 hlv (eE ji)
 .intro q q' x x' b sz cF hx hx' hl vU ji aJ0
  exact h'.dD q q' x x' b sz cF (key q x hx).1 (key q' x' hx').1 hl vU (eE ji) (eE aJ0)
 .intro t d c hl
  obtain ⟨s1,s2,s3⟩:=h'.slots t d c hl
  obtain ⟨s4,s5,s6⟩:=h.slots t d c hl
  exact ⟨s1,λq=>aZ.shrink hk eG (lowd (s5 q)) (s2 q),s3⟩
end
open Go.RowKit
section
variable {P:Program} {T:dL} {lo:Lo} {hi:Hint} {N:Nat} {ay:Nat->Prop} {w0:Kp} {sp:List (D×Value)} {s:VS} {a:Act} {w:World} {E:Env} {ρ:Option Nat}
theorem Df (l:List Nat) (s:VS):UP l s=⟨s.sl,xq l s.rs,s.df⟩:=by cases l<;>rfl
theorem Ap:∀ (l:List Nat) (rs:List ag) {q:Nat} {x:ag},aV (xq l rs) q=some x->x.live->q ∉ l/\aV rs q=some x
 | [],rs,q,x,h,_=>⟨by simp,h⟩
 | k::l,rs,q,x,h,hx=>by
   obtain ⟨h1,h2⟩:=Ap l (setAt rs k .dead) h hx
   rw [bV,aT,dI] at h2
   split at h2
   .split at h2
    .simp only [ak] at h2; subst h2; exact hx.elim
    .simp at h2
   .rename_i hq
    refine ⟨?_,by rw [bV]; exact h2⟩
    simp only [List.mem_cons,not_or]
    exact ⟨λe=>hq e.symm,h1⟩
theorem kR.Wa (u:kR) (s:VS):(u.on s).df=s.df:=by
 unfold kR.on zU
 cases u.dst with
 | none=>rfl
 | some t=>cases u.val<;>rfl
theorem kR.Nq (u:kR) {s:VS} (h:bM s.sl):bM (u.on s).sl:=by
 unfold kR.on zU
 cases u.dst with
 | none=>exact h
 | some t=>cases u.val with
   | none=>exact h
   | some d=>exact h.cons _ _
theorem wo {us:Nat->kR} {s0:VS} {L:Nat->Bool}:∀ n,(er us s0 L n).df=s0.df
 | 0=>rfl
 | n+1=>by
   simp only [er]
   split
   .rw [kR.Wa,wo n]
   .exact wo n
theorem oY {us:Nat->kR} {s0:VS} {L:Nat->Bool} (h:bM s0.sl):∀ n,bM (er us s0 L n).sl
 | 0=>h
 | n+1=>by
   simp only [er]
   split
   .exact kR.Nq _ (oY h n)
   .exact oY h n
theorem nA {us:Nat->kR} {s0:VS} {L L':Nat->Bool}:∀ {n:Nat},(∀ k,k<n->L k=L' k)->er us s0 L n=er us s0 L' n
 | 0,_=>rfl
 | n+1,h=>by
   simp only [er]
   rw [h n (by omega),nA (n:=n) λk hk=>h k (by omega)]
theorem qM {u:kR} {us:Nat->kR} {s:VS}:∀ k,er (λ|0=>u|k+1=>us k) s (λ_=>true) (k+1)=er us (u.on s) (λ_=>true) k
 | 0=>rfl
 | k+1=>by
   rw [er,qM k]
   rfl
structure Pp (T:dL) (lo:Lo) (hi:Hint) (N:Nat) (ops:List Oper) (cr:List Nat) (W:List (Nat×List Nat)) (i b:Nat) (s:VS) (o:Oper) (m:Nat) (u:kR):Prop where
 ev:kP T lo hi cr i b ops (UP (eC cr i m W) s) o=some (.ok u)
 ok:Ec N u.dst u.val=true
 sub:Cd (u.ws.map (·.1)) (nn i W)=true
 apart:nF (u.ws.map (·.1)) (eC cr i m W)=true
 ex:Sz u.ex (eC cr i m W)=true
theorem sL {ops:List Oper} {cr:List Nat} {W:List (Nat×List Nat)}:∀ {l:List Oper} {ms:List Nat} {i b:Nat} {s sF:VS},kB T lo hi N ops cr W l ms i b s=some sF->
  ∃ us:Nat->kR,sF=er us s (λ_=>true) l.length/\∀ k o,l[k]?=some o->∃ m,ms[k]?=some m/\Pp T lo hi N ops cr W (i+k) (b+dO (l.take k)) (er us s (λ_=>true) k) o m (us k)
 | [],ms,i,b,s,sF,h=>by
   have h:some s=some sF:=h
   simp only [ak] at h
   exact ⟨λ_=>⟨none,none,[],none,false⟩,h.symm,λk o hk=>by simp at hk⟩
 | o::l,[],i,b,s,sF,h=>by
   have h:(none:Option VS)=some sF:=h
   simp at h
 | o::l,m::ms,i,b,s,sF,h=>by
   have h:(match kP T lo hi cr i b ops (UP (eC cr i m W) s) o with
    | some (.ok u)=>(Bool.rec none (kB T lo hi N ops cr W l ms (i+1) (b+eu o.op) (u.on s)) (Ec N u.dst u.val&&(Cd (u.ws.map (·.1)) (nn i W)&&(nF (u.ws.map (·.1)) (eC cr i m W)&&Sz u.ex (eC cr i m W)))):Option VS)
    | _=>none)=some sF:=h
   split at h
   case h_2=>simp at h
   rename_i u hu
   obtain ⟨h1,h2⟩:=Bool.au h
   simp only [dJ] at h1
   obtain ⟨us,h3,h4⟩:=sL h2
   refine ⟨λ|0=>u|k+1=>us k,?_,λk o' hk=>?_⟩
   .rw [List.length_cons,qM]; exact h3
   .cases k with
    | zero=>
      simp at hk
      subst hk
      exact ⟨m,rfl,hu,h1.1,h1.2.1,h1.2.2.1,h1.2.2.2⟩
    | succ k=>
      obtain ⟨m',h5,h6⟩:=h4 k o' (by simpa using hk)
      refine ⟨m',by simpa using h5,?_⟩
      rw [qM]
      have e1:i+(k+1)=i+1+k:=by omega
      have e2:b+dO (List.take (k+1) (o::l))=b+eu o.op+dO (l.take k):=by
       show b+(eu o.op+dO (l.take k))=_
       omega
      rw [e1,e2]
      exact h6
theorem qc {ops:List Oper} {cr:List Nat}:∀ {l:List Oper} {k b:Nat} {W:List (Nat×List Nat)} {s s':VS},mn T lo hi N cr ops l k b W s=some (.ok [] s')->
  W=[]/\∀ ms:List Nat,ms.length=l.length->kB T lo hi N ops cr [] l ms k b s=some s'
 | [],k,b,W,s,s',h=>by
   have h:some (Dc.ok W s)=some (.ok [] s'):=h
   simp only [ak,Dc.ok.injEq] at h
   obtain ⟨rfl,rfl⟩:=h
   exact ⟨rfl,λms _=>rfl⟩
 | o::l,k,b,W,s,s',h=>by
   have h:(match kP T lo hi cr k b ops s o with
    | some (.ok u)=>(Bool.rec none (mn T lo hi N cr ops l (k+1) (b+eu o.op) (ES k u W) (u.on s)) (Ec N u.dst u.val):Option Dc)
    | some (.cD c)=>some (.cD c)
    | none=>none)=some (.ok [] s'):=h
   split at h
   .rename_i u hu
    obtain ⟨h1,h2⟩:=Bool.au h
    obtain ⟨h3,h4⟩:=qc h2
    have h5:u.ws=[]/\W=[]:=by
     unfold ES at h3
     split at h3
     .rename_i hw; exact ⟨hw,h3⟩
     .simp at h3
    refine ⟨h5.2,λms hms=>?_⟩
    cases ms with
    | nil=>simp at hms
    | cons m ms=>
      show (match kP T lo hi cr k b ops s o with
       | some (.ok u)=>(Bool.rec none (kB T lo hi N ops cr [] l ms (k+1) (b+eu o.op) (u.on s)) (Ec N u.dst u.val&&(Cd (u.ws.map (·.1)) (nn k [])&&(nF (u.ws.map (·.1)) (eC cr k m [])&&Sz u.ex (eC cr k m [])))):Option VS)
       | _=>none)=some s'
      have hex:Sz u.ex (eC cr k m [])=true:=by
       show Sz u.ex []=true
       cases u.ex<;>rfl
      rw [hu]
      simp only [h1,h5.1,hex]
      exact h4 ms (by simpa using hms)
   .simp at h
   .simp at h
theorem vm {ops:List Oper} {cr:List Nat}:∀ {l:List Oper} {k b:Nat} {W W':List (Nat×List Nat)} {s s':VS},mn T lo hi N cr ops l k b W s=some (.ok W' s')->(∀ x∈W,x.1<k)->∀ x∈W',x.1<k+l.length
 | [],k,b,W,W',s,s',h,hk=>by
   have h:some (Dc.ok W s)=some (.ok W' s'):=h
   simp only [ak,Dc.ok.injEq] at h
   obtain ⟨rfl,rfl⟩:=h
   exact hk
 | o::l,k,b,W,W',s,s',h,hk=>by
   have h:(match kP T lo hi cr k b ops s o with
    | some (.ok u)=>(Bool.rec none (mn T lo hi N cr ops l (k+1) (b+eu o.op) (ES k u W) (u.on s)) (Ec N u.dst u.val):Option Dc)
    | some (.cD c)=>some (.cD c)
    | none=>none)=some (.ok W' s'):=h
   split at h
   .rename_i u hu
    obtain ⟨h1,h2⟩:=Bool.au h
    intro x hx
    have:=vm h2 (λx hx=>by
     unfold ES at hx
     split at hx
     .have:=hk x hx; omega
     .rcases List.mem_append.1 hx with hx|hx
      .have:=hk x hx; omega
      .simp at hx; subst hx; simp) x hx
    simp only [List.length_cons]
    omega
   .simp at h
   .simp at h
theorem jw {n:Nat}:∀ {l:List Nat},pg n l=true↔n∈l
 | []=>by simp [pg]
 | x::l=>by
   have:pg n (x::l)=(Bool.rec (pg n l) true (Nat.beq x n):Bool):=rfl
   rw [this]
   cases hb:Nat.beq x n with
   | true=>simp [bK hb]
   | false=>
     have:x≠n:=λe=>by rw [e,dq] at hb; simp at hb
     simp only [List.mem_cons]
     rw [jw]
     exact ⟨.inr,λh=>h.elim (λe=>(this e.symm).elim) id⟩
theorem vr {m:List Nat}:∀ {l:List Nat},nF l m=true->∀ q∈l,q ∉ m
 | [],_,q,hq=>by simp at hq
 | x::l,h,q,hq=>by
   have h:(Bool.rec (nF l m) false (pg x m):Bool)=true:=h
   cases hb:pg x m with
   | true=>rw [hb] at h; simp at h
   | false=>
     rw [hb] at h
     rcases List.mem_cons.1 hq with rfl|hq
     .intro hm; rw [jw.2 hm] at hb; simp at hb
     .exact vr h q hq
theorem Bb {m:List Nat}:∀ {l:List Nat},Cd l m=true->∀ q∈l,q∈m
 | [],_,q,hq=>by simp at hq
 | x::l,h,q,hq=>by
   obtain ⟨h1,h2⟩:=Bool.gC (show (Bool.rec false (Cd l m) (pg x m):Bool)=true from h)
   rcases List.mem_cons.1 hq with rfl|hq
   .exact jw.1 h1
   .exact Bb h2 q hq
theorem mP {α:Type} {k:Nat} {x:α}:∀ {l:List (Nat×α)},findF k l=some x->(k,x)∈l
 | [],h=>by simp [findF] at h
 | y::l,h=>by
   have h:(Bool.rec (findF k l) (some y.2) (Nat.beq y.1 k):Option α)=some x:=h
   cases hb:Nat.beq y.1 k with
   | true=>
     rw [hb] at h
     simp only [ak] at h
     have hk:=bK hb
     rw [<- hk,<- h]
     exact eI ..
   | false=>rw [hb] at h; exact eV _ (mP h)
theorem Jb {k q:Nat} {W:List (Nat×List Nat)} (h:q∈nn k W):∃ l,(k,l)∈W/\q∈l:=by
 unfold nn at h
 split at h
 .rename_i l hl; exact ⟨l,mP hl,h⟩
 .simp at h
def A7 (A:List Nat) (i m j:Nat):Prop:=j≠i/\m.testBit j=false/\∀ x,A[j]?=some x->x.testBit i=false
theorem zo {A:List Nat} {i m:Nat} {x:Nat×List Nat} {W:List (Nat×List Nat)}:eC A i m (x::W)=(Bool.rec (x.2++eC A i m W) (eC A i m W) (Nat.beq x.1 i||(Nat.testBit m x.1||(match aV A x.1 with
  | some x=>Nat.testBit x i
  | none=>false))):List Nat):=rfl
theorem AG {A:List Nat} {i m:Nat} {q:Nat}:∀ {W:List (Nat×List Nat)} {x:Nat×List Nat},x∈W->q∈x.2->A7 A i m x.1->q∈eC A i m W
 | [],x,h,_,_=>by simp at h
 | y::W,x,h,hq,hl=>by
   rw [zo]
   rcases List.mem_cons.1 h with rfl|h
   .have h1:Nat.beq x.1 i=false:=by
     cases hb:Nat.beq x.1 i with
     | true=>exact (hl.1 (bK hb)).elim
     | false=>rfl
    have h2:(match aV A x.1 with
     | some x=>Nat.testBit x i
     | none=>false)=false:=by
     rw [bV]
     split
     .rename_i y hy; exact hl.2.2 y hy
     .rfl
    rw [h1,hl.2.1,h2]
    exact List.mem_append_left _ hq
   .have:=AG h hq hl
    generalize (Nat.beq y.1 i||_)=b
    cases b with
    | true=>exact this
    | false=>exact List.mem_append_right _ this
theorem Al {A:List Nat} {i m:Nat}:∀ {W:List (Nat×List Nat)},(∀ x∈W,¬ A7 A i m x.1)->eC A i m W=[]
 | [],_=>rfl
 | x::W,h=>by
   rw [zo]
   have ih:=Al (A:=A) (i:=i) (m:=m) (W:=W) λy hy=>h y (eV _ hy)
   have hx:=h x (eI ..)
   cases hb:(Nat.beq x.1 i||(Nat.testBit m x.1||(match aV A x.1 with
    | some x=>Nat.testBit x i
    | none=>false))) with
   | true=>exact ih
   | false=>
     simp only [Bool.or_eq_false_iff] at hb
     refine (hx ⟨λe=>?_,hb.2.1,λy hy=>?_⟩).elim
     .rw [e,dq] at hb; simp at hb
     .have:=hb.2.2
      rw [bV,hy] at this
      exact this
theorem zj {i m:Nat}:∀ {l:List Nat} {k:Nat},P0 i m l k=true->∀ j x,l[j]?=some x->k+j=i∨m.testBit (k+j)=true∨x.testBit i=true
 | [],k,_,j,x,hx=>by simp at hx
 | y::l,k,h,j,x,hx=>by
   obtain ⟨h1,h2⟩:=Bool.gC (show (Bool.rec false (P0 i m l (k+1)) (Nat.beq k i||(Nat.testBit m k||Nat.testBit y i)):Bool)=true from h)
   cases j with
   | zero=>
     simp at hx
     subst hx
     simp only [Bool.or_eq_true] at h1
     rcases h1 with h1|h1|h1
     .exact .inl (bK h1)
     .exact .inr (.inl h1)
     .exact .inr (.inr h1)
   | succ j=>
     have:=zj h2 j x (by simpa using hx)
     rwa [show k+1+j=k+(j+1) by omega] at this
theorem pQ {A:List Nat} {i m:Nat} (hm:A[i]?=some m) (h:Gd A i=true) {j x:Nat} (hx:A[j]?=some x):¬ A7 A i m j:=by
 unfold Gd at h
 rw [bV,hm] at h
 simp only at h
 rintro ⟨h1,h2,h3⟩
 rcases zj h j x hx with h4|h4|h4
 .omega
 .rw [Nat.zero_add] at h4; rw [h2] at h4; simp at h4
 .rw [h3 x hx] at h4; simp at h4
theorem uj {A:List Nat} {i b:Nat} {ops:List Oper} {s:VS} {o:Oper} {u:kR} (h:kP T lo hi A i b ops s o=some (.ok u)) :
  (mY ops s.sl o.guard=some false/\u=⟨o.dst,some (.t []),[],none,false⟩) ∨
  (mY ops s.sl o.guard=some true/\∃ e,fO T lo hi b s o.dst o.op=some e/\(∀ l,e ≠ .cD l)/\u.dst=o.dst/\
   ((∃ d,e=.val d/\u.val=some d/\u.ws=[]/\u.al=none)∨(∃ d ws,e=.wr d ws/\u.val=d/\u.ws=ws/\u.al=none)∨(∃ d rs,e=.all d rs/\u.val=some d/\u.ws=[]/\u.al=some rs/\Gd A i=true) ∨
     (∃ d rs,e=.all d rs/\u.val=some d/\lo.diff s.rs rs=some u.ws/\u.al=none/\u.ex=true/\jz s.rs.length d=true))):=by
 unfold kP at h
 split at h
 .rename_i hw
  refine .inr ⟨hw,?_⟩
  unfold rX at h
  split at h
  .rename_i d he
   simp only [ak,Pr.ok.injEq] at h
   subst h
   exact ⟨_,he,λ_=>cm.noConfusion,rfl,.inl ⟨d,rfl,rfl,rfl,rfl⟩⟩
  .rename_i d ws he
   simp only [ak,Pr.ok.injEq] at h
   subst h
   exact ⟨_,he,λ_=>cm.noConfusion,rfl,.inr (.inl ⟨d,ws,rfl,rfl,rfl,rfl⟩)⟩
  .simp at h
  .rename_i d rs he
   cases hb:Gd A i with
   | false=>
     rw [hb] at h
     have h:Ml lo o.dst d s.rs rs=some (.ok u):=h
     unfold Ml at h
     split at h
     case h_2=>simp at h
     rename_i ws hws
     obtain ⟨h1,h⟩:=Bool.au h
     simp only [ak,Pr.ok.injEq] at h
     subst h
     exact ⟨_,he,λ_=>cm.noConfusion,rfl,.inr (.inr (.inr ⟨d,rs,rfl,rfl,hws,rfl,rfl,h1⟩))⟩
   | true=>
     rw [hb] at h
     simp only [ak,Pr.ok.injEq] at h
     subst h
     exact ⟨_,he,λ_=>cm.noConfusion,rfl,.inr (.inr (.inl ⟨d,rs,rfl,rfl,rfl,rfl,rfl⟩))⟩
  .simp at h
 .rename_i hw
  simp only [ak,Pr.ok.injEq] at h
  exact .inl ⟨hw,h.symm⟩
 .simp at h
theorem Lf {A:List Nat} {i b:Nat} {ops:List Oper} {s:VS} {o:Oper} {u:kR} (h:kP T lo hi A i b ops s o=some (.ok u)):u.dst=o.dst:=by
 rcases uj h with ⟨_,rfl⟩|⟨_,e,_,_,h,_⟩
 .rfl
 .exact h
theorem zl {A:List Nat} {i b:Nat} {ops:List Oper} {s:VS} {o:Oper} {u:kR} (h:kP T lo hi A i b ops s o=some (.ok u)) (ha:u.al≠none):Gd A i=true:=by
 rcases uj h with ⟨_,rfl⟩|⟨_,e,_,_,_,h|h|h|h⟩
 .exact (ha rfl).elim
 .obtain ⟨_,_,_,_,h⟩:=h; exact (ha h).elim
 .obtain ⟨_,_,_,_,_,h⟩:=h; exact (ha h).elim
 .obtain ⟨_,_,_,_,_,_,h⟩:=h; exact h
 .obtain ⟨_,_,_,_,_,h,_⟩:=h; exact (ha h).elim
structure Open (T:dL) (lo:Lo) (hi:Hint) (N:Nat) (ops:List Oper) (A:List Nat) (W:List (Nat×List Nat)) (us:Nat->kR) (s0:VS) (b0:Nat):Prop where
 anc:Anc ops A
 below:∀ (i m:Nat),A[i]?=some m->∀ j,m.testBit j=true->j<i
 order:∀ (i:Nat) (o:Oper) (m:Nat),ops[i]?=some o->A[i]?=some m->CQ m o.guard=true/\tb ops m o.op.operands.toList=true
 SR:∀ (i j:Nat) (o o':Oper) (t:Tmp),ops[i]?=some o->ops[j]?=some o'->o.dst=some t->o'.dst=some t->i=j
 keys:∀ x∈W,x.1<ops.length
 sec:∀ (k:Nat) (o:Oper),ops[k]?=some o->∃ m,A[k]?=some m/\Pp T lo hi N ops A W k (b0+dO (ops.take k)) (er us s0 (λ_=>true) k) o m (us k)
def re (A:List Nat) (L:Nat->Bool):Prop:=∀ (j m:Nat),A[j]?=some m->L j=true->∀ k,m.testBit k=true->L k=true
section
variable {ops:List Oper} {A:List Nat} {W:List (Nat×List Nat)} {us:Nat->kR} {s0:VS} {b0:Nat} {L:Nat->Bool} {i m:Nat} {o:Oper}
theorem Open.get (hO:Open T lo hi N ops A W us s0 b0) {k:Nat} (hk:k<ops.length):∃ o m,ops[k]?=some o/\A[k]?=some m/\Pp T lo hi N ops A W k (b0+dO (ops.take k)) (er us s0 (λ_=>true) k) o m (us k):=by
 obtain ⟨m,h1,h2⟩:=hO.sec k ops[k] (eK hk)
 exact ⟨_,m,eK hk,h1,h2⟩
theorem Open.dst (hO:Open T lo hi N ops A W us s0 b0) {k:Nat} {o:Oper} (ho:ops[k]?=some o) {t:Tmp} (h:(N1 t).od (us k)):o.dst=some t:=by
 obtain ⟨m,_,h2⟩:=hO.sec k o ho
 rw [<- Lf h2.ev]
 exact kR.XP h
theorem Open.loose (hO:Open T lo hi N ops A W us s0 b0) (hm:A[i]?=some m) {k q:Nat} (hk:k<ops.length) (hl:A7 A i m k) (ht:(Rp q).od (us k)):q∈eC A i m W:=by
 obtain ⟨o,x,h1,h2,h3⟩:=hO.get hk
 rcases ht with ht|ht
 .have hb:=zl h3.ev ht
  refine (pQ h2 hb hm ?_).elim
  exact ⟨λe=>hl.1 e.symm,hl.2.2 x h2,λy hy=>by
   rw [hm] at hy
   simp only [ak] at hy
   subst hy
   exact hl.2.1⟩
 .obtain ⟨l,h4,h5⟩:=Jb (Bb h3.sub q ht)
  exact AG h4 h5 hl
theorem Open.same (hO:Open T lo hi N ops A W us s0 b0) (hL:re A L) (hm:A[i]?=some m) (hi:L i=false) (hr:∀ k,m.testBit k=true->L k=true) {k:Nat} (hk:k<ops.length) (hl:¬ A7 A i m k):((λ_=>true) k&&decide (k<i))=L k:=by
 obtain ⟨o,x,h1,h2,h3⟩:=hO.get hk
 by_cases e1:k=i
 .subst e1; simp [hi]
 .cases h4:m.testBit k with
  | true=>simp [hO.below i m hm k h4,hr k h4]
  | false=>
    cases h5:x.testBit i with
    | true=>
      have:=hO.below k x h2 i h5
      have h6:L k=false:=by
       cases hLk:L k with
       | false=>rfl
       | true=>rw [hL k x h2 hLk i h5] at hi; simp at hi
      rw [h6]
      simp; omega
    | false=>exact (hl ⟨e1,h4,λy hy=>by
      rw [h2] at hy
      simp only [ak] at hy
      subst hy
      exact h5⟩).elim
theorem Open.slot (hO:Open T lo hi N ops A W us s0 b0) (hL:re A L) (hm:A[i]?=some m) (jW:i<ops.length) (hi:L i=false) (hr:∀ k,m.testBit k=true->L k=true) {t:Tmp}
  (ht:∀ k o,ops[k]?=some o->o.dst=some t->m.testBit k=true):eJ (er us s0 (λ_=>true) i).sl t=eJ (er us s0 L ops.length).sl t:=by
 rw [<- ny (L:=λ_=>true) (Nat.le_of_lt jW)]
 refine (N1 t).agree λk hk UX=>?_
 obtain ⟨o,x,h1,h2,h3⟩:=hO.get hk
 have h4:=ht k o h1 (hO.dst h1 UX)
 exact hO.same hL hm hi hr hk λhl=>by rw [hl.2.1] at h4; simp at h4
theorem Open.root (hO:Open T lo hi N ops A W us s0 b0) (hL:re A L) (hm:A[i]?=some m) (jW:i<ops.length) (hi:L i=false) (hr:∀ k,m.testBit k=true->L k=true) {q:Nat}
  (hq:q ∉ eC A i m W):aV (er us s0 (λ_=>true) i).rs q=aV (er us s0 L ops.length).rs q:=by
 rw [<- ny (L:=λ_=>true) (Nat.le_of_lt jW)]
 refine (Rp q).agree λk hk UX=>?_
 exact hO.same hL hm hi hr hk λhl=>hq (hO.loose hm hk hl UX)
theorem yv:∀ (ws:List (Nat×ag)) (rs:List ag),(writes ws rs).length=rs.length
 | [],_=>rfl
 | p::ws,rs=>by
   show (writes ws (setAt rs p.1 p.2)).length=_
   rw [yv ws,aT,List.length_set]
theorem Ai:∀ (l:List Nat) (rs:List ag),(xq l rs).length=rs.length
 | [],_=>rfl
 | q::l,rs=>by
   show (xq l (setAt rs q .dead)).length=_
   rw [Ai l,aT,List.length_set]
def aL5:View Nat where
 f s:=s.rs.length
 act u x:=match u.al with
  | some rs=>rs.length
  | none=>x
 od u:=u.al≠none
 on u s:=by
  have:(u.on s).rs=writes u.ws (DI u.al s.rs):=by
   unfold kR.on zU
   cases u.dst with
   | none=>rfl
   | some t=>cases u.val<;>rfl
  rw [this,yv]
  unfold DI
  cases u.al<;>rfl
 idle u x h:=by
  cases hu:u.al with
  | none=>rfl
  | some rs=>exact (h (by rw [hu]; simp)).elim
theorem Open.len (hO:Open T lo hi N ops A W us s0 b0) (hL:re A L) (hm:A[i]?=some m) (jW:i<ops.length) (hi:L i=false) (hr:∀ k,m.testBit k=true->L k=true) :
  (er us s0 (λ_=>true) i).rs.length=(er us s0 L ops.length).rs.length:=by
 rw [<- ny (L:=λ_=>true) (Nat.le_of_lt jW)]
 refine aL5.agree λk hk UX=>?_
 refine hO.same hL hm hi hr hk λhl=>?_
 obtain ⟨o,x,h1,h2,h3⟩:=hO.get hk
 refine (pQ h2 (zl h3.ev UX) hm ?_).elim
 exact ⟨λe=>hl.1 e.symm,hl.2.2 x h2,λy hy=>by
  rw [hm] at hy
  simp only [ak] at hy
  subst hy
  exact hl.2.1⟩
theorem Es {α:Type} {l l':List α} (h:∀ q,aV l q=aV l' q):l=l':=List.ext_getElem? λq=>by rw [<- bV,<- bV,h q]
theorem Open.Vg (hO:Open T lo hi N ops A W us s0 b0) (hL:re A L) (ho:ops[i]?=some o) (hm:A[i]?=some m) (jW:i<ops.length) (hi:L i=false) :
  (er us s0 (more L i) ops.length).rs=((us i).on (er us s0 L ops.length)).rs/\∀ t,eJ (er us s0 (more L i) ops.length).sl t=eJ ((us i).on (er us s0 L ops.length)).sl t:=by
 refine ⟨Es λq=>((Rp q).step jW hi λht k h1 h2 h3 UX=>?_).symm,λt=>((N1 t).step jW hi λht k h1 h2 h3 UX=>?_).symm⟩
 .obtain ⟨o',x,h4,h5,h6⟩:=hO.get h2
  obtain ⟨m',h7,h8⟩:=hO.sec i o ho
  rw [hm] at h7
  simp only [ak] at h7
  subst h7
  have hl:A7 A i m k:=by
   refine ⟨by omega,?_,λy hy=>?_⟩
   .cases hb:m.testBit k with
    | false=>rfl
    | true=>have:=hO.below i m hm k hb; omega
   .cases hb:y.testBit i with
    | false=>rfl
    | true=>rw [hL k y hy h3 i hb] at hi; simp at hi
  rcases ht with ht|ht
  .exact pQ hm (zl h8.ev ht) h5 hl
  .exact vr h8.apart q ht (hO.loose hm h2 hl UX)
 .obtain ⟨o',x,h4,h5,h6⟩:=hO.get h2
  have:=hO.SR i k o o' t ho h4 (hO.dst ho ht) (hO.dst h4 UX)
  omega
theorem xy:∀ {sl:aK} {t:Tmp} {d:D} {c:e5},look sl t=some (d,c)->eJ sl t=some d
 | [],t,d,c,h=>by simp [look] at h
 | (k,x,c')::sl,t,d,c,h=>by
   rw [zy]
   simp only [look] at h
   split at h
   .rename_i hb
    simp only [ak,bw] at h
    rw [hb,h.1]
   .rename_i hb
    rw [hb]; exact xy h
theorem look_nil:∀ {sl:aK} {t:Tmp} {d:D} {c:e5},bM sl->look sl t=some (d,c)->c=[]
 | [],t,d,c,_,h=>by simp [look] at h
 | (k,x,c')::sl,t,d,c,hn,h=>by
   simp only [look] at h
   split at h
   .simp only [ak,bw] at h
    rw [<- h.2]; exact hn _ (eI ..)
   .exact look_nil (λy hy=>hn y (eV _ hy)) h
theorem R.like (h:R T N ay w0 sp s a w E) (hn:bM s.sl) {s':VS} (za:bM s'.sl) (h1:s'.rs=s.rs) (h2:s'.df=s.df) (h3:∀ t,eJ s'.sl t=eJ s.sl t):R T N ay w0 sp s' a w E:=by
 obtain ⟨gb,aJ,Ed⟩:=s'
 simp only at h1 h2
 subst h1 h2
 exact ⟨h.size,h.defers,h.spec,h.below,h.len,h.outer,h.roots,h.cS,h.dD,λt d c hl=>by
  have hc:=look_nil za hl
  subst hc
  exact h.slots t d [] (fM hn ((h3 t).symm.trans (xy hl))),h.gn⟩
theorem Ie {sl gb:aK} {g:Option (Nat×Bool)} (h:∀ j b p t,g=some (j,b)->ops[j]?=some p->p.dst=some t->eJ sl t=eJ gb t):mY ops sl g=mY ops gb g:=by
 unfold mY
 split
 .rfl
 .rename_i j b
  split
  .rename_i p hp
   rw [bV] at hp
   split
   .rename_i t ht
    rw [h j b p t rfl hp ht]
   .rfl
  .rfl
theorem Ep {b:Nat} {rs:List ag} {d:Option D} {ws:List (Nat×ag)} (h:Shape b rs ws) (hb:b<rs.length):EY (.wr d ws) rs=writes ws rs:=by
 rcases h with ⟨x,rfl⟩|⟨q,x,rfl,hq⟩|⟨q,x,y,rfl⟩
 .show place b x rs=setAt rs b x
  rw [ic x hb,aT]
 .show place q x rs=setAt rs q x
  rw [ic x hq,aT]
 .show place b y (setAt rs q x)=setAt (setAt rs q x) b y
  rw [ic y (by rw [aT]; simpa using hb),aT (setAt rs q x)]
theorem Rz {rs:List ag} {d:Option D} {ws:List (Nat×ag)} (h:∀ b,Shape b rs ws):EY (.wr d ws) rs=writes ws rs:=by
 have key:∀ q x,ws=[(q,x)]->q<rs.length->EY (.wr d ws) rs=writes ws rs:=λq x e hq=>by
  subst e
  show place q x rs=setAt rs q x
  rw [ic x hq,aT]
 rcases h 0 with ⟨x,h0⟩|⟨q,x,h0,hq⟩|⟨q,x,y,h0⟩
 .rcases h 1 with ⟨x',h1⟩|⟨q',x',h1,hq⟩|⟨q',x',y',h1⟩
  .rw [h0] at h1; simp at h1
  .exact key _ _ h1 hq
  .rw [h0] at h1; simp at h1
 .exact key _ _ h0 hq
 .rcases h 1 with ⟨x',h1⟩|⟨q',x',h1,hq⟩|⟨q',x',y',h1⟩
  .rw [h0] at h1; simp at h1
  .exact key _ _ h1 hq
  .rw [h0] at h1; simp at h1
theorem R.DB (h:R T N ay w0 sp s a w E) {r:Nat} (hE:E[r]?=some hole):s.rs[r]?=some .dead:=by
 have hr:r<s.rs.length:=by rw [<- h.len]; exact (List.getElem?_eq_some_iff.1 hE).1
 have hx:=eK hr
 rw [hx]
 have hrel:=h.roots r _ _ hx hE
 generalize s.rs[r]=x at hrel
 cases x with
 | dead=>rfl
 | box l=>obtain ⟨b,_,_,h1,_⟩:=hrel; simp [hole] at h1
 | arr el sz n get=>
   obtain ⟨_,_,xs,h1,_⟩:=hrel
   rcases h1.2 with ⟨h2,_⟩|⟨g,cap,cur,h2,_⟩<;>simp [hole,undef] at h2
 | row el sz n l=>
   obtain ⟨_,_,xs,h1,_⟩:=hrel
   rcases h1.2 with ⟨h2,_⟩|⟨g,cap,cur,h2,_⟩<;>simp [hole,undef] at h2
 | bt el sz n get et=>
   obtain ⟨_,_,xs,h1,_⟩:=hrel
   rcases h1.2 with ⟨h2,_⟩|⟨g,cap,cur,h2,_⟩<;>simp [hole,undef] at h2
 | own l=>
   obtain ⟨_,h0,vs,h1,h2,_⟩:=hrel
   simp only [hole,undef,Value.tuple.injEq] at h1
   rw [<- h1] at h2
   exact (h0 (List.length_eq_zero_iff.1 (by simpa using h2.symm))).elim
 | set l=>obtain ⟨b,_,_,h1,_⟩:=hrel; simp [hole] at h1
 | loop f M sl ps as bd st fF=>obtain ⟨b,_,_,h1,_⟩:=hrel; simp [hole] at h1
 | kA=>obtain ⟨b,h1,_⟩:=hrel; simp [hole] at h1
structure ox (b0:Nat) (E E':Env):Prop where
 le:Env.le E E'
 free:∀ q:Nat,q<b0->E[q]?=some hole->E'[q]?=some hole
theorem ox.trans {b0:Nat} {E F G:Env} (h:ox b0 E F) (k:ox b0 F G):ox b0 E G:=⟨h.le.trans k.le,λq hq e=>k.free q hq (h.free q hq e)⟩
theorem ox.refl (b0:Nat) (E:Env):ox b0 E E:=⟨Env.le_refl E,λ_ _ h=>h⟩
theorem NK {b b':Nat} {s:VS} {dst:Option Tmp} {op:Op} {d:D} {rs:List ag} (h:fO T lo hi b s dst op=some (.all d rs)):fO T lo hi b' s dst op=some (.all d rs):=by
 by_cases hm:eu op=0
 .rw [oM hm (b':=b)]; exact h
 unfold fO at h ⊢
 split at h
 .simp at h
 .rename_i hl
  cases op with
  | call c=>
    have h:gG T lo hi b s c=_:=h
    show gG T lo hi b' s c=_
    unfold gG at h ⊢
    split at h
    .exfalso
     have fin:∀ {el sz k:Nat} {l':List C} {zS:Nat} {c:C},Eb el sz k l' zS b s.rs c≠some (.all d rs):=by
      intro el sz k l' zS c q
      unfold Eb at q
      split at q
      .split at q
       .simp at q
       .replace q:=(Bool.au q).2; simp at q
      .split at q
       .replace q:=(Bool.au q).2
        replace q:=(Bool.au q).2
        simp at q
       .split at q
        .replace q:=(Bool.au q).2
         replace q:=(Bool.au q).2
         simp at q
        .simp at q
       .simp at q
      .simp at q
     unfold oR at h
     split at h
     case h_2=>simp at h
     replace h:=(Bool.au h).2
     split at h
     case h_2=>simp at h
     split at h
     .rename_i e' he'
      subst h
      unfold pX at he'
      split at he'
      case h_2=>simp at he'
      split at he'
      case h_2=>simp at he'
      split at he'
      case h_2=>simp at he'
      simp only [ak] at he'
      unfold DA at he'
      split at he'
      .replace he':=(Bool.au he').2
       unfold qV at he'
       split at he'
       .replace he':=(Bool.au he').2
        simp at he'
       .split at he'
        .replace he':=(Bool.au he').2
         replace he':=(Bool.au he').2
         replace he':=(Bool.au he').2
         simp at he'
        .simp at he'
       .simp at he'
      .unfold oP at he'
       split at he'
       .simp at he'
       .simp at he'
     unfold oW at h
     split at h
     case h_2=>simp at h
     split at h
     case h_2=>simp at h
     split at h
     case h_2=>simp at h
     split at h
     case h_2=>simp at h
     split at h
     .exact fin (Bool.au h).2
     .exact fin (Bool.au h).2
    .unfold ml at h ⊢
     split at h
     case h_2=>simp at h
     split at h
     .exact h
     .split at h
      case h_2=>simp at h
      unfold oQ at h ⊢
      split at h
      .exact h
      .exact h
      .exfalso
       unfold gf at h
       split at h
       .simp at h
       .revert h
        generalize fe _=p
        intro h
        cases p with
        | true=>simp at h
        | false=>
          rcases eU h with ⟨l,hl⟩|⟨hl,_⟩
          .cases hl
          .cases hl
       .rcases eU h with ⟨l,hl⟩|⟨hl,_⟩
        .cases hl
        .cases hl
       .simp at h
      .exfalso
       unfold SC at h
       split at h
       .replace h:=(Bool.au h).2
        simp at h
       .simp at h
      .exfalso
       obtain ⟨is',cs,oH,L,_,_,_,_,q⟩:=kN h
       cases q
      .exact h
    .simp at h
  | box t x=>
    have h:vI b s x=_:=h
    unfold vI at h
    split at h<;>(try split at h)<;>simp at h
  | alloc t=>
    have h:lu T b t=_:=h
    unfold lu at h
    split at h<;>(try split at h)<;>simp at h
  | makeMap t r=>
    have h:ld T b t r=_:=h
    unfold ld at h
    split at h<;>simp at h
  | makeSlice t l c=>
    have h:mW T b s t l c=_:=h
    unfold mW at h
    split at h
    case h_2=>simp at h
    split at h
    case h_2=>simp at h
    split at h
    case h_2=>simp at h
    split at h
    case h_2=>simp at h
    split at h
    case h_2=>simp at h
    replace h:=(Bool.au h).2
    replace h:=(Bool.au h).2
    replace h:=(Bool.au h).2
    simp at h
  | buildSlice t n ps=>
    have h:MN T b s (rU hi dst) t n ps.toList=_:=h
    unfold MN at h
    split at h
    case h_2=>simp at h
    split at h
    case h_2=>simp at h
    split at h
    case h_2=>simp at h
    split at h
    case h_2=>simp at h
    replace h:=(Bool.au h).2
    rcases jO (rU hi dst) b _ _ n _ with hc|⟨_,_,hc⟩|⟨_,hc⟩<;>rw [hc] at h<;>simp at h
  | _=>exact (hm rfl).elim
def Fe (ops:List Oper) (b0:Nat) (L:Nat->Bool) (E:Env):Prop:=∀ j o,ops[j]?=some o->L j=false->eu o.op≠0->E[b0+dO (ops.take j)]?=some hole
theorem qd (l m:List Oper):dO (l++m)=dO l+dO m:=by
 induction l with
 | nil=>show dO m=0+dO m; omega
 | cons o l ih=>
   show eu o.op+dO (l++m)=(eu o.op+dO l)+dO m
   rw [ih]; omega
theorem jB {ops:List Oper} {j:Nat} {o:Oper} (h:ops[j]?=some o):dO (ops.take (j+1))=dO (ops.take j)+eu o.op:=by
 rw [List.take_add_one,h,qd]
 show dO (ops.take j)+(eu o.op+0)=_
 omega
theorem lB (ops:List Oper) {j k:Nat} (h:j<=k):dO (ops.take j)<=dO (ops.take k):=by
 have h1:=List.take_append_drop j (ops.take k)
 rw [List.take_take,Nat.min_eq_left h] at h1
 rw [<- h1,qd]
 omega
theorem Mo {j k:Nat} {o o':Oper} (hj:ops[j]?=some o) (hk:ops[k]?=some o') (h1:eu o.op≠0) (h2:eu o'.op≠0) (oZ:j≠k):dO (ops.take j)≠dO (ops.take k):=by
 rcases Nat.lt_or_ge j k with h|h
 .have:=lB ops (j:=j+1) (k:=k) h
  rw [jB hj] at this
  omega
 .have:=lB ops (j:=k+1) (k:=j) (by omega)
  rw [jB hk] at this
  omega
theorem PI {s:VS} {dst:Option Tmp} {e:cm} {u:kR} (hd:u.dst=dst) (w5:Ec N u.dst u.val=true) (hv:u.val=dV e) (T8:∀ l,e ≠ .cD l) (Et:EY e s.rs=writes u.ws (DI u.al s.rs)):qb N s dst e=some (u.on s):=by
 subst hd
 have key:∀ (d:D) (s1:VS),u.val=some d->s1={ s with rs:=writes u.ws (DI u.al s.rs) }->rA N s1 u.dst d=some (u.on s):=λd s1 hv hs=>by
  subst hs
  unfold kR.on rA zU
  unfold Ec at w5
  cases hdst:u.dst with
  | none=>rfl
  | some t=>
    rw [hdst,hv] at w5
    simp only [hv,show Nat.blt t N=true from w5]
 cases e with
 | val d=>
   refine key d s hv ?_
   obtain ⟨sl,rs,df⟩:=s
   have:rs=_:=Et
   simp only at this ⊢
   rw [<- this]
 | wr d ws=>
   show KK N _ u.dst d=_
   have hv:u.val=d:=hv
   cases d with
   | some d=>exact key d _ hv (by rw [<- Et])
   | none=>
     unfold Ec at w5
     unfold kR.on zU KK
     cases hdst:u.dst with
     | none=>simp only [<- Et]
     | some t=>rw [hdst,hv] at w5; simp at w5
 | all d rs=>exact key d _ hv (by rw [<- Et]; rfl)
 | cD l=>exact (T8 l rfl).elim
theorem Open.op {ops:Array Oper} (hO:Open T lo hi N ops.toList A W us s0 b0) (bQ:dH P T) (Je:gP T P lo) (hL:re A L) (ho:ops[i]?=some o) (hm:A[i]?=some m) (W0:L i=false) (hr:∀ k,m.testBit k=true->L k=true)
  (h:R T N ay w0 sp (er us s0 L ops.size) a w E) (hn:bM s0.sl) (hh:Fe ops.toList b0 L E) {Q:Exit->Act->World->Prop} {K:Act->World->Prop}
  (hK:∀ a' w' E',ox b0 E E'->R T N ay w0 sp (er us s0 (more L i) ops.size) a' w' E'->Fe ops.toList b0 (more L i) E'->K a' w'):wpOpIn (Fr ρ) 0 P ops Q i K a w:=by
 have hlen:ops.toList.length=ops.size:=by simp
 have Rh:ops.toList[i]?=some o:=by simpa using ho
 have jW:i<ops.toList.length:=(List.getElem?_eq_some_iff.1 Rh).1
 obtain ⟨m',h1,hs⟩:=hO.sec i o Rh
 rw [hm] at h1
 simp only [ak] at h1
 subst h1
 have hord:=hO.order i o m Rh hm
 let S:=er us s0 L ops.size
 have hnS:bM S.sl:=oY hn _
 have slot:∀ {t:Tmp},(∀ k o,ops.toList[k]?=some o->o.dst=some t->m.testBit k=true)->eJ (er us s0 (λ_=>true) i).sl t=eJ S.sl t:=λht=>by
  have:=hO.slot hL hm jW W0 hr ht
  rw [hlen] at this
  exact this
 have hfin:∀ {a' w' E'},ox b0 E E'->R T N ay w0 sp ((us i).on S) a' w' E'->Fe ops.toList b0 (more L i) E'->K a' w':=λ{a' w' E'} Y5 hR hH=>by
  obtain ⟨q1,q2⟩:=hO.Vg hL Rh hm jW W0
  rw [hlen] at q1 q2
  exact hK _ _ _ Y5 (hR.like (kR.Nq _ hnS) (oY hn _) q1 (by rw [kR.Wa,wo,wo]) q2) hH
 have hwant:∀ {b:Bool},mY ops.toList (UP (eC A i m W) (er us s0 (λ_=>true) i)).sl o.guard=some b->Region.wanted o (yielded ops a.tmps)=b:=λ{b} hw=>by
  rw [Df] at hw
  refine rf h hnS (b:=b) ?_
  rw [<- hw]
  refine (Ie λj b p t hg hp ht=>?_).symm
  refine slot λk o1 hk kT=>?_
  have:=hO.SR j k p o1 t hp hk ht kT
  subst this
  have:=hord.1
  rw [hg] at this
  exact this
 unfold wpOpIn
 rw [ho]
 simp only
 rcases uj hs.ev with ⟨hw,hu⟩|⟨hw,e,he,T8,hdst,hcase⟩
 .rw [if_neg (by rw [hwant hw]; simp)]
  refine ⟨λ_ _=>trivial,?_⟩
  have l8:rA N S o.dst (.t [])=some ((us i).on S):=by
   have w5:=hs.ok
   rw [hu] at w5 ⊢
   unfold rA kR.on zU
   unfold Ec at w5
   cases hd:o.dst with
   | none=>rfl
   | some t=>
     rw [hd] at w5
     simp only at w5
     simp only [w5]
     rfl
  obtain ⟨h2,h3⟩:=qO h hnS l8 A0
  refine hfin (ox.refl _ _) h2 λj oj hj zB TD=>?_
  by_cases hji:j=i
  .subst hji; rw [iD] at zB; simp at zB
  .rw [jb hji] at zB; exact hh j oj hj zB TD
 .rw [if_pos (hwant hw)]
  rw [Df] at he
  have hops:∀ x∈o.op.operands.toList,cl (er us s0 (λ_=>true) i).sl x=cl S.sl x:=λx hx=>by
   cases x with
   | tmp t=>
     refine slot λk o1 hk kT=>?_
     have:=ll hord.2 t hx
     unfold KU at this
     split at this
     .rename_i j hj
      obtain ⟨j',o2,h4,h5,h6⟩:=xE hj
      have:=hO.SR j' k o2 o1 t h5 hk h6 kT
      subst this
      rw [Nat.zero_add] at h4
      subst h4
      assumption
     .rename_i hj
      exact (qA hj k o1 hk kT).elim
   | _=>rfl
  have hrle:pH (xq (eC A i m W) (er us s0 (λ_=>true) i).rs) S.rs:=λq x hq hx=>by
   obtain ⟨h4,h5⟩:=Ap _ _ hq hx
   have:=hO.root hL hm jW W0 hr h4
   rw [hlen] at this
   rw [<- this]; exact h5
  have hall:∀ d r,e=.all d r->xq (eC A i m W) (er us s0 (λ_=>true) i).rs=S.rs:=λd r hd=>by
   have qN:eC A i m W=[]:=by
    rcases hcase with ⟨_,h4,_⟩|⟨_,_,h4,_⟩|⟨_,_,_,_,_,_,h4⟩|⟨_,_,_,_,_,_,h4,_⟩
    .rw [hd] at h4; cases h4
    .rw [hd] at h4; cases h4
    .exact Al λx hx=>by
      obtain ⟨_,y,_,h5,_⟩:=hO.get (hO.keys x hx)
      exact pQ hm h4 h5
    .have:=hs.ex
     rw [h4] at this
     unfold Sz at this
     simp only at this
     split at this
     .assumption
     .simp at this
   rw [qN]
   refine Es λq=>?_
   have:=hO.root hL hm jW W0 hr (q:=q) (by rw [qN]; simp)
   rw [hlen] at this
   exact this
  have heS:fO T lo hi (b0+dO (ops.toList.take i)) S o.dst o.op=some e:=If (Ed:=S.df) Je.mono (by rw [Ai]; have:=hO.len hL hm jW W0 hr; rw [hlen] at this; exact this) hrle hops T8 hall he
  by_cases hc4:∃ d rs,e=.all d rs/\(us i).val=some d/\lo.diff S.rs rs=some (us i).ws/\(us i).al=none/\jz S.rs.length d=true
  .obtain ⟨d,aJ,h4,h5,h6,h7,h8⟩:=hc4
   subst h4
   have he':=NK (b':=S.rs.length) heS
   rcases qK bQ Je h hnS (.inr rfl) he' (next:=K) (λv w' E' ha=>by
    obtain ⟨g1,g2,g3⟩:=ha
    have hk:=Kept.KX g1 (Nat.le_of_eq h.len)
    obtain ⟨E1,hkE,hEl,k1,k2⟩:=R.trim (sl:=S.sl) (df:=S.df) h g2 hk (Je.diff _ _ _ h6) h8 (g3 d rfl)
    have l8:rA N { S with rs:=writes (us i).ws S.rs } o.dst d=some ((us i).on S):=by
     have w5:=hs.ok
     rw [<- hdst]
     unfold kR.on rA zU DI
     unfold Ec at w5
     rw [h7,h5]
     cases hdst':(us i).dst with
     | none=>rfl
     | some t=>
       rw [hdst',h5] at w5
       simp only [show Nat.blt t N=true from w5]
    obtain ⟨k3,k4⟩:=qO k1 hnS l8 k2
    refine hfin ⟨hkE.le,λq _ e=>hkE.free q e⟩ k3 λj oj hj zB TD=>?_
    by_cases hji:j=i
    .subst hji; rw [iD] at zB; simp at zB
    .rw [jb hji] at zB; exact hkE.free _ (hh j oj hj zB TD)) with ⟨l,hl⟩|h3
   .exact (T8 l hl).elim
   .exact h3.wpIn
  have hcase:(∃ d,e=.val d/\(us i).val=some d/\(us i).ws=[]/\(us i).al=none)∨(∃ d ws,e=.wr d ws/\(us i).val=d/\(us i).ws=ws/\(us i).al=none)∨(∃ d rs,e=.all d rs/\(us i).val=some d/\(us i).ws=[]/\(us i).al=some rs/\Gd A i=true):=by
   rcases hcase with q|q|q|⟨d,rs,q1,q2,q3,q4,q5,q6⟩
   .exact .inl q
   .exact .inr (.inl q)
   .exact .inr (.inr q)
   .refine (hc4 ⟨d,rs,q1,q2,?_,q4,?_⟩).elim
    .have q7:=hall d rs q1
     rw [Df] at q3
     simp only at q3
     rw [q7] at q3
     exact q3
    .have q7:=hall d rs q1
     rw [Df] at q6
     simp only at q6
     rw [q7] at q6
     exact q6
  have hbr:∃ b,fO T lo hi b S o.dst o.op=some e/\lS S E b/\EY e S.rs=writes (us i).ws (DI (us i).al S.rs)/\(∀ E',mF b E E'->Fe ops.toList b0 (more L i) E')/\(∀ E',mF b E E'->ox b0 E E'):=by
   by_cases TD:eu o.op=0
   .refine ⟨S.rs.length,by rw [oM TD (b':=b0+dO (ops.toList.take i))]; exact heS,.inr rfl,?_,λE' hg j oj hj zB Uz=>?_,λE' hg=>⟨hg.le,λq hq e=>hg.free q (λe'=>by
     have:=(List.getElem?_eq_some_iff.1 e).1
     rw [h.len] at this
     exact Nat.lt_irrefl _ (e'▸this)) e⟩⟩
    .rcases hcase with ⟨d,h4,_,h5,h6⟩|⟨d,ws,h4,_,h5,h6⟩|⟨d,rs,h4,_,h5,h6,_⟩
     .rw [h4,h5,h6]; rfl
     .rw [h4,h5,h6]
      refine Rz λb=>yb (T:=T) (lo:=lo) (hi:=hi) (dst:=o.dst) (op:=o.op) (d:=d) (s:=S) ?_
      rw [oM TD (b':=b0+dO (ops.toList.take i)),heS,h4]
     .rw [h4,h5,h6]; rfl
    .by_cases hji:j=i
     .subst hji; rw [iD] at zB; simp at zB
     .rw [jb hji] at zB
      have h7:=hh j oj hj zB Uz
      refine hg.free _ ?_ h7
      have:=(List.getElem?_eq_some_iff.1 h7).1
      rw [h.len] at this
      exact Nat.ne_of_lt this
   .have h7:=hh i o Rh W0 TD
    have dB:b0+dO (ops.toList.take i)<S.rs.length:=by
     have:=(List.getElem?_eq_some_iff.1 h7).1
     rw [h.len] at this
     exact this
    refine ⟨_,heS,.inl ⟨h.DB h7,h7⟩,?_,λE' hg j oj hj zB Uz=>?_,λE' hg=>⟨hg.le,λq hq e=>hg.free q (by omega) e⟩⟩
    .rcases hcase with ⟨d,h4,_,h5,h6⟩|⟨d,ws,h4,_,h5,h6⟩|⟨d,rs,h4,_,h5,h6,_⟩
     .rw [h4,h5,h6]; rfl
     .rw [h4,h5,h6]
      rw [h4] at heS
      exact Ep (yb heS) dB
     .rw [h4,h5,h6]; rfl
    .by_cases hji:j=i
     .subst hji; rw [iD] at zB; simp at zB
     .rw [jb hji] at zB
      have h8:=hh j oj hj zB Uz
      refine hg.free _ ?_ h8
      have:=Mo hj Rh Uz TD hji
      omega
  obtain ⟨b,hb1,hb2,hb3,hb4,hb5⟩:=hbr
  have hval:(us i).val=dV e:=by
   rcases hcase with ⟨d,h4,h5,_⟩|⟨d,ws,h4,h5,_⟩|⟨d,rs,h4,h5,_⟩<;>rw [h4,h5]<;>rfl
  have l8:=PI hdst hs.ok hval T8 hb3
  have hd:=FU hb1
  rcases qK bQ Je h hnS hb2 hb1 (next:=K) (λv w' E' ha=>by
   obtain ⟨h3,h4⟩:=JW hnS l8 ha (λq=>by
    rcases hd with ⟨l,hl⟩|hd|hd
    .exact (T8 l hl).elim
    .exact (hd q).elim
    .exact hd)
   exact hfin (hb5 _ ha.1) h3 (hb4 _ ha.1)) with ⟨l,hl⟩|h3
  .exact (T8 l hl).elim
  .exact h3.wpIn
end
def Sx:List Bool->Nat
 | []=>0
 | true::l=>Sx l
 | false::l=>Sx l+1
theorem JI:∀ {l:List Bool} {i:Nat},l[i]?=some false->Sx (l.set i true)+1=Sx l
 | [],i,h=>by simp at h
 | b::l,0,h=>by
   simp at h; subst h; rfl
 | b::l,i+1,h=>by
   have ih:=JI (l:=l) (i:=i) (by simpa using h)
   cases b with
   | true=>exact ih
   | false=>simp only [List.set_cons_succ,Sx]; omega
theorem wZ:∀ {l:List Bool},Sx l=0->∀ (i:Nat),l[i]?≠some false
 | [],_,i=>by simp
 | true::l,h,i=>by
   cases i with
   | zero=>simp
   | succ i=>simpa using wZ (l:=l) h i
 | false::l,h,i=>by simp [Sx] at h
theorem qe:∀ n,Sx (List.replicate n false)=n
 | 0=>rfl
 | n+1=>by rw [List.replicate_succ]; simp only [Sx]; rw [qe n]
section
variable {ops:Array Oper} {A:List Nat} {W:List (Nat×List Nat)} {us:Nat->kR} {s0:VS} {b0:Nat}
theorem tC {cR:Array Bool} {i:Nat} (h:i∈Region.ready .any ops cR):i<ops.size/\cR.getD i true=false/\∃ o,ops[i]?=some o/\∀ e∈o.after.toList,Region.binds .any e=true->cR.getD e.on false=true:=by
 unfold Region.ready at h
 rw [List.mem_filter,List.mem_range,dJ] at h
 obtain ⟨h1,h2,h3⟩:=h
 refine ⟨h1,by simpa using h2,?_⟩
 rw [Array.getElem?_eq_getElem h1] at h3 ⊢
 refine ⟨_,rfl,λe he hb=>?_⟩
 simp only [Option.map_some,Option.getD_some] at h3
 rw [<- Array.all_toList,List.all_eq_true] at h3
 have:=h3 e he
 simpa [hb] using this
theorem Mv {cR:Array Bool} (hO:Open T lo hi N ops.toList A W us s0 b0) (fo:cR.size=ops.size) (h:Region.ready .any ops cR=[]):∀ k,k<ops.size->cR.getD k false=true:=by
 intro k
 induction k using Nat.strongRecOn with
 | _ k ih=>
   intro hk
   cases hL:cR.getD k false with
   | true=>rfl
   | false=>
     have kT:k<cR.size:=by omega
     have hget:cR[k]=false:=by simpa [Array.getD,kT] using hL
     have:k∈Region.ready .any ops cR:=by
      unfold Region.ready
      rw [List.mem_filter,List.mem_range,dJ]
      refine ⟨hk,by simp [Array.getD,kT,hget],?_⟩
      rw [Array.getElem?_eq_getElem hk]
      simp only [Option.map_some,Option.getD_some]
      rw [<- Array.all_toList,List.all_eq_true]
      intro e he
      cases hb:Region.binds .any e with
      | false=>rfl
      | true=>
        have ho:ops.toList[k]?=some ops[k]:=by simp [hk]
        obtain ⟨m,hm,_⟩:=hO.sec k _ ho
        have hbit:m.testBit e.on=true:=(hO.anc.bits k _ m ho hm e.on).2 ⟨e,he,hb,.inl rfl⟩
        have dB:=hO.below k m hm e.on hbit
        simp only [Bool.not_true,Bool.false_or]
        exact ih e.on dB (by omega)
     rw [h] at this
     simp at this
theorem Open.run (hO:Open T lo hi N ops.toList A W us s0 b0) (bQ:dH P T) (Je:gP T P lo) (hn:bM s0.sl) {Q:Exit->Act->World->Prop}
  {E0:Env} (hQ:∀ a' w' E',ox b0 E0 E'->R T N ay w0 sp (er us s0 (λ_=>true) ops.size) a' w' E'->Q .normal a' w') :
  ∀ (fuel:Nat) (cR:Array Bool) (a:Act) (w:World) (E:Env),ox b0 E0 E->cR.size=ops.size->re A (λk=>cR.getD k false)->R T N ay w0 sp (er us s0 (λk=>cR.getD k false) ops.size) a w E->
   Fe ops.toList b0 (λk=>cR.getD k false) E->Sx cR.toList<=fuel->wpAnyIn (Fr ρ) 0 P .any ops Q fuel cR a w
 | fuel,cR,a,w,E,Y5,fo,hC,h,hh,hu=>by
   have hend:Region.ready .any ops cR=[]->Q .normal a w:=λhr=>by
    have hall:=Mv hO fo hr
    rw [nA (L':=λ_=>true) λk hk=>hall k hk] at h
    exact hQ _ _ _ Y5 h
   cases fuel with
   | zero=>
     refine ⟨?_,?_⟩
     .cases hr:Region.ready .any ops cR with
      | nil=>rfl
      | cons i l=>
        obtain ⟨h1,h2,_⟩:=tC (show i∈Region.ready .any ops cR by rw [hr]; simp)
        have jW:i<cR.size:=by omega
        refine (wZ (l:=cR.toList) (by omega) i ?_).elim
        simp [Array.getD,jW] at h2
        simp [jW,h2]
     .refine hend ?_
      cases hr:Region.ready .any ops cR with
      | nil=>rfl
      | cons i l=>
        obtain ⟨h1,h2,_⟩:=tC (show i∈Region.ready .any ops cR by rw [hr]; simp)
        have jW:i<cR.size:=by omega
        refine (wZ (l:=cR.toList) (by omega) i ?_).elim
        simp [Array.getD,jW] at h2
        simp [jW,h2]
   | succ fuel=>
     refine ⟨hend,λi hi=>?_⟩
     obtain ⟨h1,h2,o,ho,hdep⟩:=tC hi
     have jW:i<cR.size:=by omega
     have hget:cR[i]=false:=by simpa [Array.getD,jW] using h2
     have Rh:ops.toList[i]?=some o:=by simpa using ho
     obtain ⟨m,hm,_⟩:=hO.sec i o Rh
     have W0:cR.getD i false=false:=by simp [Array.getD,jW,hget]
     have hr:∀ k,m.testBit k=true->cR.getD k false=true:=λk hk=>by
      obtain ⟨e,he,hb,h3⟩:=(hO.anc.bits i o m Rh hm k).1 hk
      have h4:=hdep e he hb
      rcases h3 with rfl|⟨x,hx,hxk⟩
      .exact h4
      .rw [dx] at hx
       split at hx
       .exact hC e.on x hx h4 k hxk
       .simp at hx
     have hmore:∀ k,(cR.setIfInBounds i true).getD k false=more (λk=>cR.getD k false) i k:=λk=>by
      by_cases hk:k=i
      .subst hk; rw [iD]; simp [Array.getD,jW]
      .rw [jb hk]
       simp only [Array.getD,Array.size_setIfInBounds]
       split
       .rename_i hks
        simp only [Array.getInternal_eq_getElem]
        rw [Array.getElem_setIfInBounds,if_neg (λe=>hk e.symm)]
       .rfl
     refine hO.op (L:=λk=>cR.getD k false) bQ Je hC ho hm W0 hr h hn hh λa' w' E' aC3 hR hH=>?_
     refine Open.run hO bQ Je hn hQ fuel (cR.setIfInBounds i true) a' w' E' (Y5.trans aC3) (by simpa using fo) ?_ ?_ ?_ ?_
     .intro j x hx hj k hk
      simp only [hmore] at hj ⊢
      by_cases hji:j=i
      .subst hji
       rw [hm] at hx
       simp only [ak] at hx
       subst hx
       have:=hr k hk
       by_cases hki:k=j
       .subst hki; exact iD _
       .rw [jb hki]; exact this
      .rw [jb hji] at hj
       by_cases hki:k=i
       .subst hki; exact iD _
       .rw [jb hki]; exact hC j x hx hj k hk
     .rw [nA λk _=>hmore k]; exact hR
     .intro j oj hj zB
      simp only [hmore] at zB
      exact hH j oj hj zB
     .have:=JI (l:=cR.toList) (i:=i) (by simp [jW,hget])
      rw [Array.toList_setIfInBounds]
      omega
end
theorem vq (bQ:dH P T) (Je:gP T P lo) {ops:Array Oper} (l8:si ops.toList=true) {sF:VS} {Q:Exit->Act->World->Prop} (hQ:∀ a' w' E',Kept E E'->R T N ay w0 sp sF a' w' E'->bM sF.sl->Q .normal a' w') :
  ∀ (n:Nat) {s:VS},yP T lo hi N ops.toList n s=some sF->R T N ay w0 sp s a w E->bM s.sl->wpAnyIn (Fr ρ) 0 P .any ops Q ops.size (Array.replicate ops.size false) a w
 | 0,s,e,h,hn=>by
   have e:(none:Option VS)=some sF:=e
   simp at e
 | n+1,s,e,h,hn=>by
   have e:(match mn T lo hi N (jm ops.toList []) ops.toList ops.toList 0 s.rs.length [] (fP ops.toList s) with
    | some (.cD l)=>match gK l s with
      | some s'=>yP T lo hi N ops.toList n s'
      | none=>none
    | some (.ok W s')=>Am T lo hi N ops.toList (fP ops.toList s) s' s.rs.length W
    | none=>none)=some sF:=e
   split at e
   .split at e
    case h_2=>simp at e
    rename_i s' hs'
    obtain ⟨h1,h2⟩:=h.gK hs'
    exact vq bQ Je l8 hQ n e h1 (h2 hn)
   .rename_i W s' hf
    have hlen:ops.toList.length=ops.size:=by simp
    have hanc:=Yb ops.toList
    have hsec:∃ W,(∀ x∈W,x.1<ops.toList.length)/\kB T lo hi N ops.toList (jm ops.toList []) W ops.toList (jm ops.toList []) 0 s.rs.length (fP ops.toList s)=some sF:=by
     unfold Am at e
     split at e
     .simp only [ak] at e
      subst e
      exact ⟨[],λx hx=>by simp at hx,(qc hf).2 _ hanc.len⟩
     .exact ⟨_,λx hx=>by have:=vm hf (λx hx=>by simp at hx) x hx; omega,e⟩
    obtain ⟨W,hkeys,hsec⟩:=hsec
    obtain ⟨us,h1,h2⟩:=sL hsec
    unfold si at l8
    simp only [dJ] at l8
    have hO:Open T lo hi N ops.toList (jm ops.toList []) W us (fP ops.toList s) s.rs.length:={
     anc:=hanc
     below:=λi m hm j hj=>by have:=vz l8.2.2 i m hm j hj; omega
     order:=λi o m ho hm=>uR l8.2.1 i o m ho hm
     SR:=yI l8.1
     keys:=hkeys
     sec:=λk o hk=>by
      obtain ⟨m,h3,h4⟩:=h2 k o hk
      rw [Nat.zero_add] at h4
      exact ⟨m,h3,h4⟩ }
    have hR:=h.Ww (dO ops.toList)
    have qN:bM (fP ops.toList s).sl:=hn
    rw [hlen] at h1
    have hget0:∀ k,(Array.replicate ops.size false).getD k false=false:=λk=>by simp [Array.getD]
    have hS0:er us (fP ops.toList s) (λk=>(Array.replicate ops.size false).getD k false) ops.size=fP ops.toList s:=by
     rw [nA (L':=λ_=>false) λk _=>hget0 k]
     have:∀ n,er us (fP ops.toList s) (λ_=>false) n=fP ops.toList s:=by
      intro n
      induction n with
      | zero=>rfl
      | succ n ih=>simp only [er]; exact ih
     exact this _
    refine Open.run hO bQ Je qN (E0:=E) (λa' w' E' Y5 uq=>hQ a' w' E' ⟨Y5.le,λq e=>Y5.free q (by rw [<- h.len]; exact (List.getElem?_eq_some_iff.1 e).1) e⟩ (by rw [h1]; exact uq) (by rw [h1]; exact oY qN _)) ops.size _ a w (E++List.replicate (dO ops.toList) hole)
     ⟨Env.eb _ _,λq _ e=>by rw [dv (List.getElem?_eq_some_iff.1 e).1]; exact e⟩ (by simp) ?_ ?_ ?_ ?_
    .intro j m _ hj
     simp only [hget0] at hj
     simp at hj
    .rw [hS0]; exact hR
    .intro j o hj _ TD
     rw [<- h.len,gm (by omega),List.getElem?_replicate,if_pos]
     have h5:=jB hj
     have h6:=lB ops.toList (j:=j+1) (k:=ops.toList.length) (List.getElem?_eq_some_iff.1 hj).1
     rw [List.take_length] at h6
     omega
    .rw [Array.toList_replicate,qe]; exact bG _
   .simp at e
theorem El (bQ:dH P T) (hl:gP T P lo) (Ea:P.follows .mixedOrders=true) (h:R T N ay w0 sp s a w E) (hn:bM s.sl) {f:FuncId} {ro:Option Nat} {id:Nat} {ops:Array Oper} {s':VS} (e:regionF T lo hi N f ro id ops.toList true s=some s')
  {b:Frame} {k:List Item} {cs:List Frame}:∃ a' w' E',Kept E E'/\R T N ay w0 sp s' a' w' E'/\bM s'.sl/\Steps P (lone (b.atR a (.code (.region id ops true)::k)) cs w) (lone (b.atR a' k) cs w'):=by
 unfold regionF at e
 simp only at e
 split at e
 .simp at e
 split at e
 case h_2=>simp at e
 rename_i l8
 split at e
 case h_2=>simp at e
 rename_i s1 hs1
 simp only [ak] at e
 subst e
 have hg:R T N ay w0 sp s a { w with drawn:=w.drawn+1 } E:=h.grown ⟨rfl,rfl,rfl,bG _,λ_ _=>rfl⟩
 have hw:=vq (ρ:=b.roundOf) (Q:=λen a' w'=>en=.normal/\∃ E',Kept E E'/\R T N ay w0 sp s1 a' w' E'/\bM s1.sl) bQ hl l8 (λa' w' E' hk h1 h2=>⟨rfl,E',hk,h1,h2⟩) 8 hs1 hg hn
 obtain ⟨en,a',w',⟨rfl,E',hk,h1,h2⟩,harr⟩:=wpIn_region_any (id:=id) Ea hw b k cs rfl trivial (JK _ _)
 obtain ⟨h3,h4⟩:=JG (hi:=hi) h1 h2 f id
 exact ⟨a',w',E',hk,h3,h4,StepsIn.steps harr⟩
end
open Go.RowKit
section
variable {P:Program} {T:dL} {lo:Lo} {hi:Hint} {N:Nat} {ay:Nat->Prop} {w0:Kp} {sp:List (D×Value)} {s:VS} {a:Act} {w:World} {E:Env} {f:FuncId} {ro:Option Nat}
def iZ (E:Env) (b:Frame):Option Nat->Prop
 | none=>b.roundOf=none
 | some r=>∃ l sz,b.roundOf=some l/\bq E r l sz
theorem iZ.mono {E E':Env} {b:Frame} (hE:Env.le E E'):∀ {ro:Option Nat},iZ E b ro->iZ E' b ro
 | none,h=>h
 | some r,⟨l,sz,h1,h2⟩=>⟨l,sz,h1,hE.at_ h2⟩
def uS:Option Code->List Item->Prop
 | none,todo=>todo=[]
 | some c,todo=>(∃ k,c=.ret/\todo=.code .ret::k)∨(∃ id k,c=.exit id/\todo=.code (.exit id)::k/\exitTo id k=none)
theorem R.loop (h:R T N ay w0 sp s a w E) {r M:Nat} {g:FuncId} {sl:aK} {ps:List Tmp} {as bd:Code} {st:LoopState} {fF:Option Code} (hr:s.rs[r]?=some (.loop g M sl ps as bd st fF)) :
  ∃ b hd sz db tm,E[r]?=some (some b,hd,sz)/\w.heap[b]?=some (.loop { state:=st,pending:=fF,fn:=g,tmps:=tm,params:=ps.toArray,assign:=as,body:=bd,defers:=db })/\tm.size=M/\gW E (AV ay s.rs E) w M sl tm/\bM sl:=by
 have dB:r<E.length:=by rw [h.len]; exact (List.getElem?_eq_some_iff.1 hr).1
 have hE:=eK dB
 obtain ⟨b,db,tm,q1,q2,q3,q4,q5⟩:=h.roots r _ _ hr hE
 generalize E[r]=e at hE q1
 obtain ⟨e1,e2,e3⟩:=e
 have q1:e1=some b:=q1
 subst q1
 exact ⟨b,e2,e3,db,tm,hE,q2,q3,q4,q5⟩
theorem R.td (h:R T N ay w0 sp s a w E) {r M b sz:Nat} {hd:Hd} {g:FuncId} {sl:aK} {ps:List Tmp} {as bd:Code} {st:LoopState} {fF:Option Code} (hr:s.rs[r]?=some (.loop g M sl ps as bd st fF)) {db:Nat} {tm:Array Value}
  (hE:E[r]?=some (some b,hd,sz)) (hw:w.heap[b]?=some (.loop { state:=st,pending:=fF,fn:=g,tmps:=tm,params:=ps.toArray,assign:=as,body:=bd,defers:=db })) (hM:tm.size=M) (KR:gW E (AV ay s.rs E) w M sl tm) (hn:bM sl) (st':LoopState) (WD:Option Code) :
  R T N ay w0 sp { s with rs:=setAt s.rs r (.loop g M sl ps as bd st' WD) } a (w.putObj b (.loop { state:=st',pending:=WD,fn:=g,tmps:=tm,params:=ps.toArray,assign:=as,body:=bd,defers:=db })) E:=by
 have dB:b<w.heap.size:=(Array.getElem?_eq_some_iff.1 hw).1
 rw [aT]
 refine h.turn hr trivial hE (by simp) (λk hk=>World.putObj_heap_other hk) ⟨rfl,rfl,rfl⟩ ⟨b,db,tm,rfl,World.putObj_heap_same dB,hM,?_,hn⟩
 refine KR.mono (Env.le_refl E) ⟨by simp,λk hk eG=>World.putObj_heap_other λe=>?_⟩ (λ_ _ q=>q)
 subst e
 exact eG (.inr ⟨r,_,sz,hr,trivial,bq.own ⟨hd,hE⟩⟩)
theorem R.kill (h:R T N ay w0 sp s a w E) {r b sz:Nat} {hd:Hd} {x:ag} (hr:s.rs[r]?=some x) (hx:x.live) (hE:E[r]?=some (some b,hd,sz)) (o:Obj):R T N ay w0 sp { s with rs:=setAt s.rs r .dead } a (w.putObj b o) E:=by
 rw [aT]
 exact h.turn hr hx hE (by simp) (λk hk=>World.putObj_heap_other hk) ⟨rfl,rfl,rfl⟩ trivial
theorem FX (h:R T N ay w0 sp s a w E) {b:Frame} (hb:iZ E b ro) {s':VS} (e:uh ro s=some s') {k:List Item} {cs:List Frame} :
  ∃ w',R T N ay w0 sp s' a w' E/\s'.sl=s.sl/\Steps P (lone (b.atR a (.beginRound::k)) cs w) (lone (b.atR a k) cs w'):=by
 unfold uh at e
 split at e
 case h_2=>simp at e
 rename_i r
 split at e
 case h_2=>simp at e
 rename_i g M sl ps as bd hr
 simp only [ak] at e
 subst e
 rw [bV] at hr
 obtain ⟨l,hd,sz,db,tm,h1,h2,h3,h4,h5⟩:=h.loop hr
 obtain ⟨l',cF,h6,qk,h7⟩:=hb
 rw [h1] at h7
 simp only [ak,bw] at h7
 obtain ⟨rfl,rfl,rfl⟩:=h7
 exact ⟨_,h.td hr h1 h2 h3 h4 h5 .busy none,rfl,.one (stepR_beginRound h6 (run_beginRound h2 rfl))⟩
theorem EF (h:R T N ay w0 sp s a w E) (hn:bM s.sl) (g:FuncId) (ps:List Tmp) (as bd:Code) :
  R T N ay w0 sp { s with rs:=s.rs++[.kA,.loop g N s.sl ps as bd .ready none],df:=s.rs.length::s.df } { a with defers:=[{ target:=.collected w.heap.size,args := #[] }]++a.defers }
   ((w.alloc (.deferred (some []))).alloc (.loop { state:=.ready,pending:=none,fn:=g,tmps:=a.tmps,params:=ps.toArray,assign:=as,body:=bd,defers:=w.heap.size }))
   ((E++[(some w.heap.size,mr,1)])++[(some (w.heap.size+1),mr,1)])/\bq ((E++[(some w.heap.size,mr,1)])++[(some (w.heap.size+1),mr,1)]) (s.rs.length+1) (w.heap.size+1) 1:=by
 let w1:=w.alloc (.deferred (some []))
 have hs1:w1.heap.size=w.heap.size+1:=World.size_alloc ..
 have hold1:∀ b,b<w.heap.size->w1.heap[b]?=w.heap[b]?:=λb hb=>(iJ w _).block b hb
 have h1:=h.new (x:=.kA) (e:=(some w.heap.size,mr,1)) (w':=w1) hs1 hold1 (iJ w _) rfl ⟨w.heap.size,rfl,World.alloc_heap_new w _⟩
 let o:=Obj.loop { state:=.ready,pending:=none,fn:=g,tmps:=a.tmps,params:=ps.toArray,assign:=as,body:=bd,defers:=w.heap.size }
 let w2:=w1.alloc o
 have hs2:w2.heap.size=w1.heap.size+1:=World.size_alloc ..
 have hold2:∀ b,b<w1.heap.size->w2.heap[b]?=w1.heap[b]?:=λb hb=>(iJ w1 _).block b hb
 have hlen1:(E++[(some w.heap.size,mr,1)]).length=(s.rs++[ag.kA]).length:=h1.len
 have h2:=h1.new (x:=.loop g N s.sl ps as bd .ready none) (e:=(some w1.heap.size,mr,1)) (w':=w2) hs2 hold2 (iJ w1 _) rfl ⟨w1.heap.size,w.heap.size,a.tmps,rfl,World.alloc_heap_new w1 _,h.size,by
  have KR:gW (E++[(some w.heap.size,mr,1)]) (AV ay (s.rs++[ag.kA]) (E++[(some w.heap.size,mr,1)])) w1 N s.sl a.tmps:=h1.slots
  refine KR.mono (Env.eb _ _) ⟨by omega,λb hb _=>hold2 b hb⟩ ?_
  exact h1.Yy,hn⟩
 have e1:s.rs++[ag.kA,.loop g N s.sl ps as bd .ready none]=(s.rs++[ag.kA])++[.loop g N s.sl ps as bd .ready none]:=by simp
 have hw1:w1.heap.size=w.heap.size+1:=hs1
 have ji:∀ F:Env,bq ((E++[(some w.heap.size,mr,1)])++F) s.rs.length w.heap.size 1:=λF=>by
  refine ⟨mr,?_⟩
  rw [List.append_assoc,gm (by rw [h.len]; exact bG _)]
  simp [h.len]
 rw [hw1] at h2
 refine ⟨?_,⟨mr,?_⟩⟩
 .rw [e1]
  exact ⟨h2.size,.cons ⟨w.heap.size,1,ji _,rfl⟩ h2.defers,h2.spec,h2.below,h2.len,h2.outer,h2.roots,h2.cS,h2.dD,h2.slots,h2.gn⟩
 .rw [gm (by rw [hlen1]; simp)]
  simp [h.len]
theorem zR {g:Operand} {l:Nat} {ρ:Operand->Value} {Y6:FuncId} {cs:Array Value} (hg:ρ g=.func (.func Y6) #[] cs) (hv:ρ (.const (.func (.yield l) #[] #[]))=.func (.yield l) #[] #[]) (he:Enters P Y6) (w:World) :
  ∃ d,(resolve ρ (rangeCall g l) 0).run P w=.ok d w/\(invoke d.target d.args).run P w=.ok (.enter Y6 (#[.func (.yield l) #[] #[]]++cs)) w:=by
 refine ⟨_,by simp [resolve,hg,Deferred.ofValue,Sem.run_pure]; rfl,?_⟩
 simp only [invoke]
 have:=z7 he (#[.func (.yield l) #[] #[]]++cs) w
 simpa [hv] using this
end
open Go.RowKit
section
variable {P:Program} {T:dL} {lo:Lo} {hi:Hint} {N:Nat} {ay:Nat->Prop} {w0:Kp} {sp:List (D×Value)} {s:VS} {a:Act} {w:World} {E:Env} {f:FuncId} {ro:Option Nat}
theorem F0 (hl:gP T P lo) (h:R T N ay w0 sp s a w E) (hn:bM s.sl) {b:Frame} (GZ:b.fn=f) (GS:iZ E b ro) {g:Operand} {ps:Array Tmp} {as bd:Code} {j:Option Code} {s':VS} (e:pA lo N f ro g ps.toList as bd s=some (j,s')) {k:List Item} {cs:List Frame} :
  ∃ a' w' E',Kept E E'/\R T N ay w0 sp s' a' w' E'/\s'.sl=s.sl/\Steps P (lone (b.atR a (.code (.rangeFunc g ps as bd)::k)) cs w) (lone (b.atR a' (Aw j k)) cs w'):=by
 unfold pA at e
 split at e
 .simp at e
 split at e
 case h_2=>simp at e
 rename_i c hc
 split at e
 case h_2=>simp at e
 rename_i hf eA yL
 split at e
 case h_2=>simp at e
 rename_i d0 aJ vu
 have hbr:b.roundOf=none:=GS
 obtain ⟨h2,ji⟩:=EF h hn f ps.toList as bd
 generalize hE2:((E++[(some w.heap.size,mr,1)])++[(some (w.heap.size+1),mr,1)]:Env)=E2 at h2 ji
 generalize hw2:((w.alloc (.deferred (some []))).alloc (.loop { state:=.ready,pending:=none,fn:=f,tmps:=a.tmps,params:=ps.toList.toArray,assign:=as,body:=bd,defers:=w.heap.size }))=w2 at h2
 have hkE:Kept E E2:=by
  subst hE2
  refine ⟨(Env.eb _ _).trans (Env.eb _ _),λq hq=>?_⟩
  have dB:=(List.getElem?_eq_some_iff.1 hq).1
  rw [dv (by simp; omega),dv dB]
  exact hq
 have hev:=h2.cl hn (cg hc)
 obtain ⟨cv,hfv,hcv⟩:=uU h2 yL hev
 obtain ⟨hen,hcon⟩:=hl.call _ _ _ _ _ vu
 have hfv':a.eval g=.func (.func hf) #[] cv:=hfv
 obtain ⟨dd,zM,hinv⟩:=zR (l:=w.heap.size+1) (ρ:=a.eval) hfv' rfl hen w2
 have henter:(Instr.enterLoop b.fn a.tmps ps as bd b.roundOf).run P w=.ok (w.heap.size+1,[{ target:=.collected w.heap.size,args := #[] }]) w2:=by
  rw [hbr,GZ,<- hw2]
  exact run_enterLoop_outer _ _ _ _ _
 have hstep:=stepR_rangeFunc (k:=k) (cs:=cs) henter zM hinv
 have qa:aB (aZ E2 (AV ay (s.rs++[ag.kA,.loop f N s.sl ps.toList as bd .ready Option.none]) E2) w2) (.c (.yl (s.rs.length+1))::eA) (.func (.yield (w.heap.size+1)) #[] #[]::cv.toList):=
  .cons ⟨_,_,ji,rfl⟩ hcv
 have tu:((Value.func (.yield (w.heap.size+1)) #[] #[]::cv.toList:List Value)).toArray = #[.func (.yield (w.heap.size+1)) #[] #[]]++cv:=by
  apply Array.ext'; simp
 obtain ⟨en,w3,fr,⟨v,E3,rfl,hk3,hR3,_⟩,hcomes,hfr,hleave⟩:=hcon N ay w0 sp s.sl (s.rs.length::s.df) _ w2 E2 _ h2 qa (b.atR { a with defers:=[{ target:=.collected w.heap.size,args := #[] }]++a.defers } (.inRangeFunc (w.heap.size+1)::k)::cs)
 rw [tu] at hcomes
 have hsteps:Steps P (lone (b.atR a (.code (.rangeFunc g ps as bd)::k)) cs w) (lone (b.atR { a with defers:=[{ target:=.collected w.heap.size,args := #[] }]++a.defers } (.endRangeFunc (w.heap.size+1)::k)) cs w3):=by
  refine (Steps.one hstep).trans (Steps.trans hcomes (.one ?_))
  rw [<- finish_atR_inRangeFunc (w.heap.size+1) v]
  exact step_leave_returned hleave
 have fin:∀ (st:LoopState) (fF:Option Code) (g':FuncId) (M:Nat) (gb:aK) (UH:List Tmp) (Vf Uw:Code),st ≠ .busy->aV aJ (s.rs.length+1)=some (.loop g' M gb UH Vf Uw st fF)->
   ∃ a' w' E',Kept E E'/\R T N ay w0 sp { s with rs:=setAt aJ (s.rs.length+1) .dead,df:=s.rs.length::s.df } a' w' E'/\Steps P (lone (b.atR a (.code (.rangeFunc g ps as bd)::k)) cs w) (lone (b.atR a' (Aw fF k)) cs w'):=by
  intro st fF g' M gb UH Vf Uw l8 hr
  rw [bV] at hr
  obtain ⟨l,hd,sz,db,tm,h1,h3,h4,h5,h6⟩:=hR3.loop hr
  obtain ⟨qk,h7⟩:=hk3.le.at_ ji
  rw [h1] at h7
  simp only [ak,bw] at h7
  obtain ⟨rfl,rfl,rfl⟩:=h7
  refine ⟨_,_,E3,hkE.trans hk3,hR3.kill hr trivial h1 (.loop { state:=.exhausted,pending:=fF,fn:=g',tmps:=tm,params:=UH.toArray,assign:=Vf,body:=Uw,defers:=db }),hsteps.trans (.one ?_)⟩
  have:=stepR_endRangeFunc (P:=P) (b:=b) (a:={ a with defers:=[{ target:=.collected w.heap.size,args := #[] }]++a.defers }) (k:=k) (cs:=cs) (run_endLoop h3 l8)
  rw [this]
  cases fF<;>rfl
 split at e
 .rename_i hr
  simp only [ak,bw] at e
  obtain ⟨rfl,rfl⟩:=e
  obtain ⟨a',w',E',q1,q2,q3⟩:=fin _ _ _ _ _ _ _ _ (by simp) hr
  exact ⟨a',w',E',q1,q2,rfl,q3⟩
 .rename_i c' hr
  simp only [ak,bw] at e
  obtain ⟨rfl,rfl⟩:=e
  obtain ⟨a',w',E',q1,q2,q3⟩:=fin _ _ _ _ _ _ _ _ (by simp) hr
  exact ⟨a',w',E',q1,q2,rfl,q3⟩
 .simp at e
theorem ra (bQ:dH P T) (hl:gP T P lo) (Ea:P.follows .mixedOrders=true) {b:Frame} (GZ:b.fn=f) {cs:List Frame} {j:Option Code} {s':VS} :
  ∀ (n:Nat) {todo:List Item} {s:VS} {a:Act} {w:World} {E:Env},zE T lo hi N f ro n todo s=some (j,s')->R T N ay w0 sp s a w E->bM s.sl->iZ E b ro->
   ∃ a' w' E' dt,Kept E E'/\R T N ay w0 sp s' a' w' E'/\bM s'.sl/\uS j dt/\Steps P (lone (b.atR a todo) cs w) (lone (b.atR a' dt) cs w')
 | 0,todo,s,a,w,E,e,h,hn,GS=>by
   have e:(none:Option (Option Code×VS))=some (j,s'):=e
   simp at e
 | n+1,todo,s,a,w,E,e,h,hn,GS=>by
   have go:∀ {fK:List Item} {s1:VS} {a1:Act} {w1:World} {E1:Env},zE T lo hi N f ro n fK s1=some (j,s')->Kept E E1->R T N ay w0 sp s1 a1 w1 E1->bM s1.sl->Steps P (lone (b.atR a todo) cs w) (lone (b.atR a1 fK) cs w1)->
     ∃ a' w' E' dt,Kept E E'/\R T N ay w0 sp s' a' w' E'/\bM s'.sl/\uS j dt/\Steps P (lone (b.atR a todo) cs w) (lone (b.atR a' dt) cs w'):=by
    intro fK s1 a1 w1 E1 e1 hk h1 Zk l8
    obtain ⟨a',w',E',dt,q1,q2,q3,q4,q5⟩:=ra bQ hl Ea GZ n e1 h1 Zk (GS.mono hk.le)
    exact ⟨a',w',E',dt,hk.trans q1,q2,q3,q4,l8.trans q5⟩
   have stop:∀ {fK:List Item} {c:Option Code},some (c,s)=some (j,s')->uS c todo->∃ a' w' E' dt,Kept E E'/\R T N ay w0 sp s' a' w' E'/\bM s'.sl/\uS j dt/\Steps P (lone (b.atR a todo) cs w) (lone (b.atR a' dt) cs w'):=by
    intro fK c e1 he
    simp only [ak,bw] at e1
    obtain ⟨rfl,rfl⟩:=e1
    exact ⟨a,w,E,todo,Kept.refl E,h,hn,he,Steps.refl _ _⟩
   cases todo with
   | nil=>exact stop (fK:=[]) e rfl
   | cons x k=>
     cases x with
     | inBlock id=>exact go (fK:=k) (s1:=s) e (Kept.refl E) h hn (.one stepR_inBlock)
     | inLoop c=>exact go (fK:=.code c::.inLoop c::k) (s1:=s) e (Kept.refl E) h hn (.one stepR_inLoop)
     | beginRound=>
       have e:(match uh ro s with
        | some s'=>zE T lo hi N f ro n k s'
        | none=>none)=some (j,s'):=e
       split at e
       case h_2=>simp at e
       rename_i s1 hs1
       obtain ⟨w',h1,h2,h3⟩:=FX h GS hs1
       exact go e (Kept.refl E) h1 (by rw [h2]; exact hn) h3
     | code c=>
       cases c with
       | skip=>exact go (fK:=k) (s1:=s) e (Kept.refl E) h hn (.one stepR_skip)
       | label l=>exact go (fK:=k) (s1:=s) e (Kept.refl E) h hn (.one stepR_label)
       | ret=>exact stop (fK:=[]) (c:=some .ret) e (.inl ⟨k,rfl,rfl⟩)
       | seq x y=>exact go (fK:=.code x::.code y::k) (s1:=s) e (Kept.refl E) h hn (.one stepR_seq)
       | cond c x y=>
         have e:(match jn (cl s.sl c) with
          | some p=>zE T lo hi N f ro n (.code (Bool.rec y x p)::k) s
          | none=>none)=some (j,s'):=e
         split at e
         case h_2=>simp at e
         rename_i p hp
         have hv:a.eval c=.bool p:=(h.cl hn (eW hp)).1
         refine go e (Kept.refl E) h hn ?_
         have:=Steps.one (stepR_cond (P:=P) (b:=b) (k:=k) (cs:=cs) (w:=w) (x:=x) (y:=y) hv)
         cases p<;>exact this
       | block id c=>exact go (fK:=.code c::.inBlock id::k) (s1:=s) e (Kept.refl E) h hn (.one stepR_block)
       | loop c=>exact go (fK:=.code c::.inLoop c::k) (s1:=s) e (Kept.refl E) h hn (.one stepR_loop)
       | exit id=>
         have e:(match exitTo id k with
          | some k'=>zE T lo hi N f ro n k' s
          | none=>some (some (.exit id),s))=some (j,s'):=e
         split at e
         .rename_i k' kT
          exact go e (Kept.refl E) h hn (.one (stepR_exit kT))
         .rename_i kT
          exact stop (fK:=[]) e (.inr ⟨id,k,rfl,rfl,kT⟩)
       | region id ops draw=>
         have e0:(match regionF T lo hi N f ro id ops.toList draw s with
          | some s'=>zE T lo hi N f ro n k s'
          | none=>none)=some (j,s'):=e
         clear e
         cases hs1:regionF T lo hi N f ro id ops.toList draw s with
         | none=>rw [hs1] at e0; simp at e0
         | some s1=>
         rw [hs1] at e0
         have e:zE T lo hi N f ro n k s1=some (j,s'):=e0
         clear e0
         cases draw with
         | false=>
           obtain ⟨a',w',E',q1,q2,q3,q4⟩:=yG (b:=b) (k:=k) (cs:=cs) bQ hl h hn hs1
           exact go e q1 q2 q3 q4
         | true=>
           obtain ⟨a',w',E',q1,q2,q3,q4⟩:=El (b:=b) (k:=k) (cs:=cs) bQ hl Ea h hn hs1
           exact go e q1 q2 q3 q4
       | rangeFunc g ps as bd=>
         have e:(match pA lo N f ro g ps.toList as bd s with
          | some (j,s')=>zE T lo hi N f ro n (Aw j k) s'
          | none=>none)=some (j,s'):=e
         split at e
         case h_2=>simp at e
         rename_i j1 s1 hs1
         obtain ⟨a',w',E',q1,q2,q3,q4⟩:=F0 (k:=k) (cs:=cs) hl h hn GZ GS hs1
         exact go e q1 q2 (by rw [q3]; exact hn) q4
       | _=>
         have e:(none:Option (Option Code×VS))=some (j,s'):=e
         simp at e
     | _=>
       have e:(none:Option (Option Code×VS))=some (j,s'):=e
       simp at e
end
open Go.RowKit
section
variable {P:Program} {T:dL} {lo:Lo} {hi:Hint} {N:Nat} {ay:Nat->Prop} {w0:Kp} {sp:List (D×Value)} {s:VS} {a:Act} {w:World} {E:Env} {f:FuncId} {ro:Option Nat}
def Oe (E:Env) (av:Nat->Prop) (w:World) (x:Bool×List C) (y:Value):Prop:=match x with
 | (true,l)=>∃ cs:Array Value,y=.agg cs/\aB (bg E av w) l cs.toList
 | (false,l)=>∃ c,l=[c]/\bg E av w c y
def qC (tmps:Array Value):ResultVar->Sem Value
 | .tmp t=>pure (tmps.getD t undef)
 | .cell a t=>do loadVar t (<- asAddr (tmps.getD a undef))
theorem Cf (bQ:dH P T) (h:R T N ay w0 sp s a w E) {x:ResultVar} {p:Option Prop} {q:Bool×List C} (e:qH T s x=some (p,q)) (hp:need p) :
  ∃ v,(qC a.tmps x).run P w=.ok v w/\Oe E (AV ay s.rs E) w q v:=by
 have nil:bJ a []:=λp hp=>by cases hp
 cases x with
 | tmp t=>
   simp only [qH] at e
   split at e
   .rename_i x hx
    have hx:=h.ev nil hx
    simp only [ak,bw] at e
    obtain ⟨rfl,rfl⟩:=e
    exact ⟨_,rfl,x,rfl,hx⟩
   .rename_i l hx
    obtain ⟨cs,hv,hl⟩:=h.ev nil hx
    simp only [ak,bw] at e
    obtain ⟨rfl,rfl⟩:=e
    exact ⟨_,rfl,cs,hv,hl⟩
   .simp at e
 | cell ad t=>
   simp only [qH] at e
   have run:∀ v,(Instr.loadAt t (a.eval (.tmp ad))).run P w=.ok v w->(qC a.tmps (.cell ad t)).run P w=.ok v w:=by
    intro v hv
    have he:a.eval (.tmp ad)=a.tmps.getD ad undef:=rfl
    rw [he] at hv
    unfold qC
    cases hu:a.tmps.getD ad undef<;>rw [hu] at hv<;>simp [Instr.loadAt,Instr.sureAddr,stuck] at hv
    rename_i oa
    cases oa with
    | none=>simp at hv
    | some x=>
      simp only [hu,asAddr,Sem.run_bind]
      exact hv
   split at e
   .rename_i p' x hx
    simp only [ak,bw] at e
    obtain ⟨rfl,rfl⟩:=e
    obtain ⟨v,h1,h2⟩:=qY bQ h nil hx hp
    exact ⟨v,run v (h1 w (Below.refl _ _)),x,rfl,h2⟩
   .rename_i p' l hx
    simp only [ak,bw] at e
    obtain ⟨rfl,rfl⟩:=e
    obtain ⟨v,h1,cs,h2,h3⟩:=qY bQ h nil hx hp
    exact ⟨v,run v (h1 w (Below.refl _ _)),cs,h2,h3⟩
   .simp at e
theorem kz (bQ:dH P T) (h:R T N ay w0 sp s a w E):∀ {rs:List ResultVar} {p:Option Prop} {l:List (Bool×List C)},qG T s rs=some (p,l)->need p->
  ∃ vs,(rs.mapM (qC a.tmps)).run P w=.ok vs w/\aB (Oe E (AV ay s.rs E) w) l vs
 | [],p,l,e,hp=>by
   simp only [qG,ak,bw] at e
   obtain ⟨rfl,rfl⟩:=e
   exact ⟨[],rfl,.nil⟩
 | x::rs,p,l,e,hp=>by
   simp only [qG] at e
   split at e
   .rename_i p1 q p2 l' h1 h2
    simp only [ak,bw] at e
    obtain ⟨rfl,rfl⟩:=e
    have hp':need p1/\need p2:=by
     cases p1<;>cases p2<;>simp_all [Kf,need]
    obtain ⟨v,h3,h4⟩:=Cf bQ h h1 hp'.1
    obtain ⟨vs,h5,h6⟩:=kz bQ h h2 hp'.2
    refine ⟨v::vs,?_,.cons h4 h6⟩
    rw [List.mapM_cons]
    simp only [Sem.run_bind,h3,Result.andThen_ok,h5,Sem.run_pure]
   .simp at e
theorem mq (bQ:dH P T) (h:R T N ay w0 sp s a w E) {fn:Func} {p:Option Prop} {d:D} (e:Uj T s fn.results.toList=some (p,d)) (hp:need p) :
  ∃ v,(results fn a.tmps).run P w=.ok v w/\aZ E (AV ay s.rs E) w d v:=by
 have run:∀ vs,(fn.results.toList.mapM (qC a.tmps)).run P w=.ok vs w->(results fn a.tmps).run P w=.ok (if h:vs.toArray.size=1 then vs.toArray[0] else .tuple vs.toArray) w:=by
  intro vs tu
  have hm:(fn.results.mapM (qC a.tmps)).run P w=.ok vs.toArray w:=by
   have hgs:fn.results=fn.results.toList.toArray:=rfl
   rw [hgs,List.mapM_toArray]
   simp only [Sem.run_map,tu,Result.andThen_ok]
  show ((do let vs <- fn.results.mapM (qC a.tmps); pure (if h:vs.size=1 then vs[0] else .tuple vs)):Sem Value).run P w=_
  rw [Sem.run_bind,hm]
  rfl
 unfold Uj at e
 split at e
 .rename_i p' x hx
  simp only [ak,bw] at e
  obtain ⟨rfl,rfl⟩:=e
  obtain ⟨vs,h1,h2⟩:=kz bQ h hx hp
  cases h2 with
  | cons q1 q2=>
    cases q2
    obtain ⟨c,hc,q⟩:=q1
    simp only [List.cons.injEq,and_true] at hc
    subst hc
    exact ⟨_,run _ h1,q⟩
 .rename_i p' l hx
  simp only [ak,bw] at e
  obtain ⟨rfl,rfl⟩:=e
  obtain ⟨vs,h1,h2⟩:=kz bQ h hx hp
  cases h2 with
  | cons q1 q2=>cases q2; exact ⟨_,run _ h1,q1⟩
 .rename_i p' l hne1 hne2 hx
  simp only [ak,bw] at e
  obtain ⟨rfl,rfl⟩:=e
  obtain ⟨vs,h1,h2⟩:=kz bQ h hx hp
  refine ⟨_,run vs h1,?_⟩
  have hlen:vs.length≠1:=by
   intro hl
   have:=h2.length
   rw [hl] at this
   match l,this with
   | [(true,l)],_=>exact hne2 _ rfl
   | [(false,k)],_=>
     cases h2 with
     | cons q1 q2=>
       obtain ⟨c,hc,_⟩:=q1
       exact hne1 _ (by rw [hc])
  rw [dif_neg (by simpa using hlen)]
  exact ⟨_,rfl,h2⟩
 .simp at e
theorem me:∀ {ds:List D} {k t:Nat} {d:D} {c:e5},look (dk k ds) t=some (d,c)->c=[]/\k<=t/\ds[t-k]?=some d
 | [],k,t,d,c,h=>by simp [dk,look] at h
 | x::ds,k,t,d,c,h=>by
   simp only [dk,look] at h
   split at h
   .rename_i he
    have he:=bK he
    simp only [ak,bw] at h
    obtain ⟨rfl,rfl⟩:=h
    subst he
    exact ⟨rfl,bG _,by simp⟩
   .obtain ⟨h1,h2,h3⟩:=me h
    refine ⟨h1,by omega,?_⟩
    rw [show t-k=(t-(k+1))+1 by omega]
    simpa using h3
theorem kx:∀ {ds:List D} {k:Nat},bM (dk k ds)
 | [],k,x,hx=>by simp [dk] at hx
 | d::ds,k,x,hx=>by
   simp only [dk] at hx
   rcases List.mem_cons.1 hx with rfl|hx
   .rfl
   .exact kx x hx
theorem Er (hn:bM s.sl) {x:ResultVar} {q:Bool×List C} (e:vW T s x=some q):∃ p,qH T s x=some (p,q)/\need p:=by
 unfold vW at e
 cases x with
 | tmp t=>
   simp only at e
   simp only [qH]
   split at e
   .rename_i c hc
    have:s.ev [] (.tmp t)=some (.c c):=dG (x:=.tmp t) hn hc
    rw [this]
    simp only [ak] at e
    subst e; exact ⟨_,rfl,trivial⟩
   .rename_i l hc
    have:s.ev [] (.tmp t)=some (.a l):=dG (x:=.tmp t) hn hc
    rw [this]
    simp only [ak] at e
    subst e; exact ⟨_,rfl,trivial⟩
   .simp at e
 | cell ad t=>
   simp only at e
   simp only [qH]
   split at e
   .rename_i c hc
    obtain ⟨p,h1,h2⟩:=rm hn hc
    rw [h1]
    simp only [ak] at e
    subst e; exact ⟨p,rfl,h2⟩
   .rename_i l hc
    obtain ⟨p,h1,h2⟩:=rm hn hc
    rw [h1]
    simp only [ak] at e
    subst e; exact ⟨p,rfl,h2⟩
   .simp at e
theorem ma (hn:bM s.sl):∀ {l:List ResultVar} {q:List (Bool×List C)},Cr T s l=some q->∃ p,qG T s l=some (p,q)/\need p
 | [],q,e=>by
   have e:some []=some q:=e
   simp only [ak] at e
   subst e; exact ⟨_,rfl,trivial⟩
 | x::l,q,e=>by
   have e:(match vW T s x,Cr T s l with
    | some q,some l=>some (q::l)
    | _,_=>none)=some q:=e
   split at e
   case h_2=>simp at e
   rename_i h1 h2
   simp only [ak] at e
   subst e
   obtain ⟨p1,k1,k2⟩:=Er hn h1
   obtain ⟨p2,k3,k4⟩:=ma hn h2
   refine ⟨Kf p1 p2,by simp only [qG,k1,k3],?_⟩
   cases p1<;>cases p2<;>simp_all [Kf,need]
theorem HY (hn:bM s.sl) {l:List ResultVar} {d:D} (e:Xz T s l=some d):∃ p,Uj T s l=some (p,d)/\need p:=by
 unfold Xz at e
 unfold Uj
 split at e
 .rename_i h1
  obtain ⟨p,k1,k2⟩:=ma hn h1
  rw [k1]
  simp only [ak] at e
  subst e; exact ⟨p,rfl,k2⟩
 .rename_i h1
  obtain ⟨p,k1,k2⟩:=ma hn h1
  rw [k1]
  simp only [ak] at e
  subst e; exact ⟨p,rfl,k2⟩
 .rename_i l' h1 h2 h3
  obtain ⟨p,k1,k2⟩:=ma hn h3
  rw [k1]
  simp only [ak] at e
  subst e
  refine ⟨p,?_,k2⟩
  split
  .rename_i h4; simp only [ak,bw] at h4; exact (h1 _ h4.2).elim
  .rename_i h4; simp only [ak,bw] at h4; exact (h2 _ h4.2).elim
  .rename_i h4; simp only [ak,bw] at h4; obtain ⟨rfl,rfl⟩:=h4; rfl
  .rename_i h4; simp at h4
 .simp at e
open Classical in
def oE (sl:aK) (a:Act):List (D×Value):=sl.filterMap λx=>if look sl x.1=some x.2/\bJ a x.2.2 then some (x.2.1,a.tmps.getD x.1 undef) else none
theorem EH:∀ {sl:aK} {t:Tmp} {x:D×e5},look sl t=some x->(t,x)∈sl
 | [],t,x,h=>by simp [look] at h
 | (k,d,c)::sl,t,x,h=>by
   simp only [look] at h
   split at h
   .rename_i hb
    simp only [ak] at h
    rw [<- bK hb,<- h]
    exact eI ..
   .exact eV _ (EH h)
theorem QL {sl:aK} {t:Tmp} {d:D} {c:e5} (hl:look sl t=some (d,c)) (hc:bJ a c):(d,a.tmps.getD t undef)∈oE sl a:=by
 unfold oE
 rw [List.mem_filterMap]
 refine ⟨(t,d,c),EH hl,?_⟩
 rw [if_pos ⟨hl,hc⟩]
theorem QO (h:R T N ay w0 sp s a w E):∀ x∈oE s.sl a,aZ E (AV ay s.rs E) w x.1 x.2:=by
 intro x hx
 unfold oE at hx
 rw [List.mem_filterMap] at hx
 obtain ⟨⟨t,d,c⟩,h1,h2⟩:=hx
 split at h2
 .rename_i h3
  simp only [ak] at h2
  subst h2
  exact (h.slots t d c h3.1).2.1 h3.2
 .simp at h2
theorem R.Bj {sl:aK} {rs:List ag} {df:List Nat} (h:R T N ay w0 sp ⟨sl,rs,df⟩ a w E) {M:Nat} {A5:aK} {tm:Array Value} (hM:tm.size=M)
  (hs:gW E (AV ay rs E) w M A5 tm):R T M ay w0 (oE sl a++sp) ⟨A5,rs,[]⟩ { tmps:=tm,defers:=[] } w E:=
 ⟨hM,.nil,λx hx=>(List.mem_append.1 hx).elim (λq=>QO h x q) (h.spec x),h.below,h.len,h.outer,h.roots,h.cS,h.dD,hs,h.gn⟩
theorem R.back {sl:aK} {rs:List ag} {df:List Nat} (h:R T N ay w0 sp ⟨sl,rs,df⟩ a w E) {M:Nat} {s':VS} {a':Act} {w':World} {E':Env} (h':R T M ay w0 (oE sl a++sp) s' a' w' E') (hE:Env.le E E') :
  R T N ay w0 sp ⟨sl,s'.rs,df⟩ a w' E' :=
 ⟨h.size,h.defers.mono λ_ _ ⟨b,sz,q,e⟩=>⟨b,sz,hE.at_ q,e⟩,λx hx=>h'.spec x (List.mem_append_right _ hx),h'.below,h'.len,h'.outer,h'.roots,h'.cS,h'.dD,λt d c hl=>
  ⟨(h.slots t d c hl).1,λhc=>h'.spec _ (List.mem_append_left _ (QL hl hc)),(h.slots t d c hl).2.2⟩,h'.gn⟩
theorem tg {cs:List Frame}:∀ (l:List Nat) {sl:aK} {rs fa:List ag} {a:Act} {w:World} {fr:Frame},Oj l rs=some fa->R T N ay w0 sp ⟨sl,rs,l⟩ a w E->fr.mode=.returning->fr.defers=a.defers->
  ∃ w',R T N ay w0 sp ⟨sl,fa,[]⟩ { a with defers:=[] } w' E/\Steps P (lone fr cs w) (lone { fr with defers:=[] } cs w')
 | [],sl,rs,fa,a,w,fr,e,h,hm,hd=>by
   have e:some rs=some fa:=e
   simp only [ak] at e
   subst e
   have qN:a.defers=[]:=by
    have:=h.defers
    generalize a.defers=l at this
    cases this; rfl
   have ha:({ a with defers:=[] }:Act)=a:=by rw [<- qN]
   have hf:({ fr with defers:=[] }:Frame)=fr:=by rw [<- qN,<- hd]
   rw [ha,hf]
   exact ⟨w,h,Steps.refl _ _⟩
 | r::l,sl,rs,fa,a,w,fr,e,h,hm,hd=>by
   have e:(match aV rs r with
    | some .kA=>Oj l (setAt rs r .dead)
    | _=>none)=some fa:=e
   split at e
   case h_2=>simp at e
   rename_i hr
   rw [bV] at hr
   have MM:=h.defers
   generalize hads:a.defers=ads at MM
   cases MM with
   | cons h1 h2=>
     rename_i d ds
     obtain ⟨b,sz,⟨qk,hE⟩,rfl⟩:=h1
     obtain ⟨b',h3,h4⟩:=h.roots r _ _ hr hE
     have h3:some b=some b':=h3
     simp only [ak] at h3
     subst h3
     have hk:=h.kill hr trivial hE (.deferred none)
     have hR:R T N ay w0 sp ⟨sl,setAt rs r .dead,l⟩ { a with defers:=ds } (w.putObj b (.deferred none)) E:=
      ⟨hk.size,h2,hk.spec,hk.below,hk.len,hk.outer,hk.roots,hk.cS,hk.dD,hk.slots,hk.gn⟩
     have l8:=step_collected (P:=P) (cs:=cs) (fr:=fr) (by rw [hm]; simp) (hd.trans hads) rfl (run_takeDeferred h4)
     obtain ⟨w',q1,q2⟩:=tg l (fr:={ fr with defers:=[]++ds }) e hR hm rfl
     exact ⟨w',q1,(Steps.one l8).trans q2⟩
def KY (P:Program) (F:FuncId->Option Func):Prop:=∀ f fn,F f=some fn->P.funcs[f]?=some fn/\(fn.name == "runtime.NumGoroutine")=false
theorem FJ (bQ:dH P T) (Ea:P.follows .mixedOrders=true) {F:FuncId->Option Func} (hF:KY P F) (hl:gP T P lo) {fuel:Nat} {ds:List D} {rs aJ:List ag} {d:D} (e:Ql T hi F fuel lo f ds rs=some (d,aJ)) :
  Enters P f/\∀ (N:Nat) (ay:Nat->Prop) (w0:Kp) (sp:List (D×Value)) (sl:aK) (df:List Nat) (a:Act) (w:World) (E:Env) (vs:List Value),R T N ay w0 sp ⟨sl,rs,df⟩ a w E->aB (aZ E (AV ay rs E) w) ds vs->
  Go.Calls P f vs.toArray w λe w'=>∃ v E',e=.returned v/\Kept E E'/\R T N ay w0 sp ⟨sl,aJ,df⟩ a w' E'/\aZ E' (AV ay aJ E') w' d v:=by
 unfold Ql at e
 split at e
 case h_2=>simp at e
 rename_i fn hfn
 split at e
 case h_2=>simp at e
 rename_i c hc
 obtain ⟨hlen,e⟩:=Bool.au e
 have hlen:=ew hlen
 split at e
 case h_2=>simp at e
 rename_i j s hrun
 obtain ⟨hret,e⟩:=Bool.au e
 unfold RN at e
 split at e
 case h_2=>simp at e
 rename_i fa htake
 split at e
 case h_2=>simp at e
 rename_i d1 zM
 simp only [ak,bw] at e
 obtain ⟨rfl,rfl⟩:=e
 obtain ⟨hf,oO⟩:=hF f fn hfn
 refine ⟨⟨fn,hf,oO,by simp [hc]⟩,?_⟩
 intro N ay w0 sp sl df a w E vs h hv cs
 let b:Frame:={ (default:Frame) with fn:=f,kind:=.normal,roundOf:=none }
 let tm:=vs.toArray++Array.replicate (fn.ntmps-vs.toArray.size) undef
 have hvl:=hv.length
 have henter:Frame.enter P f vs.toArray .normal=b.atR { tmps:=tm,defers:=[] } [.code c]:=by
  simp [Frame.enter,Frame.atR,hf,hc,b,tm]
 have htm:tm.size=fn.ntmps:=by simp only [tm,Array.size_append,Array.size_replicate,List.size_toArray]; omega
 have hR:=h.Bj (M:=fn.ntmps) (A5:=dk 0 ds) (tm:=tm) htm (λt d' c' hl=>by
  obtain ⟨rfl,_,h2⟩:=me hl
  simp only [Nat.sub_zero] at h2
  have ht:t<ds.length:=(List.getElem?_eq_some_iff.1 h2).1
  obtain ⟨v,h3,h4⟩:=hv.nth (i:=t) (x:=d') (by rw [bp]; exact h2)
  refine ⟨Nat.lt_of_lt_of_le ht hlen,λ_=>?_,λq=>(q λp hp=>by cases hp).elim⟩
  have hg:tm.getD t undef=v:=by
   have htv:t<vs.length:=by rw [<- hvl]; exact ht
   have:vs[t]?=some v:=h3
   simp only [tm]
   rw [Array.getD_eq_getD_getElem?,Array.getElem?_append_left (by simpa using htv)]
   simp [this]
  rw [hg]
  exact h4)
 obtain ⟨a',w1,E',dt,hk,uq,za,hend,hsteps⟩:=ra (hi:=hi) (ro:=none) (b:=b) (cs:=cs) bQ hl Ea rfl fuel hrun hR kx rfl
 have hback:Steps P (lone (b.atR a' dt) cs w1) (lone { b.atR a' dt with mode:=.returning } cs w1):=by
  cases j with
  | none=>
    have hend:dt=[]:=hend
    subst hend
    exact .one (stepR_end rfl)
  | some c' =>
    rcases hend with ⟨k,rfl,rfl⟩|⟨id,k,rfl,_,_⟩
    .exact .one (stepR_ret rfl)
    .simp [Se] at hret
 have hR'':R T fn.ntmps ay w0 (oE sl a++sp) ⟨s.sl,s.rs,s.df⟩ a' w1 E':=uq
 obtain ⟨w2,hR2,hst2⟩:=tg (P:=P) (cs:=cs) s.df (fr:={ b.atR a' dt with mode:=.returning }) htake hR'' rfl rfl
 obtain ⟨pr,hpr1,hpr2⟩:=HY (s:=⟨s.sl,fa,[]⟩) za zM
 obtain ⟨v,hrv,hdv⟩:=mq bQ hR2 hpr1 hpr2
 refine ⟨.returned v,w2,{ { b.atR a' dt with mode:=.returning } with defers:=[] },⟨v,E',rfl,hk,h.back hR2 hk.le,hdv⟩,?_,rfl,rfl,rfl,rfl,fn,hf,hrv⟩
 rw [henter]
 exact (hsteps.trans hback).trans hst2
theorem FI (bQ:dH P T) (Ea:P.follows .mixedOrders=true) {F:FuncId->Option Func} (hF:KY P F) {Kn:FuncId->Option D} (hKn:∀ f d,Kn f=some d->Enters P f/\Ft T P f [] d) (hl:gP T P lo) {fuel:Nat} {ds:List D} {rs aJ:List ag} {d:D}
  (e:PR T hi F Kn fuel lo f ds rs=some (d,aJ)) :
  Enters P f/\∀ (N:Nat) (ay:Nat->Prop) (w0:Kp) (sp:List (D×Value)) (sl:aK) (df:List Nat) (a:Act) (w:World) (E:Env) (vs:List Value),R T N ay w0 sp ⟨sl,rs,df⟩ a w E->aB (aZ E (AV ay rs E) w) ds vs->
  Go.Calls P f vs.toArray w λe w'=>∃ v E',e=.returned v/\Kept E E'/\R T N ay w0 sp ⟨sl,aJ,df⟩ a w' E'/\aZ E' (AV ay aJ E') w' d v:=by
 unfold PR at e
 split at e
 .rename_i d0 hd0
  split at e
  case h_2=>simp at e
  simp only [ak,bw] at e
  obtain ⟨rfl,rfl⟩:=e
  obtain ⟨h1,h2⟩:=hKn f _ hd0
  refine ⟨h1,?_⟩
  intro N ay w0 sp sl df a w E vs h hv
  cases hv
  have avlt:∀ b,AV ay rs E b->b<w.heap.size:=by
   rintro b (q|⟨r,x,sz,q1,q2,q3⟩)
   .exact h.jU q
   .exact (h.cS r x b sz q1 q2 q3).2
  refine (h2 (AV ay rs E) w [] avlt h.gn .nil).mono ?_
  rintro en w' ⟨v,rfl,hd,hb⟩
  exact ⟨v,E,rfl,Kept.refl E,h.grown hb,aZ.mono (λr e q=>by simp at q) (ba.refl _ w') (λb _ q=>q) hd⟩
 .exact FJ bQ Ea hF hl e
theorem IY {rs:List ag} {tms:Array Value->Array Value}:∀ {ps:List Tmp} {ds:List D} {vs:List Value} {sl gb:aK} {tm:Array Value},Lg N ps ds sl=some gb->R T N ay w0 sp ⟨sl,rs,[]⟩ { tmps:=tm,defers:=[] } w E->bM sl->
  aB (aZ E (AV ay rs E) w) ds vs->ps.length=vs.length/\R T N ay w0 sp ⟨gb,rs,[]⟩ { tmps:=(ps.zip vs).foldl (λtmps x=>tmps.setIfInBounds x.1 x.2) tm,defers:=[] } w E/\bM gb
 | [],[],vs,sl,gb,tm,e,h,hn,hv=>by
   have e:some sl=some gb:=e
   simp only [ak] at e
   subst e
   cases hv
   exact ⟨rfl,h,hn⟩
 | [],d::ds,vs,sl,gb,tm,e,h,hn,hv=>by
   have e:(none:Option aK)=some gb:=e
   simp at e
 | t::ps,[],vs,sl,gb,tm,e,h,hn,hv=>by
   have e:(none:Option aK)=some gb:=e
   simp at e
 | t::ps,d::ds,vs,sl,gb,tm,e,h,hn,hv=>by
   obtain ⟨ht,e⟩:=Bool.au (show (Bool.rec none (Lg N ps ds ((t,d,[])::sl)) (Nat.blt t N):Option aK)=some gb from e)
   cases hv with
   | cons q k=>
     rename_i v vs
     have hp:rA N ⟨sl,rs,[]⟩ (some t) d=some ⟨(t,d,[])::sl,rs,[]⟩:=by
      unfold rA; simp only [ht]
     obtain ⟨h1,h2⟩:=qO h hn hp q
     obtain ⟨h3,h4,h5⟩:=IY (tms:=tms) e h1 h2 k
     exact ⟨by simp [h3],h4,h5⟩
theorem HA (bQ:dH P T) (Ea:P.follows .mixedOrders=true) (hl:gP T P lo) {fuel r:Nat} {ds:List D} {rs aJ:List ag} {d:D} (e:Y4 T hi fuel lo r ds rs=some (d,aJ)) :
  ∀ (N:Nat) (ay:Nat->Prop) (w0:Kp) (sp:List (D×Value)) (sl:aK) (df:List Nat) (a:Act) (w:World) (E:Env) (vs:List Value),R T N ay w0 sp ⟨sl,rs,df⟩ a w E->aB (aZ E (AV ay rs E) w) ds vs->
  ∃ b sz f tm as bd,bq E r b sz/\(Instr.yield b vs.toArray).run P w=.ok (.round b f tm as bd) w/\
   yt P b f tm as bd w λv w'=>∃ E',Kept E E'/\R T N ay w0 sp ⟨sl,aJ,df⟩ a w' E'/\aZ E' (AV ay aJ E') w' d v:=by
 intro N ay w0 sp sl df a w E vs h hv
 unfold Y4 at e
 split at e
 case h_2=>simp at e
 rename_i g M wJ ps as bd hr
 split at e
 case h_2=>simp at e
 rename_i A5 HK
 split at e
 case h_2=>simp at e
 rename_i j s hrun
 rw [bV] at hr
 obtain ⟨l,hd,sz,db,tm,h1,h2,h3,h4,h5⟩:=h.loop hr
 have hR:=h.Bj (M:=M) (A5:=wJ) (tm:=tm) h3 h4
 obtain ⟨hlen,hR1,Zk⟩:=IY (tms:=id) HK hR h5 hv
 have hy:=run_yield (P:=P) (args:=vs.toArray) h2 (by simp [hlen])
 refine ⟨l,sz,g,_,as,bd,⟨hd,h1⟩,hy,?_⟩
 have htm:(Array.foldl (λtmps x=>match x with
   | (t,a)=>tmps.setIfInBounds t a) tm (ps.toArray.zip vs.toArray))=(ps.zip vs).foldl (λtmps x=>tmps.setIfInBounds x.1 x.2) tm:=by
  simp
 intro c cs
 simp only at htm ⊢
 rw [htm]
 let b:Frame:={ (default:Frame) with fn:=g,kind:=.normal,roundOf:=some l }
 have hb0:∀ tm,Frame.round l g tm as bd .normal=b.atR { tmps:=tm,defers:=[] } [.code as,.beginRound,.code bd]:=λtm=>by
  simp [Frame.round,Frame.atR,b]
 rw [hb0]
 obtain ⟨a',w1,E',dt,hk,uq,za,hend,hsteps⟩:=ra (hi:=hi) (ro:=some r) (b:=b) (cs:=c::cs) bQ hl Ea rfl fuel hrun hR1 Zk ⟨l,sz,rfl,hd,h1⟩
 unfold DP at e
 split at e
 case h_2=>simp at e
 split at e
 case h_2=>simp at e
 rename_i g' M' gb UH Vf Uw Sy
 rw [bV] at Sy
 obtain ⟨l',qk,cF,db',tm',q1,q2,q3,q4,q5⟩:=uq.loop Sy
 obtain ⟨K,hE',_⟩:=hk.le r _ h1 (fA.J7 rfl)
 rw [hE'] at q1
 simp only [fA.wk,ak,bw] at q1
 obtain ⟨rfl,rfl,rfl⟩:=q1
 cases j with
 | none=>
   simp only [ak,bw] at e
   obtain ⟨rfl,rfl⟩:=e
   have hend:dt=[]:=hend
   subst hend
   exact ⟨.bool true,_,⟨E',hk,h.back (uq.td Sy hE' q2 q3 q4 q5 .ready none) hk.le,rfl,rfl⟩,hsteps.trans (.one (stepR_round_end rfl rfl (run_endRound none q2)))⟩
 | some c' =>
   simp only [ak,bw] at e
   obtain ⟨rfl,rfl⟩:=e
   refine ⟨.bool false,_,⟨E',hk,h.back (uq.td Sy hE' q2 q3 q4 q5 .done (some c')) hk.le,rfl,rfl⟩,hsteps.trans (.one ?_)⟩
   rcases hend with ⟨k,rfl,rfl⟩|⟨id,k,rfl,rfl,hx⟩
   .exact stepR_round_ret rfl rfl (run_endRound (some .ret) q2)
   .exact stepR_round_exit rfl rfl hx (run_endRound (some (.exit id)) q2)
theorem uL (bQ:dH P T) (Ea:P.follows .mixedOrders=true) {F:FuncId->Option Func} (hF:KY P F) {Kn:FuncId->Option D} (hKn:∀ f d,Kn f=some d->Enters P f/\Ft T P f [] d) {fuel:Nat} :
  ∀ n,gP T P (loN T hi F Kn fuel n)
 | 0=>⟨λf ds rs d aJ e=>by
   have e:(none:Option (D×List ag))=some (d,aJ):=e
   simp at e,λr ds rs d aJ e=>by
   have e:(none:Option (D×List ag))=some (d,aJ):=e
   simp at e,EG,λf ds rs d q x e=>by
   have e:(none:Option (D×Nat×ag))=some (d,q,x):=e
   simp at e,λf ds rs pK r _ _ e=>by
   have e:(none:Option (D×Nat×ag))=some r:=e
   simp at e⟩
 | n+1=>⟨λf ds rs d aJ e=>FI bQ Ea hF hKn (uL bQ Ea hF hKn n) e,λr ds rs d aJ e=>HA bQ Ea (uL bQ Ea hF hKn n) e,EG,λf ds rs d q x e=>by
   have e:(none:Option (D×Nat×ag))=some (d,q,x):=e
   simp at e,λf ds rs pK r _ _ e=>by
   have e:(none:Option (D×Nat×ag))=some r:=e
   simp at e⟩
end
section
def nd (b:Bool) (A:Prop):Prop:=Bool.rec False A b
def br (b:Bool) (A B:Prop):Prop:=Bool.rec B A b
theorem bX {b:Bool} {A:Prop}:nd b A↔b=true/\A:=by cases b<;>simp [nd]
theorem aC {b:Bool} {A:Prop} (h:b=true) (a:A):nd b A:=bX.2 ⟨h,a⟩
theorem aq {b:Bool} {A B:Prop} (h:b=true->A) (k:b=false->B):br b A B:=by
 cases b
 .exact k rfl
 .exact h rfl
theorem zd {b:Bool} {A B:Prop} (h:br b A B):(b=true/\A)∨(b=false/\B):=by
 cases b
 .exact .inr ⟨rfl,h⟩
 .exact .inl ⟨rfl,h⟩
def gB {α:Type} (x:Option α) (k:α->Prop):Prop:=match x with
 | some a=>k a
 | none=>False
theorem cx {α:Type} {x:Option α} {k:α->Prop} (h:gB x k):∃ a,x=some a/\k a:=by
 cases x with
 | none=>exact h.elim
 | some a=>exact ⟨a,rfl,h⟩
structure bP (T:dL) (P:Program) (f:FuncId) (ds:List D) (rs:List ag) (d:D) (aJ:List ag):Prop where
 out:Enters P f/\∀ (N:Nat) (ay:Nat->Prop) (w0:Kp) (sp:List (D×Value)) (sl:aK) (df:List Nat) (a:Act) (w:World) (E:Env) (vs:List Value),R T N ay w0 sp ⟨sl,rs,df⟩ a w E->aB (aZ E (AV ay rs E) w) ds vs->
  Go.Calls P f vs.toArray w λe w'=>∃ v E',e=.returned v/\Kept E E'/\R T N ay w0 sp ⟨sl,aJ,df⟩ a w' E'/\aZ E' (AV ay aJ E') w' d v
structure mO (T:dL) (P:Program) (r:Nat) (ds:List D) (rs:List ag) (d:D) (aJ:List ag):Prop where
 out:∀ (N:Nat) (ay:Nat->Prop) (w0:Kp) (sp:List (D×Value)) (sl:aK) (df:List Nat) (a:Act) (w:World) (E:Env) (vs:List Value),R T N ay w0 sp ⟨sl,rs,df⟩ a w E->aB (aZ E (AV ay rs E) w) ds vs->
  ∃ b sz f tm as bd,bq E r b sz/\(Instr.yield b vs.toArray).run P w=.ok (.round b f tm as bd) w/\
   yt P b f tm as bd w λv w'=>∃ E',Kept E E'/\R T N ay w0 sp ⟨sl,aJ,df⟩ a w' E'/\aZ E' (AV ay aJ E') w' d v
structure xc (T:dL) (P:Program) (f:FuncId) (ds:List D) (rs:List ag) (d:D) (q:Nat) (x:ag):Prop where
 out:∀ pK:List ag,rs.length=pK.length->(∀ (k:Nat) (y:ag),aV rs k=some y->y.live->aV pK k=some y)->bP T P f ds pK d (place q x pK)
abbrev Out:=D×List (Nat×ag)×List ag
inductive Rd where
 | no
 | ret (o:D×Nat×ag)
 | get (q:Nat) (k:ag->Rd)
def xP (rs:List ag) (r:Rd):Option (D×Nat×ag):=Rd.rec none (λo=>some o) (λq _ ih=>match aV rs q with
 | some x=>match x with
   | .dead=>none
   | x=>ih x
 | none=>none) r
structure fN where
 F:FuncId->List D->List ag->Out
 FY:Nat->List D->List ag->Out:=λ_ _ _=>(.t [],[],[])
 B:FuncId->List D->List ag->Bool:=λ_ _ _=>true
 R1:FuncId->List D->List ag->Out:=λ_ _ _=>(.t [],[],[])
 R2:FuncId->List D->List ag->Out:=λ_ _ _=>(.t [],[],[])
 S:List Nat:=[]
 W:FuncId->List D->Rd:=λ_ _=>.no
def mg (rs:List ag) (x:Out):List ag:=writes x.2.1 rs++x.2.2
def FR (S:List Nat) (ws:List (Nat×ag)):Bool:=List.rec true (λp _ ih=>Bool.rec false ih (pg p.1 S)) ws
def ko (S:List Nat) (aJ:List ag):List (Nat×ag):=List.rec [] (λq _ ih=>match aV aJ q with
 | some x=>(q,x)::ih
 | none=>ih) S
def NY (n:Nat) (ws:List (Nat×ag)):Bool:=List.rec true (λp _ ih=>Bool.rec false ih (ib n p.2)) ws
def kr (X:fN):Lo:=⟨λf ds rs=>some ((X.F f ds rs).1,mg rs (X.F f ds rs)),λr ds rs=>some ((X.FY r ds rs).1,mg rs (X.FY r ds rs)),λrs aJ=>some (ko X.S aJ),λf ds rs=>xP rs (X.W f ds)⟩
def Grown (S:List Nat) (rs aJ:List ag):Prop:=∃ ws ex,FR S ws=true/\aJ=writes ws rs++ex
open Classical in
def ct (T:dL) (P:Program) (X:fN):Lo:=⟨λf ds rs=>if bP T P f ds rs (X.F f ds rs).1 (mg rs (X.F f ds rs)) then some ((X.F f ds rs).1,mg rs (X.F f ds rs)) else none,
 λr ds rs=>if mO T P r ds rs (X.FY r ds rs).1 (mg rs (X.FY r ds rs)) then some ((X.FY r ds rs).1,mg rs (X.FY r ds rs)) else none,
 λrs aJ=>if Grown X.S rs aJ/\NY rs.length (ko X.S aJ)=true then some (ko X.S aJ) else none,
 λf ds rs=>match xP rs (X.W f ds) with
  | some o=>if xc T P f ds rs o.1 o.2.1 o.2.2 then some o else none
  | none=>none⟩
section
variable (T:dL) (P:Program) (X:fN) (hi:Hint)
def Hp (s:VS) (t:Nat) (x ix:Operand) (k:D->Prop):Prop:=match LI T t with
 | some a=>match iu (cl s.sl ix) with
   | some i=>match dm (cl s.sl x) with
     | some (.rt r q j)=>nd (cM i a.1) (k (.c (.rt r q (j+i.toNat*a.2.size))))
     | some (.im (.gp q))=>gB (IC T a.1 a.2.size i q) k
     | _=>False
   | none=>False
 | none=>match rQ T t with
   | some y=>match iu (cl s.sl ix) with
     | some i=>match dm (cl s.sl x) with
       | some (.im (.sl sz n get))=>nd (Nat.beq sz y.size) (nd (cM i n) (k (.c (.im (.pt sz (get i.toNat))))))
       | some (.sa r m)=>match aV s.rs r with
         | some (.row _ sz _ _)=>nd (Nat.beq sz y.size) (nd (cM i m) (k (.c (.rt r i.toNat 0))))
         | some (.arr _ sz _ _)=>nd (Nat.beq sz y.size) (nd (cM i m) (k (.c (.rt r i.toNat 0))))
         | some (.bt _ sz _ _ _)=>nd (Nat.beq sz y.size) (nd (cM i m) (k (.c (.rt r i.toNat 0))))
         | _=>False
       | _=>False
     | none=>False
   | none=>False
def RJ (s:VS) (c x y:Operand) (k:D->Prop):Prop:=match jn (cl s.sl c) with
 | some b=>br b (gB (jn (cl s.sl x)) λz=>k (bool z)) (gB (jn (cl s.sl y)) λz=>k (bool z))
 | none=>False
def D7 (rs:List ag) (c:C) (h:Int) (k:D->Prop):Prop:=match c with
 | .im (.sl sz n get)=>nd (GU h n) (k (.c (.im (.sl sz h.toNat get))))
 | .sa r m=>match aV rs r with
   | some (.row _ _ _ _)=>nd (GU h m) (k (.c (.sa r h.toNat)))
   | some (.arr _ _ _ _)=>nd (GU h m) (k (.c (.sa r h.toNat)))
   | some (.bt _ _ _ _ _)=>nd (GU h m) (k (.c (.sa r h.toNat)))
   | _=>False
 | _=>gB (nS rs c h) k
def BG (sz:Nat) (c:C) (h:Int) (k:D->Prop):Prop:=match c with
 | .im (.sl cF n get)=>nd (GU h n) (nd (Nat.beq cF sz) (k (.c (.im (.sl cF (n-h.toNat) λi j=>get (h.toNat+i) j)))))
 | _=>False
def HH (s:VS) (t:Nat) (x:Operand) (lo hi mx:Option Operand) (k:D->Prop):Prop:=match lo,hi,mx with
 | none,some h,none=>match rQ T t with
   | some _=>match dm (cl s.sl x),iu (cl s.sl h) with
     | some c,some n=>D7 s.rs c n k
     | _,_=>False
   | none=>False
 | some l,none,none=>match rQ T t with
   | some y=>match dm (cl s.sl x),iu (cl s.sl l) with
     | some c,some n=>BG y.size c n k
     | _,_=>False
   | none=>False
 | _,_,_=>False
def OL (y:Ty) (sz n:Nat) (get:Nat->Nat->I) (i j:Nat) (k:D->Prop):Prop:=match y.kd.agg with
 | true=>nd (Nat.ble (j+y.size) sz) (nd (Nat.blt i n) (k (.a (dT (get i) j y.size))))
 | false=>nd (Nat.blt j sz) (nd (Nat.blt i n) (k (.c (.im (get i j)))))
def D2 (i:Nat) (K:Nat->Prop) (m:Nat):Nat->Prop:=Nat.rec (λ_=>False) (λ_ ih c=>br (Nat.beq i c) (K c) (ih (c+1))) m
def FW (y:Ty) (f:Nat->Option C) (j:Nat) (k:D->Prop):Prop:=match y.kd.agg with
 | true=>gB (pN f j y.size) λl=>k (.a l)
 | false=>gB (f j) λc=>k (.c c)
def ao5 (y:Ty) (sz j:Nat):Bool:=match y.kd.agg with
 | true=>Nat.ble (j+y.size) sz
 | false=>Nat.blt j sz
def Hu (y:Ty) (sz n:Nat) (get:Nat->Nat->O) (et:Option (Nat×List Fc)) (i j:Nat) (k:D->Prop):Prop:=nd (ao5 y sz j) (nd (Nat.blt i n) (match et with
 | none=>FW y (λj=>LM (get i j)) j k
 | some x=>nd (Nat.beq i x.1) (FW y (λj=>Lk (aV x.2 j)) j k)))
def Oi (s:VS) (t:Nat) (x:Operand) (k:D->Prop):Prop:=match T.ty t,dm (cl s.sl x) with
 | some y,some c=>match c with
   | .rt r i j=>match aV s.rs r with
     | some (.arr _ sz n get)=>OL y sz n get i j k
     | some (.row _ sz n l)=>D2 i (λc=>gB (sC y l (c*sz+j)) k) n 0
     | some (.bt _ sz n get et)=>Hu y sz n get et i j k
     | _=>gB (lg T s t x) k
   | _=>gB (lg T s t x) k
 | _,_=>False
def YZ (op:BinOp) (a b:Int) (k:D->Prop):Prop:=match op with
 | .quo=>nd (!(b==0)) (k (int (IntKind.i64.wrap (a.tdiv b))))
 | .rem=>nd (!(b==0)) (k (int (a.tmod b)))
 | _=>gB (vR op a b) λz=>k (.v z)
def Zm (s:VS) (op:BinOp) (t:Nat) (x y:Operand) (k:D->Prop):Prop:=match isNil y with
 | true=>gB (ve T s op t x) k
 | false=>match iu (cl s.sl x),iu (cl s.sl y) with
   | some a,some b=>YZ op a b k
   | _,_=>gB (xS T s op t x y) k
def Cw (el sz n:Nat) (get:Nat->Nat->O) (et:Option (Nat×List Fc)) (r i j:Nat) (cs:List C) (k:cm->Prop):Prop:=match CY cs with
 | some ys=>nd (Nat.blt i n) (k (.wr none [(r,.bt el sz n (Mf get i j ys) et)]))
 | none=>False
def CB (el sz n:Nat) (get:Nat->Nat->O) (et:Option (Nat×List Fc)) (size r i j:Nat) (cs:List C) (k:cm->Prop):Prop:=nd (Nat.ble (j+size) sz) (match et with
 | none=>Cw el sz n get none r i j cs k
 | some x=>nd (Nat.beq i x.1) (gB (Ll cs x.2 j) λl=>k (.wr none [(r,.bt el sz n get (some (x.1,l)))])))
def JH (rs:List ag) (size r i j:Nat) (cs:List C) (k:cm->Prop):Prop:=match aV rs r with
 | some (.arr el sz n get)=>match CY cs with
   | some ys=>nd (Nat.ble (j+size) sz) (nd (Nat.blt i n) (k (.wr none [(r,.arr el sz n (IZ get i j ys))])))
   | none=>gB (oP rs cs) k
 | some (.bt el sz n get et)=>CB el sz n get et size r i j cs k
 | _=>gB (mo rs size r i j cs) k
def HN (s:VS) (dst:Option Tmp) (t:Nat) (x v:Operand) (k:cm->Prop):Prop:=match dst with
 | some _=>False
 | none=>match T.ty t,cl s.sl v with
   | some y,some d=>match d.cells with
     | some cs=>nd (Nat.beq cs.length y.size&&Nat.blt 0 y.size) (match dm (cl s.sl x) with
       | some (.rt r i j)=>JH s.rs y.size r i j cs k
       | _=>False)
     | none=>False
   | _,_=>False
def RC (b:Nat) (s:VS) (t:Nat) (l c:Operand) (k:cm->Prop):Prop:=match T.ty t with
 | some { kd:=.slice el,.. }=>match T.ty el with
   | some y=>match xK y with
     | some z=>match iu (cl s.sl l),iu (cl s.sl c) with
       | some (.ofNat n),some (.ofNat m)=>match CY z with
         | some is=>nd (Nat.blt 0 y.size) (nd (Nat.ble n maxLen&&Nat.ble (n*y.bytes) 281474976710656) (nd (Nat.beq n m) (k (.wr (some (.c (.sa b n))) [(b,.arr el y.size n (λ_=>iv is))]))))
         | none=>False
       | _,_=>False
     | none=>False
   | none=>False
 | _=>False
def Nk (el sz n':Nat) (get':Nat->Nat->I) (bytes b:Nat) (rs:List ag) (c:C) (k:cm->Prop):Prop:=match c with
 | .im (.v (.slice none 0 0))=>nd (b5 n' bytes) (k (.wr (some (.c (.sa b n'))) [(b,.arr el sz n' get')]))
 | .sa r m=>match aV rs r with
   | some (.arr pF cF n get)=>nd (Nat.beq el pF&&Nat.beq sz cF) (nd (b5 (n+n') bytes) (nd (Nat.beq m n) (k (.wr (some (.c (.sa b (n+n')))) [(r,.dead),(b,.arr el sz (n+n') (gA n get get'))]))))
   | _=>False
 | _=>False
def Oy (sz:Nat) (rs:List ag) (c:C) (k:Nat×(Nat->Nat->I)->Prop) (K:Prop):Prop:=match c with
 | .sa q m=>match aV rs q with
   | some (.arr _ cF n get)=>nd (Nat.beq cF sz) (nd (Nat.ble m n) (k (m,get)))
   | _=>match se sz rs c with
     | some x=>k x
     | none=>K
 | _=>match se sz rs c with
   | some x=>k x
   | none=>K
def Wc (ty:Ty) (el b:Nat) (rs:List ag) (c src:C) (k:cm->Prop):Prop:=Oy ty.size rs src (λx=>nd (Nat.blt 0 ty.size) (Nk el ty.size x.1 x.2 ty.bytes b rs c k)) (gB (oP rs [src]) k)
def V6 (ty:Ty) (el pF cF n:Nat) (get:Nat->Nat->O) (b r m:Nat) (rs:List ag) (src:C) (k:cm->Prop):Prop:=match xY rs src with
 | some (sz,1,l)=>nd (Nat.beq sz ty.size&&Nat.blt 0 sz) (nd (Nat.beq el pF&&Nat.beq sz cF) (nd (b5 (n+1) ty.bytes) (nd (Nat.beq m n) (k (.wr (some (.c (.sa b (n+1)))) [(r,.dead),(b,.bt el sz (n+1) get (some (n,l.map Fc.c)))])))))
 | _=>False
def Ng (el b:Nat) (rs:List ag) (c src:C) (k:cm->Prop):Prop:=match c with
 | .sa r m=>match aV rs r with
   | some (.bt pF cF n get none)=>match T.ty el with
     | some ty=>V6 ty el pF cF n get b r m rs src k
     | none=>False
   | _=>gB (oW T el b rs (some c) (some src)) k
 | _=>gB (oW T el b rs (some c) (some src)) k
def Zo (el b:Nat) (rs:List ag) (x src:Option C) (k:cm->Prop):Prop:=match x,src with
 | some c,some src=>match MJ rs c src with
   | true=>match T.ty el with
     | some ty=>Wc ty el b rs c src k
     | none=>False
   | false=>Ng T el b rs c src k
 | _,_=>False
def YP (b:Nat) (s:VS) (ts:List TypeId) (xs:List Operand) (k:cm->Prop):Prop:=match ts,xs with
 | [t,t'],[x,y]=>nd (Nat.beq t t') (match T.ty t with
   | some { kd:=.slice el,.. }=>Zo T el b s.rs (dm (cl s.sl x)) (dm (cl s.sl y)) k
   | _=>False)
 | _,_=>False
def CD (rs:List ag) (g:FuncId) (ds:List D) (k:cm->Prop):Prop:=match dn rs ds with
 | some is=>bP T P g is [] (X.F g is []).1 (mg [] (X.F g is []))/\gB (gR (kr X) rs g ds) k
 | none=>False
def QN (rs:List ag) (g:FuncId) (ds:List D) (k:cm->Prop):Prop:=
 bP T P g ds rs (X.F g ds rs).1 (mg rs (X.F g ds rs))/\nd (FR X.S (X.F g ds rs).2.1) (k (.all (X.F g ds rs).1 (mg rs (X.F g ds rs))))
def aj7 (rs:List ag) (g:FuncId) (ds:List D) (k:cm->Prop):Prop:=match xP rs (X.W g ds) with
 | some o=>xc T P g ds rs o.1 o.2.1 o.2.2/\nd (Nat.blt o.2.1 rs.length) (k (.wr (some o.1) [(o.2.1,o.2.2)]))
 | none=>False
def BC (x:Option cm):Option (Bool×cm):=match x with
 | some e=>some (true,e)
 | none=>none
def Hj (lo:Lo) (rs:List ag) (f:FuncId) (ds:List D) (b:Nat):Option (Bool×cm):=match dn rs ds with
 | some is=>match lo.call f is [] with
   | some (.c (.sa q m),aJ)=>match aV aJ q with
     | some (.arr el sz n get)=>match jk rs ds (.wr (some (.c (.sa b n))) [(b,.arr el sz n get)]) with
       | some e=>some (Nat.beq m n,e)
       | none=>none
     | _=>BC (gf lo rs f ds b)
   | _=>BC (gf lo rs f ds b)
 | none=>none
def II (rs:List ag) (b:Nat) (g:FuncId) (ds:List D) (k:cm->Prop):Prop:=match hi.mode g with
 | 0=>CD T P X rs g ds k
 | 1=>QN T P X rs g ds k
 | 2=>match dn rs ds with
   | some is=>bP T P g is [] (X.F g is []).1 (mg [] (X.F g is []))/\gB (Hj (kr X) rs g ds b) λe=>nd e.1 (k e.2)
   | none=>False
 | 4=>aj7 T P X rs g ds k
 | 5=>match dn rs ds with
   | some is=>bP T P g is [] (X.F g is []).1 (mg [] (X.F g is []))/\gB (zT (kr X) rs g ds b) k
   | none=>False
 | _=>Bool.rec (QN T P X rs g ds k) (CD T P X rs g ds k) (fk ds)
def af6 (rs:List ag) (r:Nat) (ds:List D) (k:cm->Prop):Prop:=
 mO T P r ds rs (X.FY r ds rs).1 (mg rs (X.FY r ds rs))/\nd (FR X.S (X.FY r ds rs).2.1) (k (.all (X.FY r ds rs).1 (mg rs (X.FY r ds rs))))
def IU (b:Nat) (s:VS) (f:Operand) (xs:List Operand) (k:cm->Prop):Prop:=match dm (cl s.sl f),zD s.sl xs with
 | some c,some ds=>match c with
   | .yl r=>af6 T P X s.rs r ds k
   | _=>match pV c with
     | some (g,eA)=>II T P X hi s.rs b g (ds++eA) k
     | none=>False
 | _,_=>False
def NG (b:Nat) (s:VS) (c:Call) (k:cm->Prop):Prop:=match HP T s c with
 | some d=>k (.val d)
 | none=>match c.callee with
   | .builtin .append=>YP T b s c.argTypes.toList c.args.toList k
   | .value f=>IU T P X hi b s f c.args.toList k
   | _=>False
def RG (b:Nat) (s:VS) (dst:Option Tmp) (op:Op) (k:cm->Prop):Prop:=match op with
 | .indexAddr t x i=>Hp T s t x i λd=>k (.val d)
 | .pick c x y=>RJ s c x y λd=>k (.val d)
 | .slice t x lo h mx=>HH T s t x lo h mx λd=>k (.val d)
 | .load t x=>Oi T s t x λd=>k (.val d)
 | .binOp o t x y _=>Zm T s o t x y λd=>k (.val d)
 | .store t x v=>HN T s dst t x v k
 | .makeSlice t l c=>RC T b s t l c k
 | .call c=>NG T P X hi b s c k
 | op=>gB (fO T (kr X) hi b s dst op) k
def Rt (t:Tmp) (b:Bool) (sl:aK):aK:=List.rec [] (λx l ih=>Bool.rec (x::ih) ((x.1,bool b,x.2.2)::l) (Nat.beq x.1 t)) sl
def vC (t:Tmp) (b:Bool) (s:VS):VS:={ s with sl:=Rt t b s.sl }
def JN (s:VS) (c:Operand) (p:Bool) (A B:VS->Prop):Prop:=match c with
 | .tmp t=>br p (A (vC t true s)) (B (vC t false s))
 | _=>br p (A s) (B s)
def Jt (ops:List Oper) (s:VS) (g:Option (Nat×Bool)) (A B:VS->Prop):Prop:=match g with
 | none=>A s
 | some (j,want)=>match aV ops j with
   | some p=>match p.dst with
     | some t=>match eJ s.sl t with
       | some (.t [])=>B s
       | d=>match jn d with
         | some x=>Bool.rec (br x (B (vC t true s)) (A (vC t false s))) (br x (A (vC t true s)) (B (vC t false s))) want
         | none=>False
     | none=>False
   | none=>False
def KS (N:Nat) (s:VS) (dst:Option Tmp) (k:VS->Prop) (again:List Nat->Prop) (e:cm):Prop:=match e with
 | .cD l=>again l
 | e=>gB (qb N s dst e) k
def PT (N:Nat) (s:VS) (dst:Option Tmp) (op:Op) (k:VS->Prop):Prop:=
 RG T P X hi s.rs.length s dst op (KS N s dst k λl=>gB (gK l s) λs1=>RG T P X hi s1.rs.length s1 dst op (KS N s1 dst k λ_=>False))
def opW (N:Nat) (ops:List Oper) (s:VS) (o:Oper) (k:VS->Prop):Prop:=
 Jt ops s o.guard (λs=>PT T P X hi N s o.dst o.op k) λs=>gB (rA N s o.dst (.t [])) k
def YG (N:Nat) (ops l:List Oper):VS->(VS->Prop)->Prop:=List.rec (λs k=>k s) (λo _ ih s k=>opW T P X hi N ops s o λs'=>ih s' k) l
def ac5 (rs:List ag) (cr:List Nat) (i:Nat) (dst:Option Tmp) (e:cm) (k:Pr->Prop):Prop:=gB (rX (kr X) rs cr i dst (some e)) λu=>match u with
 | .ok ⟨t,d,ws,none,true⟩=>nd (NY rs.length ws) (k (.ok ⟨t,d,ws,none,true⟩))
 | u=>k u
def evalW (cr:List Nat) (i b:Nat) (ops:List Oper) (s:VS) (o:Oper) (k:VS->Pr->Prop):Prop:=
 Jt ops s o.guard (λs=>RG T P X hi b s o.dst o.op λe=>ac5 X s.rs cr i o.dst e (k s)) λs=>k s (.ok ⟨o.dst,some (.t []),[],none,false⟩)
def DM (N:Nat) (cr:List Nat) (ops l:List Oper):Nat->Nat->List (Nat×List Nat)->VS->(Dc->Prop)->Prop:=List.rec (λ_ _ W s q=>q (.ok W s)) (λo _ ih k b W s q=>
 evalW T P X hi cr k b ops s o λs u=>match u with
  | .ok u=>nd (Ec N u.dst u.val) (ih (k+1) (b+eu o.op) (ES k u W) (u.on s) q)
  | .cD c=>q (.cD c)) l
def Cp (N:Nat) (ops:List Oper) (cr:List Nat) (W:List (Nat×List Nat)) (l:List Oper):List Nat->Nat->Nat->VS->(VS->Prop)->Prop:=List.rec (λ_ _ _ s q=>q s) (λo _ ih ms i b s q=>
 match ms with
 | m::ms=>evalW T P X hi cr i b ops (UP (eC cr i m W) s) o λs1 u=>match u with
   | .ok u=>nd (Ec N u.dst u.val&&(Cd (u.ws.map (·.1)) (nn i W)&&(nF (u.ws.map (·.1)) (eC cr i m W)&&Sz u.ex (eC cr i m W)))) (ih ms (i+1) (b+eu o.op) (u.on { s with sl:=s1.sl }) q)
   | .cD _=>False
 | []=>False) l
def CK (N:Nat) (ops:List Oper) (s0 s':VS) (b:Nat) (W:List (Nat×List Nat)) (k:VS->Prop):Prop:=match W with
 | []=>k s'
 | _=>Cp T P X hi N ops (jm ops []) W ops (jm ops []) 0 b s0 k
def HT (N:Nat) (ops:List Oper) (n:Nat):VS->(VS->Prop)->Prop:=Nat.rec (λ_ _=>False) (λ_ ih s k=>
 DM T P X hi N (jm ops []) ops ops 0 s.rs.length [] (fP ops s) λr=>match r with
  | .cD l=>gB (gK l s) λs'=>ih s' k
  | .ok W s'=>CK T P X hi N ops (fP ops s) s' s.rs.length W k) n
def wa (N:Nat) (f:FuncId) (ro:Option Nat) (id:Nat) (ops:List Oper) (draw:Bool) (s:VS) (k:VS->Prop):Prop:=match draw with
 | false=>YG T P X hi N ops ops s λs'=>k (tj hi f id s')
 | true=>match ro with
   | some _=>False
   | none=>match si ops with
     | true=>HT T P X hi N ops 8 s λs'=>k (tj hi f id s')
     | false=>False
def Bw (b:Nat) (s:VS) (aJ:List ag) (k:Option Code->VS->Prop):Prop:=match aV aJ (b+1) with
 | some (.loop _ _ _ _ _ _ .ready none)=>k none { s with rs:=setAt aJ (b+1) .dead,df:=b::s.df }
 | some (.loop _ _ _ _ _ _ .done (some c))=>k (some c) { s with rs:=setAt aJ (b+1) .dead,df:=b::s.df }
 | _=>False
def OH (s:VS) (h:FuncId) (ds:List D) (rs:List ag) (k:Option Code->VS->Prop):Prop:=
 br (X.B h ds rs) (bP T P h ds rs (X.R1 h ds rs).1 (mg rs (X.R1 h ds rs))/\Bw s.rs.length s (mg rs (X.R1 h ds rs)) k) (bP T P h ds rs (X.R2 h ds rs).1 (mg rs (X.R2 h ds rs))/\Bw s.rs.length s (mg rs (X.R2 h ds rs)) k)
def Br (N:Nat) (f:FuncId) (ro:Option Nat) (g:Operand) (ps:List Tmp) (as b:Code) (s:VS) (k:Option Code->VS->Prop):Prop:=match ro with
 | some _=>False
 | none=>match dm (cl s.sl g) with
   | some c=>match pV c with
     | some (h,eA)=>OH T P X s h (.c (.yl (s.rs.length+1))::eA) (s.rs++[.kA,.loop f N s.sl ps as b .ready none]) k
     | none=>False
   | none=>False
def uP (N:Nat) (f:FuncId) (ro:Option Nat) (stop:Nat->Bool) (L:List Item->VS->Prop) (Q:Option Code->VS->Prop) (n:Nat):Bool->List Item->VS->Prop:=Nat.rec (λ_ _ _=>False) (λ_ ih go todo s=>match todo with
 | []=>Q none s
 | x::k=>match x with
   | .inBlock _=>ih go k s
   | .inLoop c=>ih go (.code c::.inLoop c::k) s
   | .beginRound=>gB (uh ro s) λs'=>ih go k s'
   | .code c=>match c with
     | .skip=>ih go k s
     | .label _=>ih go k s
     | .ret=>Q (some .ret) s
     | .seq a b=>ih go (.code a::.code b::k) s
     | .cond c a b=>match jn (cl s.sl c) with
       | some p=>JN s c p (ih go (.code a::k)) (ih go (.code b::k))
       | none=>False
     | .block id c=>ih go (.code c::.inBlock id::k) s
     | .loop c=>ih go (.code c::.inLoop c::k) s
     | .exit id=>match exitTo id k with
       | some k'=>ih go k' s
       | none=>Q (some (.exit id)) s
     | .region id ops draw=>Bool.rec (wa T P X hi N f ro id ops.toList draw s λs'=>ih false k s') (L (.code (.region id ops draw)::k) s) (!go&&stop id)
     | .rangeFunc g ps as b=>Br T P X N f ro g ps.toList as b s λj s'=>ih false (Aw j k) s'
     | _=>False
   | _=>False) n
end
def sS (T:dL) (res:List ResultVar) (Q:D->List ag->Prop) (j:Option Code) (s:VS):Prop:=nd (Se j) (gB (RN T s res) λx=>Q x.1 x.2)
def Nl (r:Nat) (Q:D->List ag->Prop) (j:Option Code) (s:VS):Prop:=gB (DP r j s) λx=>Q x.1 x.2
end
section
variable {T:dL} {P:Program} {X:fN} {hi:Hint} {N:Nat} {s:VS}
theorem LJ {t:Nat} {x ix:Operand} {k:D->Prop} (h:Hp T s t x ix k):∃ d,nw T s t x ix=some d/\k d:=by
 unfold Hp at h
 unfold nw
 split at h
 .rename_i a ha
  split at h
  case h_2=>exact h.elim
  rename_i i jW
  split at h
  case h_3=>exact h.elim
  .rename_i r q j hc
   obtain ⟨h1,h2⟩:=bX.1 h
   refine ⟨_,?_,h2⟩
   simp only [ha,jW,hc,xi,Bo,h1]
  .rename_i q hc
   obtain ⟨d,h1,h2⟩:=cx h
   exact ⟨d,by simp only [ha,jW,hc,xi,h1],h2⟩
 .rename_i ha
  split at h
  case h_2=>exact h.elim
  rename_i y hy
  split at h
  case h_2=>exact h.elim
  rename_i i jW
  split at h
  .rename_i sz n get hc
   obtain ⟨h1,h2⟩:=bX.1 h
   obtain ⟨h3,h4⟩:=bX.1 h2
   refine ⟨_,?_,h4⟩
   simp only [ha,hy,jW,hc,ri,h1,h3]
  .rename_i r m hc
   split at h
   case h_4=>exact h.elim
   all_goals
    rename_i hr
    obtain ⟨h1,h2⟩:=bX.1 h
    obtain ⟨h3,h4⟩:=bX.1 h2
    refine ⟨_,?_,h4⟩
    simp only [ha,hy,jW,hc,ri,hr,h1,h3]
  .exact h.elim
theorem Np {c x y:Operand} {k:D->Prop} (h:RJ s c x y k):∃ d,Ah s c x y=some d/\k d:=by
 unfold RJ at h
 unfold Ah
 split at h
 case h_2=>exact h.elim
 rename_i b hb
 rcases zd h with ⟨rfl,h⟩|⟨rfl,h⟩
 .obtain ⟨z,h1,h2⟩:=cx h
  refine ⟨_,?_,h2⟩
  simp only [hb,h1]
 .obtain ⟨z,h1,h2⟩:=cx h
  refine ⟨_,?_,h2⟩
  simp only [hb,h1]
theorem HI {rs:List ag} {c:C} {h0:Int} {k:D->Prop} (h:D7 rs c h0 k):∃ d,nS rs c h0=some d/\k d:=by
 unfold D7 at h
 split at h
 .obtain ⟨h1,h2⟩:=bX.1 h
  exact ⟨_,by simp only [nS,h1],h2⟩
 .split at h
  case h_4=>exact h.elim
  all_goals
   rename_i hr
   obtain ⟨h1,h2⟩:=bX.1 h
   exact ⟨_,by simp only [nS,hr,h1],h2⟩
 .exact cx h
theorem HF {sz:Nat} {c:C} {h0:Int} {k:D->Prop} (h:BG sz c h0 k):∃ d,ym sz c h0=some d/\k d:=by
 unfold BG at h
 split at h
 case h_2=>exact h.elim
 obtain ⟨h1,h2⟩:=bX.1 h
 obtain ⟨h3,h4⟩:=bX.1 h2
 exact ⟨_,by simp only [ym,h1,h3,Bool.and_self],h4⟩
theorem L4 {t:Nat} {x:Operand} {l h0 mx:Option Operand} {k:D->Prop} (h:HH T s t x l h0 mx k):∃ d,lL T s t x l h0 mx=some d/\k d:=by
 unfold HH at h
 unfold lL
 split at h
 .split at h
  case h_2=>exact h.elim
  rename_i y hy
  split at h
  case h_2=>exact h.elim
  rename_i c n hc hn
  obtain ⟨d,h1,h2⟩:=HI h
  exact ⟨d,by simp only [hy,hc,hn,h1],h2⟩
 .split at h
  case h_2=>exact h.elim
  rename_i y hy
  split at h
  case h_2=>exact h.elim
  rename_i c n hc hn
  obtain ⟨d,h1,h2⟩:=HF h
  exact ⟨d,by simp only [hy,hc,hn,h1],h2⟩
 .exact h.elim
theorem xx {i:Nat} {K:Nat->Prop}:∀ {m c:Nat},D2 i K m c->K i
 | 0,c,h=>h.elim
 | m+1,c,h=>by
   have h:br (Nat.beq i c) (K c) (D2 i K m (c+1)):=h
   rcases zd h with ⟨h1,h2⟩|⟨_,h2⟩
   .rw [bK h1]; exact h2
   .exact xx h2
theorem RQ {y:Ty} {f g:Nat->Option C} {j:Nat} {k:D->Prop} (hfg:f=g) (h:FW y f j k):∃ d,(match y.kd.agg with
  | true=>match pN g j y.size with
    | some l=>some (.a l)
    | none=>none
  | false=>match g j with
    | some c=>some (.c c)
    | none=>none)=some d/\k d:=by
 subst hfg
 unfold FW at h
 split at h
 .rename_i ha
  obtain ⟨l,h1,h2⟩:=cx h
  exact ⟨_,by simp only [ha,h1],h2⟩
 .rename_i ha
  obtain ⟨l,h1,h2⟩:=cx h
  exact ⟨_,by simp only [ha,h1],h2⟩
theorem My {y:Ty} {sz n:Nat} {get:Nat->Nat->O} {et:Option (Nat×List Fc)} {i j:Nat} {k:D->Prop} (h:Hu y sz n get et i j k):∃ d,FL y sz n (zX get et i) i j=some d/\k d:=by
 unfold Hu at h
 obtain ⟨h1,h2⟩:=bX.1 h
 obtain ⟨h3,h4⟩:=bX.1 h2
 have fin:∀ {f:Nat->Option C},f=zX get et i->FW y f j k->∃ d,FL y sz n (zX get et i) i j=some d/\k d:=by
  intro f hf hp
  obtain ⟨d,q1,q2⟩:=RQ hf hp
  refine ⟨d,?_,q2⟩
  unfold FL
  unfold ao5 at h1
  cases ha:y.kd.agg with
  | true=>simp only [ha] at h1 q1 ⊢; simp only [h1,h3]; exact q1
  | false=>simp only [ha] at h1 q1 ⊢; simp only [h1,h3]; exact q1
 split at h4
 .exact fin rfl h4
 .rename_i x
  obtain ⟨q1,q2⟩:=bX.1 h4
  exact fin (by funext j; simp only [zX,q1]) q2
theorem Q5 {t:Nat} {x:Operand} {k:D->Prop} (h:Oi T s t x k):∃ d,lg T s t x=some d/\k d:=by
 unfold Oi at h
 split at h
 case h_2=>exact h.elim
 rename_i y c hy hc
 split at h
 case h_2=>exact cx h
 rename_i r i j
 split at h
 case h_4=>exact cx h
 case h_2=>
  rename_i el sz n l hr
  obtain ⟨d,h1,h2⟩:=cx (xx h)
  exact ⟨d,by simp only [lg,hy,hc,sc,hr,zg,h1],h2⟩
 case h_3=>
  rename_i el sz n get et hr
  obtain ⟨d,h1,h2⟩:=My h
  exact ⟨d,by simp only [lg,hy,hc,sc,hr,zg,h1],h2⟩
 rename_i el sz n get hr
 unfold OL at h
 split at h
 .rename_i ha
  obtain ⟨h1,h2⟩:=bX.1 h
  obtain ⟨h3,h4⟩:=bX.1 h2
  exact ⟨_,by simp only [lg,hy,hc,sc,hr,zg,Ki,ha,h1,h3],h4⟩
 .rename_i ha
  obtain ⟨h1,h2⟩:=bX.1 h
  obtain ⟨h3,h4⟩:=bX.1 h2
  exact ⟨_,by simp only [lg,hy,hc,sc,hr,zg,Ki,ha,h1,h3],h4⟩
theorem Vt {op:BinOp} {a b:Int} {k:D->Prop} (h:YZ op a b k):∃ z,vR op a b=some z/\k (.v z):=by
 unfold YZ at h
 split at h
 .obtain ⟨h1,h2⟩:=bX.1 h
  simp only [Bool.not_eq_true'] at h1
  exact ⟨_,by simp only [vR,h1],h2⟩
 .obtain ⟨h1,h2⟩:=bX.1 h
  simp only [Bool.not_eq_true'] at h1
  exact ⟨_,by simp only [vR,h1],h2⟩
 .exact cx h
theorem EM {d:Option D} {n:Int} (e:iu d=some n):∃ v,Gy d=some v/\G8 v=some n:=by
 unfold iu at e
 split at e
 .rename_i v hv; exact ⟨v,hv,e⟩
 .simp at e
theorem VA {op:BinOp} {t:Nat} {x y:Operand} {k:D->Prop} (h:Zm T s op t x y k):∃ d,xS T s op t x y=some d/\k d:=by
 unfold Zm at h
 split at h
 .rename_i hn
  obtain ⟨d,h1,h2⟩:=cx h
  exact ⟨d,by simp only [xS,hn,h1],h2⟩
 .rename_i hn
  split at h
  .rename_i a b ha hb
   obtain ⟨z,h1,h2⟩:=Vt h
   obtain ⟨u,hu,hu2⟩:=EM ha
   obtain ⟨v,hv,hv2⟩:=EM hb
   have hp:G4 y=false:=by
    unfold G4
    split
    .rename_i q
     have hb:iu (some (.c (.im (.v (.pointer none)))))=some b:=hb
     cases hb
    .have hb:iu (some (.c (.im (.v .nilFunc))))=some b:=hb
     cases hb
    .rfl
   exact ⟨_,by simp only [xS,hn,hp,hu,hv,Hk,hu2,hv2,h1],h2⟩
  .exact cx h
theorem Jk {el sz n size r i j:Nat} {get:Nat->Nat->O} {et:Option (Nat×List Fc)} {cs:List C} {k:cm->Prop} (hb:Nat.ble (j+size) sz=true) (h:Cw el sz n get et r i j cs k):∃ e,pw el sz n get et size r i j cs=some e/\k e:=by
 unfold Cw at h
 split at h
 case h_2=>exact h.elim
 rename_i ys hys
 obtain ⟨h1,h2⟩:=bX.1 h
 exact ⟨_,by simp only [pw,hys,h1,hb],h2⟩
theorem Ii {el sz n size r i j:Nat} {get:Nat->Nat->O} {et:Option (Nat×List Fc)} {cs:List C} {k:cm->Prop} (h:CB el sz n get et size r i j cs k):∃ e,rv el sz n get et size r i j cs=some e/\k e:=by
 unfold CB at h
 obtain ⟨h1,h2⟩:=bX.1 h
 split at h2
 .exact Jk h1 h2
 .rename_i x
  obtain ⟨q1,q2⟩:=bX.1 h2
  obtain ⟨l,q3,q4⟩:=cx q2
  exact ⟨_,by simp only [rv,q1,q3,h1],q4⟩
theorem K8 {lo:Lo} {hi:Hint} {b:Nat} {dst:Option Tmp} {t:Nat} {x v:Operand} {k:cm->Prop} (h:HN T s dst t x v k):∃ e,gU T s dst t x v=some e/\k e:=by
 unfold HN at h
 split at h
 .exact h.elim
 split at h
 case h_2=>exact h.elim
 rename_i y d hy hd
 split at h
 case h_2=>exact h.elim
 rename_i cs hcs
 obtain ⟨h1,h2⟩:=bX.1 h
 split at h2
 case h_2=>exact h2.elim
 rename_i r i j hx
 have fin:∀ {e:cm},mo s.rs y.size r i j cs=some e->gU T s none t x v=some e:=λhe=>by
  simp only [gU,hy,hd,hcs,h1,hx,he]
 unfold JH at h2
 split at h2
 .rename_i el sz n get hr
  split at h2
  .rename_i ys hys
   obtain ⟨h3,h4⟩:=bX.1 h2
   obtain ⟨h5,h6⟩:=bX.1 h4
   exact ⟨_,fin (by simp only [mo,hr,hys,h3,h5]),h6⟩
  .rename_i hys
   obtain ⟨e,h3,h4⟩:=cx h2
   exact ⟨e,fin (by simp only [mo,hr,hys,h3]),h4⟩
 .rename_i el sz n get et hr
  obtain ⟨e,h3,h4⟩:=Ii h2
  exact ⟨e,fin (by simp only [mo,hr,h3]),h4⟩
 .obtain ⟨e,h3,h4⟩:=cx h2
  exact ⟨e,fin h3,h4⟩
theorem PF {b:Nat} {t:Nat} {l c:Operand} {k:cm->Prop} (h:RC T b s t l c k):∃ e,mW T b s t l c=some e/\k e:=by
 unfold RC at h
 split at h
 case h_2=>exact h.elim
 rename_i th
 split at h
 case h_2=>exact h.elim
 rename_i hy
 split at h
 case h_2=>exact h.elim
 rename_i hz
 split at h
 case h_2=>exact h.elim
 rename_i hl hc
 split at h
 case h_2=>exact h.elim
 rename_i his
 obtain ⟨h1,h2⟩:=bX.1 h
 obtain ⟨h3,h4⟩:=bX.1 h2
 obtain ⟨h5,h6⟩:=bX.1 h4
 exact ⟨_,by simp only [mW,th,hy,hz,hl,hc,his,h1,h3,h5],h6⟩
theorem PW {el sz n':Nat} {get':Nat->Nat->I} {bytes b:Nat} {rs:List ag} {c:C} {k:cm->Prop} (h:Nk el sz n' get' bytes b rs c k):∃ e,qV el sz n' get' bytes b rs c=some e/\k e:=by
 unfold Nk at h
 split at h
 .obtain ⟨h1,h2⟩:=bX.1 h
  exact ⟨_,by simp only [qV,h1],h2⟩
 .split at h
  case h_2=>exact h.elim
  rename_i hr
  obtain ⟨h1,h2⟩:=bX.1 h
  obtain ⟨h3,h4⟩:=bX.1 h2
  obtain ⟨h5,h6⟩:=bX.1 h4
  exact ⟨_,by simp only [qV,hr,h1,h3,h5],h6⟩
 .exact h.elim
theorem MW {sz:Nat} {rs:List ag} {c:C} {k:Nat×(Nat->Nat->I)->Prop} {K:Prop} (h:Oy sz rs c k K):(∃ x,se sz rs c=some x/\k x)∨(se sz rs c=none/\K):=by
 have fin:(match se sz rs c with
  | some x=>k x
  | none=>K)->(∃ x,se sz rs c=some x/\k x)∨(se sz rs c=none/\K):=λq=>by
  split at q
  .rename_i x hx; exact .inl ⟨x,hx,q⟩
  .rename_i hx; exact .inr ⟨hx,q⟩
 unfold Oy at h
 split at h
 .split at h
  .rename_i hr
   obtain ⟨h1,h2⟩:=bX.1 h
   obtain ⟨h3,h4⟩:=bX.1 h2
   exact .inl ⟨_,by simp only [se,hr,h1,h3],h4⟩
  .exact fin h
 .exact fin h
theorem Sc {el b:Nat} {rs:List ag} {c src:C} {k:cm->Prop} (h:Ng T el b rs c src k):∃ e,oW T el b rs (some c) (some src)=some e/\k e:=by
 unfold Ng at h
 split at h
 .split at h
  .rename_i hr
   split at h
   case h_2=>exact h.elim
   rename_i ty bQ
   unfold V6 at h
   split at h
   case h_2=>exact h.elim
   rename_i hs
   obtain ⟨h1,h2⟩:=bX.1 h
   obtain ⟨h3,h4⟩:=bX.1 h2
   obtain ⟨h5,h6⟩:=bX.1 h4
   obtain ⟨h7,h8⟩:=bX.1 h6
   exact ⟨_,by simp only [oW,bQ,hs,h1,Eb,hr,h3,h5,h7,Bool.and_self],h8⟩
  .exact cx h
 .exact cx h
theorem SI {el b:Nat} {x src:Option C} {k:cm->Prop} (h:Zo T el b s.rs x src k):∃ e,(match pX T el b s.rs x src with
   | some e=>e
   | none=>oW T el b s.rs x src)=some e/\k e:=by
 unfold Zo at h
 split at h
 case h_2=>exact h.elim
 rename_i c src
 split at h
 .rename_i hg
  split at h
  case h_2=>exact h.elim
  rename_i ty bQ
  simp only [pX,hg,bQ]
  unfold Wc at h
  rcases MW h with ⟨x,h1,h2⟩|⟨h1,h2⟩
  .obtain ⟨h3,h4⟩:=bX.1 h2
   obtain ⟨e,h5,h6⟩:=PW h4
   refine ⟨e,?_,h6⟩
   simp only [DA,h1,h3]
   exact h5
  .obtain ⟨e,h3,h4⟩:=cx h2
   exact ⟨e,by simp only [DA,h1,h3],h4⟩
 .rename_i hg
  simp only [pX,hg]
  exact Sc h
theorem Ux {b:Nat} {ts:List TypeId} {xs:List Operand} {k:cm->Prop} (h:YP T b s ts xs k):∃ e,oR T b s ts xs=some e/\k e:=by
 unfold YP at h
 split at h
 case h_2=>exact h.elim
 obtain ⟨h1,h2⟩:=bX.1 h
 split at h2
 case h_2=>exact h2.elim
 rename_i hy
 obtain ⟨e,h3,h4⟩:=SI h2
 refine ⟨e,?_,h4⟩
 simp only [oR,h1,hy]
 exact h3
theorem CF {dst:Option Tmp} {t:Nat} {x v:Operand} {d:D} {aJ:List ag} (h:gU T s dst t x v=some (.all d aJ)):False:=by
 unfold gU at h
 split at h
 .simp at h
 split at h
 case h_2=>simp at h
 split at h
 case h_2=>simp at h
 replace h:=(Bool.au h).2
 split at h
 case h_2=>simp at h
 unfold mo at h
 split at h
 .split at h
  .split at h<;>simp at h
  .simp at h
 .split at h<;>simp at h
 .split at h
  .replace h:=(Bool.au h).2
   replace h:=(Bool.au h).2
   simp at h
  .obtain ⟨m,hm⟩:=kV h; cases hm
 .obtain ⟨x,hx⟩:=su h
  cases hx
 .simp at h
theorem HU {b:Nat} {ts:List TypeId} {xs:List Operand} {d:D} {aJ:List ag} (h:oR T b s ts xs=some (.all d aJ)):False:=by
 unfold oR at h
 split at h
 case h_2=>simp at h
 replace h:=(Bool.au h).2
 split at h
 case h_2=>simp at h
 split at h
 .rename_i e' he'
  subst h
  unfold pX at he'
  split at he'
  case h_2=>simp at he'
  split at he'
  case h_2=>simp at he'
  split at he'
  case h_2=>simp at he'
  simp only [ak] at he'
  unfold DA at he'
  split at he'
  .replace he':=(Bool.au he').2
   unfold qV at he'
   split at he'
   .replace he':=(Bool.au he').2; simp at he'
   .split at he'
    .replace he':=(Bool.au he').2
     replace he':=(Bool.au he').2
     replace he':=(Bool.au he').2
     simp at he'
    .simp at he'
   .simp at he'
  .obtain ⟨m,hm⟩:=kV he'; cases hm
 .have fin:∀ {el sz k:Nat} {l':List C} {zS:Nat} {c:C},Eb el sz k l' zS b s.rs c≠some (.all d aJ):=by
   intro el sz k l' zS c q
   unfold Eb at q
   split at q
   .split at q
    .simp at q
    .replace q:=(Bool.au q).2; simp at q
   .split at q
    .replace q:=(Bool.au q).2
     replace q:=(Bool.au q).2
     simp at q
    .split at q
     .replace q:=(Bool.au q).2
      replace q:=(Bool.au q).2
      simp at q
     .simp at q
    .simp at q
   .simp at q
  unfold oW at h
  split at h
  case h_2=>simp at h
  split at h
  case h_2=>simp at h
  split at h
  case h_2=>simp at h
  split at h
  case h_2=>simp at h
  split at h
  .exact fin (Bool.au h).2
  .exact fin (Bool.au h).2
theorem I6 {lo:Lo} {b:Nat} {dst:Option Tmp} {op:Op} {d:D} {aJ:List ag} (h1:∀ c,op ≠ .call c) (h2:∀ t x v,op ≠ .store t x v) (h3:∀ t l c,op ≠ .makeSlice t l c) (h:fO T lo hi b s dst op=some (.all d aJ)):False:=by
 unfold fO at h
 split at h
 .simp at h
 .cases op with
  | call c=>exact h1 c rfl
  | store t x v=>exact h2 t x v rfl
  | makeSlice t l c=>exact h3 t l c rfl
  | box t x=>
    have h:vI b s x=_:=h
    unfold vI at h
    split at h<;>(try split at h)<;>simp at h
  | alloc t=>
    have h:lu T b t=_:=h
    unfold lu at h
    split at h<;>(try split at h)<;>simp at h
  | makeMap t r=>
    have h:ld T b t r=_:=h
    unfold ld at h
    split at h<;>simp at h
  | buildSlice t n ps=>
    have h:MN T b s (rU hi dst) t n ps.toList=_:=h
    unfold MN at h
    split at h
    case h_2=>simp at h
    split at h
    case h_2=>simp at h
    split at h
    case h_2=>simp at h
    split at h
    case h_2=>simp at h
    replace h:=(Bool.au h).2
    rcases jO (rU hi dst) b _ _ n _ with hc|⟨_,_,hc⟩|⟨_,hc⟩<;>rw [hc] at h<;>simp at h
  | mapUpdate t m k v=>
    have h:mB T s dst t m k v=_:=h
    unfold mB at h
    split at h
    .simp at h
    .replace h:=(Bool.au h).2
     split at h
     case h_2=>simp at h
     split at h<;>simp at h
  | _=>simp [gM] at h
def Good (X:fN) (rs:List ag) (e:cm):Prop:=∀ d aJ,e=.all d aJ->Grown X.S rs aJ
theorem ob {f:FuncId} {ds:List D} {rs:List ag} (h:bP T P f ds rs (X.F f ds rs).1 (mg rs (X.F f ds rs))):(ct T P X).call f ds rs=(kr X).call f ds rs:=by
 simp [ct,kr,h]
theorem Lz {r:Nat} {ds:List D} {rs:List ag} (h:mO T P r ds rs (X.FY r ds rs).1 (mg rs (X.FY r ds rs))):(ct T P X).NW r ds rs=(kr X).NW r ds rs:=by
 simp [ct,kr,h]
theorem Sf {rs:List ag} {g:FuncId} {ds is:List D} (hr:dn rs ds=some is) (hk:bP T P g is [] (X.F g is []).1 (mg [] (X.F g is []))):zO (ct T P X) rs g ds=zO (kr X) rs g ds:=by
 simp only [zO,hr,ob hk]
theorem Sk {rs:List ag} {g:FuncId} {ds is:List D} {b:Nat} (hr:dn rs ds=some is) (hk:bP T P g is [] (X.F g is []).1 (mg [] (X.F g is []))):yC (ct T P X) rs g ds b=yC (kr X) rs g ds b:=by
 simp only [yC,hr,ob hk]
theorem qZ {rs:List ag} {ds:List D} {e e':cm} (h:jk rs ds e=some e') (he:∀ d aJ,e ≠ .all d aJ):Good X rs e':=by
 intro d aJ q
 subst q
 rcases eU h with ⟨l,hl⟩|⟨hl,_⟩
 .cases hl
 .exact (he _ _ hl.symm).elim
theorem Gt {lo:Lo} {rs:List ag} {g:FuncId} {ds:List D} {e:cm} (h:gR lo rs g ds=some e):Good X rs e:=by
 unfold gR at h
 split at h
 case h_2=>simp at h
 rename_i d hd
 cases hp:ir d with
 | true=>rw [hp] at h; simp only [ak] at h; subst h; intro _ _ q; cases q
 | false=>
   rw [hp] at h
   obtain ⟨_,h⟩:=Bool.au (show (Bool.rec none (jk rs ds (.val d)) (ki d):Option cm)=some e from h)
   exact qZ h λ_ _ q=>by cases q
theorem Gm {lo:Lo} {rs:List ag} {g:FuncId} {ds:List D} {b:Nat} {e:cm} (h:gf lo rs g ds b=some e):Good X rs e:=by
 unfold gf at h
 split at h
 .simp only [ak] at h; subst h; intro _ _ q; cases q
 .revert h
  generalize fe _=p
  intro h
  cases p with
  | true=>simp only [ak] at h; subst h; intro _ _ q; cases q
  | false=>exact qZ h λ_ _ q=>by cases q
 .exact qZ h λ_ _ q=>by cases q
 .simp at h
theorem AW {rs:List ag} {g:FuncId} {ds:List D} {k:cm->Prop} (h:CD T P X rs g ds k):∃ e,gR (ct T P X) rs g ds=some e/\Good X rs e/\k e:=by
 unfold CD at h
 split at h
 case h_2=>exact h.elim
 rename_i is hr
 obtain ⟨hk,h⟩:=h
 obtain ⟨e,h1,h2⟩:=cx h
 refine ⟨e,?_,Gt h1,h2⟩
 rw [<- h1]
 simp only [gR,Sf hr hk]
theorem GK {rs:List ag} {g:FuncId} {ds:List D} {k:cm->Prop} (h:QN T P X rs g ds k):∃ e,tO (ct T P X) rs g ds=some e/\Good X rs e/\k e:=by
 obtain ⟨hk,h⟩:=h
 obtain ⟨h1,h2⟩:=bX.1 h
 refine ⟨_,by simp only [tO,ob hk,kr],?_,h2⟩
 intro d aJ q
 simp only [cm.all.injEq] at q
 exact ⟨_,_,h1,q.2.symm⟩
theorem UO {rs:List ag} {r:Nat} {ds:List D} {k:cm->Prop} (h:af6 T P X rs r ds k):∃ e,D6 (ct T P X) rs r ds=some e/\Good X rs e/\k e:=by
 obtain ⟨hk,h⟩:=h
 obtain ⟨h1,h2⟩:=bX.1 h
 refine ⟨_,by simp only [D6,Lz hk,kr],?_,h2⟩
 intro d aJ q
 simp only [cm.all.injEq] at q
 exact ⟨_,_,h1,q.2.symm⟩
theorem LK {lo:Lo} {rs:List ag} {f:FuncId} {ds:List D} {b:Nat} {e:cm} (h:Hj lo rs f ds b=some (true,e)):gf lo rs f ds b=some e:=by
 have tt:∀ {x:Option cm},BC x=some (true,e)->x=some e:=λ{x} q=>by
  cases x with
  | none=>cases q
  | some y=>simp only [BC,ak,bw,true_and] at q; rw [q]
 unfold Hj at h
 split at h
 case h_2=>cases h
 rename_i is hi
 split at h
 case h_2=>exact tt h
 rename_i q m aJ hc
 split at h
 case h_2=>exact tt h
 rename_i el sz n get hq
 split at h
 case h_2=>cases h
 rename_i e' he
 simp only [ak,bw] at h
 obtain ⟨h1,rfl⟩:=h
 simp only [gf,yC,hi,hc,hq,h1]
 exact he
theorem Le {rs:List ag} {b:Nat} {g:FuncId} {ds:List D} {k:cm->Prop} (h:II T P X hi rs b g ds k):∃ e,oQ (ct T P X) hi rs b g ds=some e/\Good X rs e/\k e:=by
 unfold II at h
 unfold oQ
 split at h
 .rename_i hm
  simp only [hm]
  exact AW h
 .rename_i hm
  simp only [hm]
  exact GK h
 .rename_i hm
  simp only [hm]
  split at h
  case h_2=>exact h.elim
  rename_i is hr
  obtain ⟨hk,h⟩:=h
  obtain ⟨⟨c,e⟩,h1,h2⟩:=cx h
  obtain ⟨h3,h4⟩:=bX.1 h2
  have h3:c=true:=h3
  subst h3
  have h1:=LK h1
  exact ⟨e,by rw [<- h1]; simp only [gf,Sk hr hk],Gm h1,h4⟩
 .rename_i hm
  simp only [hm]
  unfold aj7 at h
  split at h
  case h_2=>exact h.elim
  rename_i x hx
  obtain ⟨h2,h3⟩:=h
  obtain ⟨h4,h5⟩:=bX.1 h3
  refine ⟨.wr (some x.1) [(x.2.1,x.2.2)],?_,(by intro d aJ q; cases q),h5⟩
  unfold SC ct
  simp only [hx,if_pos h2,h4]
 .rename_i hm
  simp only [hm]
  split at h
  case h_2=>exact h.elim
  rename_i is hr
  obtain ⟨hk,h⟩:=h
  obtain ⟨e,h1,h2⟩:=cx h
  refine ⟨e,by rw [<- h1]; simp only [zT,hr,ob hk],?_,h2⟩
  obtain ⟨is',cs,oH,L,_,_,_,_,rfl⟩:=kN h1
  intro d aJ q; cases q
 .rename_i h0 h1 h2 h4 h5
  split
  .exact absurd (by assumption) h0
  .exact absurd (by assumption) h1
  .exact absurd (by assumption) h2
  .exact absurd (by assumption) h4
  .exact absurd (by assumption) h5
  .cases hp:fk ds with
   | true=>
     rw [hp] at h
     exact AW h
   | false=>
     rw [hp] at h
     exact GK h
theorem L2 {b:Nat} {f:Operand} {xs:List Operand} {k:cm->Prop} (h:IU T P X hi b s f xs k):∃ e,ml (ct T P X) hi b s f xs=some e/\Good X s.rs e/\k e:=by
 unfold IU at h
 unfold ml
 split at h
 case h_2=>exact h.elim
 rename_i c ds hc hd
 simp only [hc,hd]
 split at h
 .exact UO h
 .rename_i hy
  split at h
  case h_2=>exact h.elim
  rename_i g eA hg
  obtain ⟨e,h1,h2⟩:=Le h
  refine ⟨e,?_,h2⟩
  cases c<;>first|(simp only [hg]; exact h1)|exact absurd rfl (hy _)
theorem NB {b:Nat} {c:Call} {dst:Option Tmp} {k:cm->Prop} (h:NG T P X hi b s c k):∃ e,fO T (ct T P X) hi b s dst (.call c)=some e/\Good X s.rs e/\k e:=by
 unfold NG at h
 unfold fO
 split at h
 .rename_i d hd
  have hl:fh T s (.call c)=some d:=hd
  rw [hl]
  exact ⟨_,rfl,(λ_ _ q=>by cases q),h⟩
 .rename_i hd
  have hl:fh T s (.call c)=none:=hd
  rw [hl]
  show ∃ e,gG T (ct T P X) hi b s c=some e/\Good X s.rs e/\k e
  unfold gG
  split at h
  .rename_i hc
   simp only [hc]
   obtain ⟨e,h1,h2⟩:=Ux h
   refine ⟨e,h1,λd aJ q=>?_,h2⟩
   subst q
   have h3:fO T (ct T P X) hi b s dst (.call c)=some (.all d aJ):=by
    unfold fO; rw [hl]; show gG T (ct T P X) hi b s c=_; unfold gG; simp only [hc]; exact h1
   exact (HU h1).elim
  .rename_i hc
   simp only [hc]
   exact L2 h
  .exact h.elim
theorem Dw {b:Nat} {dst:Option Tmp} {op:Op} {k:cm->Prop} (h:RG T P X hi b s dst op k):∃ e,fO T (ct T P X) hi b s dst op=some e/\Good X s.rs e/\k e:=by
 have gv:∀ d:D,Good X s.rs (.val d):=λd _ _ q=>by cases q
 unfold RG at h
 split at h
 .rename_i t x i
  obtain ⟨d,h1,h2⟩:=LJ h
  have hl:fh T s (.indexAddr t x i)=some d:=h1
  exact ⟨_,by unfold fO; rw [hl],gv _,h2⟩
 .rename_i c x y
  obtain ⟨d,h1,h2⟩:=Np h
  have hl:fh T s (.pick c x y)=some d:=h1
  exact ⟨_,by unfold fO; rw [hl],gv _,h2⟩
 .rename_i t x lo h0 mx
  obtain ⟨d,h1,h2⟩:=L4 h
  have hl:fh T s (.slice t x lo h0 mx)=some d:=h1
  exact ⟨_,by unfold fO; rw [hl],gv _,h2⟩
 .rename_i t x
  obtain ⟨d,h1,h2⟩:=Q5 h
  have hl:fh T s (.load t x)=some d:=h1
  exact ⟨_,by unfold fO; rw [hl],gv _,h2⟩
 .rename_i o t x y t2
  obtain ⟨d,h1,h2⟩:=VA h
  have hl:fh T s (.binOp o t x y t2)=some d:=h1
  exact ⟨_,by unfold fO; rw [hl],gv _,h2⟩
 .rename_i t x v
  obtain ⟨e,h1,h2⟩:=K8 (lo:=ct T P X) (hi:=hi) (b:=b) h
  exact ⟨e,h1,λd aJ q=>(CF (q▸h1)).elim,h2⟩
 .rename_i t l c
  obtain ⟨e,h1,h2⟩:=PF h
  refine ⟨e,h1,λd aJ q=>?_,h2⟩
  subst q
  unfold mW at h1
  repeat (first|(split at h1)|(replace h1:=(Bool.au h1).2))
  all_goals simp at h1
 .exact NB h
 .rename_i op0 n1 n2 n3 n4 n5 n6 n7 n8
  obtain ⟨e,h1,h2⟩:=cx h
  have hw:gM T (ct T P X) hi b s dst op=gM T (kr X) hi b s dst op:=by
   cases op<;>first|(simp only [gM]; done)|exact (n8 _ rfl).elim
  refine ⟨e,?_,λd aJ q=>?_,h2⟩
  .rw [<- h1]
   unfold fO
   rw [hw]
  .subst q
   exact (I6 (λc q=>n8 c q) (λt x v q=>n6 t x v q) (λt l c q=>n7 t l c q) h1).elim
theorem wW {t:Tmp} {b:Bool}:∀ {sl:aK},eJ sl t=some (bool b)->Rt t b sl=sl
 | [],h=>by simp [eJ] at h
 | x::l,h=>by
   have h:(Bool.rec (eJ l t) (some x.2.1) (Nat.beq x.1 t):Option D)=some (bool b):=h
   show (Bool.rec (x::Rt t b l) ((x.1,bool b,x.2.2)::l) (Nat.beq x.1 t):aK)=x::l
   cases hb:Nat.beq x.1 t with
   | true=>
     rw [hb] at h
     simp only [ak] at h
     rw [<- h]
   | false=>
     rw [hb] at h
     simp only
     rw [wW h]
theorem jC {t:Tmp} {b:Bool} {s:VS} (h:eJ s.sl t=some (bool b)):vC t b s=s:=by
 unfold vC
 rw [wW h]
theorem Qx {s:VS} {c:Operand} {p:Bool} {A B:VS->Prop} (hp:jn (cl s.sl c)=some p) (h:JN s c p A B):(p=true/\A s)∨(p=false/\B s):=by
 unfold JN at h
 split at h
 .rcases zd h with ⟨rfl,h⟩|⟨rfl,h⟩
  .rw [jC (eW hp)] at h; exact .inl ⟨rfl,h⟩
  .rw [jC (eW hp)] at h; exact .inr ⟨rfl,h⟩
 .exact zd h
theorem FH {ops:List Oper} {s:VS} {g:Option (Nat×Bool)} {A B:VS->Prop} (h:Jt ops s g A B):(mY ops s.sl g=some true/\A s)∨(mY ops s.sl g=some false/\B s):=by
 unfold Jt at h
 unfold mY
 split at h
 .exact .inl ⟨rfl,h⟩
 .rename_i j want
  split at h
  case h_2=>exact h.elim
  rename_i p hp
  split at h
  case h_2=>exact h.elim
  rename_i t ht
  simp only [hp,ht]
  split at h
  .rename_i hl
   exact .inr ⟨by rw [hl]; rfl,h⟩
  .rename_i d hl
   split at h
   case h_2=>exact h.elim
   rename_i x hx
   have hw:Jw (eJ s.sl t) want=some (MG x want):=by
    unfold Jw
    split
    .exact absurd (by assumption) hl
    .rw [hx]
   rw [hw]
   have hlk:=eW hx
   cases want with
   | true=>
     rcases zd (b:=x) h with ⟨rfl,h⟩|⟨rfl,h⟩
     .exact .inl ⟨rfl,by rw [jC hlk] at h; exact h⟩
     .exact .inr ⟨rfl,by rw [jC hlk] at h; exact h⟩
   | false=>
     rcases zd (b:=x) h with ⟨rfl,h⟩|⟨rfl,h⟩
     .exact .inr ⟨rfl,by rw [jC hlk] at h; exact h⟩
     .exact .inl ⟨rfl,by rw [jC hlk] at h; exact h⟩
theorem FP {dst:Option Tmp} {k:VS->Prop} {again:List Nat->Prop} {e:cm} (h:KS N s dst k again e):(∃ l,e=.cD l/\again l)∨((∀ l,e ≠ .cD l)/\∃ s',qb N s dst e=some s'/\k s'):=by
 unfold KS at h
 split at h
 .exact .inl ⟨_,rfl,h⟩
 .rename_i hn
  exact .inr ⟨hn,cx h⟩
theorem Sa {dst:Option Tmp} {op:Op} {k:VS->Prop} (h:PT T P X hi N s dst op k):∃ s',Ev T (ct T P X) hi N s dst op=some s'/\k s':=by
 unfold PT at h
 obtain ⟨e,h1,_,h2⟩:=Dw h
 unfold Ev
 rw [h1]
 rcases FP h2 with ⟨l,rfl,h2⟩|⟨hn,s',h2,h3⟩
 .obtain ⟨s1,h3,h4⟩:=cx h2
  obtain ⟨e1,h5,_,h6⟩:=Dw h4
  simp only [h3,OA,h5]
  rcases FP h6 with ⟨l,rfl,h7⟩|⟨_,s',h7,h8⟩
  .exact h7.elim
  .exact ⟨s',h7,h8⟩
 .refine ⟨s',?_,h3⟩
  cases e<;>first|exact h2|exact absurd rfl (hn _)
theorem Xv {ops:List Oper} {o:Oper} {k:VS->Prop} (h:opW T P X hi N ops s o k):∃ s',opF T (ct T P X) hi N ops s o=some s'/\k s':=by
 unfold opW at h
 unfold opF
 rcases FH h with ⟨h1,h2⟩|⟨h1,h2⟩
 .rw [h1]; exact Sa h2
 .rw [h1]; exact cx h2
theorem JD {ops:List Oper}:∀ (l:List Oper) {s:VS} {k:VS->Prop},YG T P X hi N ops l s k->∃ s',Mz T (ct T P X) hi N ops l s=some s'/\k s'
 | [],s,k,h=>⟨s,rfl,h⟩
 | o::l,s,k,h=>by
   have h:opW T P X hi N ops s o (λs'=>YG T P X hi N ops l s' k):=h
   obtain ⟨s1,h1,h2⟩:=Xv h
   obtain ⟨s2,h3,h4⟩:=JD l h2
   refine ⟨s2,?_,h4⟩
   show (match opF T (ct T P X) hi N ops s o with
    | some s'=>Mz T (ct T P X) hi N ops l s'
    | none=>none)=some s2
   rw [h1]
   exact h3
theorem Gs {cr:List Nat} {i b:Nat} {ops:List Oper} {o:Oper} {k:VS->Pr->Prop} (h:evalW T P X hi cr i b ops s o k):∃ u,kP T (ct T P X) hi cr i b ops s o=some u/\k s u:=by
 unfold evalW at h
 unfold kP
 rcases FH h with ⟨h1,h2⟩|⟨h1,h2⟩
 .rw [h1]
  obtain ⟨e,h3,h4,h5⟩:=Dw h2
  simp only [h3]
  unfold ac5 at h5
  obtain ⟨u,h6,h7⟩:=cx h5
  cases e with
  | val d=>
    simp only [rX,ak] at h6 ⊢
    subst h6
    exact ⟨_,rfl,h7⟩
  | wr d ws=>
    simp only [rX,ak] at h6 ⊢
    subst h6
    exact ⟨_,rfl,h7⟩
  | cD l=>
    simp only [rX,ak] at h6 ⊢
    subst h6
    exact ⟨_,rfl,h7⟩
  | all d aJ=>
    simp only [rX] at h6 ⊢
    cases hb:Gd cr i with
    | true=>
      rw [hb] at h6
      simp only [ak] at h6 ⊢
      subst h6
      exact ⟨_,rfl,h7⟩
    | false=>
      rw [hb] at h6
      have h6:Ml (kr X) o.dst d s.rs aJ=some u:=h6
      show ∃ u,Ml (ct T P X) o.dst d s.rs aJ=some u/\k s u
      unfold Ml at h6 ⊢
      simp only [kr] at h6
      obtain ⟨h8,h9⟩:=Bool.au h6
      simp only [ak] at h9
      subst h9
      obtain ⟨qj,Cn⟩:=bX.1 h7
      have hd:(ct T P X).diff s.rs aJ=some (ko X.S aJ):=by
       simp only [ct]
       rw [if_pos ⟨h4 d aJ rfl,qj⟩]
      simp only [hd,h8]
      exact ⟨_,rfl,Cn⟩
 .rw [h1]; exact ⟨_,rfl,h2⟩
theorem AX {cr:List Nat} {ops:List Oper}:∀ (l:List Oper) {k b:Nat} {W:List (Nat×List Nat)} {s:VS} {q:Dc->Prop},DM T P X hi N cr ops l k b W s q->∃ r,mn T (ct T P X) hi N cr ops l k b W s=some r/\q r
 | [],k,b,W,s,q,h=>⟨_,rfl,h⟩
 | o::l,k,b,W,s,q,h=>by
   have h:evalW T P X hi cr k b ops s o (λs u=>match u with
    | .ok u=>nd (Ec N u.dst u.val) (DM T P X hi N cr ops l (k+1) (b+eu o.op) (ES k u W) (u.on s) q)
    | .cD c=>q (.cD c)):=h
   obtain ⟨u,h1,h2⟩:=Gs h
   have hf:mn T (ct T P X) hi N cr ops (o::l) k b W s=(match kP T (ct T P X) hi cr k b ops s o with
    | some (.ok u)=>Bool.rec none (mn T (ct T P X) hi N cr ops l (k+1) (b+eu o.op) (ES k u W) (u.on s)) (Ec N u.dst u.val)
    | some (.cD c)=>some (.cD c)
    | none=>none):=rfl
   rw [hf,h1]
   cases u with
   | cD c=>exact ⟨_,rfl,h2⟩
   | ok u=>
     obtain ⟨h3,h4⟩:=bX.1 h2
     obtain ⟨r,h5,h6⟩:=AX l h4
     refine ⟨r,?_,h6⟩
     simp only [h3]
     exact h5
theorem yx {ops:List Oper} {cr:List Nat} {W:List (Nat×List Nat)}:∀ (l:List Oper) {ms:List Nat} {i b:Nat} {s:VS} {q:VS->Prop},Cp T P X hi N ops cr W l ms i b s q->∃ r,kB T (ct T P X) hi N ops cr W l ms i b s=some r/\q r
 | [],ms,i,b,s,q,h=>⟨_,rfl,h⟩
 | o::l,ms,i,b,s,q,h=>by
   cases ms with
   | nil=>exact (show False from h).elim
   | cons m ms=>
     have h:evalW T P X hi cr i b ops (UP (eC cr i m W) s) o (λs1 u=>match u with
      | .ok u=>nd (Ec N u.dst u.val&&(Cd (u.ws.map (·.1)) (nn i W)&&(nF (u.ws.map (·.1)) (eC cr i m W)&&Sz u.ex (eC cr i m W)))) (Cp T P X hi N ops cr W l ms (i+1) (b+eu o.op) (u.on { s with sl:=s1.sl }) q)
      | .cD _=>False):=h
     obtain ⟨u,h1,h2⟩:=Gs h
     have KR:(UP (eC cr i m W) s).sl=s.sl:=by cases eC cr i m W<;>rfl
     simp only [KR] at h2
     have hf:kB T (ct T P X) hi N ops cr W (o::l) (m::ms) i b s=(match kP T (ct T P X) hi cr i b ops (UP (eC cr i m W) s) o with
      | some (.ok u)=>Bool.rec none (kB T (ct T P X) hi N ops cr W l ms (i+1) (b+eu o.op) (u.on s)) (Ec N u.dst u.val&&(Cd (u.ws.map (·.1)) (nn i W)&&(nF (u.ws.map (·.1)) (eC cr i m W)&&Sz u.ex (eC cr i m W))))
      | _=>none):=rfl
     rw [hf,h1]
     cases u with
     | cD c=>exact h2.elim
     | ok u=>
       obtain ⟨h3,h4⟩:=bX.1 h2
       obtain ⟨r,h5,h6⟩:=yx l h4
       refine ⟨r,?_,h6⟩
       simp only [h3]
       exact h5
theorem AL {ops:List Oper}:∀ (n:Nat) {s:VS} {k:VS->Prop},HT T P X hi N ops n s k->∃ s',yP T (ct T P X) hi N ops n s=some s'/\k s'
 | 0,s,k,h=>(show False from h).elim
 | n+1,s,k,h=>by
   have h:DM T P X hi N (jm ops []) ops ops 0 s.rs.length [] (fP ops s) (λr=>match r with
    | .cD l=>gB (gK l s) λs'=>HT T P X hi N ops n s' k
    | .ok W s'=>CK T P X hi N ops (fP ops s) s' s.rs.length W k):=h
   obtain ⟨r,h1,h2⟩:=AX _ h
   have hf:yP T (ct T P X) hi N ops (n+1) s=(match mn T (ct T P X) hi N (jm ops []) ops ops 0 s.rs.length [] (fP ops s) with
    | some (.cD l)=>match gK l s with
      | some s'=>yP T (ct T P X) hi N ops n s'
      | none=>none
    | some (.ok W s')=>Am T (ct T P X) hi N ops (fP ops s) s' s.rs.length W
    | none=>none):=rfl
   rw [hf,h1]
   cases r with
   | cD l=>
     obtain ⟨s1,h3,h4⟩:=cx h2
     simp only [h3]
     exact AL n h4
   | ok W s' =>
     have h2:CK T P X hi N ops (fP ops s) s' s.rs.length W k:=h2
     show ∃ s2,Am T (ct T P X) hi N ops (fP ops s) s' s.rs.length W=some s2/\k s2
     unfold CK at h2
     unfold Am
     split at h2
     .exact ⟨_,rfl,h2⟩
     .rename_i hW
      split
      .exact absurd rfl hW
      .exact yx _ h2
theorem HQ {f:FuncId} {ro:Option Nat} {id:Nat} {ops:List Oper} {draw:Bool} {k:VS->Prop} (h:wa T P X hi N f ro id ops draw s k):∃ s',regionF T (ct T P X) hi N f ro id ops draw s=some s'/\k s':=by
 unfold wa at h
 cases draw with
 | false=>
   obtain ⟨s1,h1,h2⟩:=JD _ h
   refine ⟨_,?_,h2⟩
   show (match Mz T (ct T P X) hi N ops ops s with
    | some s'=>some (tj hi f id s')
    | none=>none)=_
   rw [h1]
 | true=>
   simp only at h
   cases ro with
   | some r=>exact (show False from h).elim
   | none=>
   simp only at h
   split at h
   case h_2=>exact h.elim
   rename_i l8
   obtain ⟨s1,h1,h2⟩:=AL _ h
   refine ⟨_,?_,h2⟩
   show (match si ops with
    | true=>match yP T (ct T P X) hi N ops 8 s with
      | some s'=>some (tj hi f id s')
      | none=>none
    | false=>none)=_
   rw [l8,h1]
end
end
end Go.V
