/- Loops: what is to be shown. -/
import Derived.Test.YtgbbdaegmfjahaaGreatP7
import Derived.Test.YtgbbdaegmfjahaaGreatP6
set_option linter.unusedVariables false
set_option linter.unusedSimpArgs false
set_option maxRecDepth 1000000
namespace Go.Proofs.YtgbbdaegmfjahaaGreat
open Go Go.V
noncomputable section
section
def XC:eU:={ F:=pY }
end
def sc:Nat->Bool:=λi=>Nat.beq i 1||Nat.beq i 3
theorem aO7:Fn 119:={}
section
variable (L:LP) (aj:Addr) (n:Nat) (QE:D->List ah->Prop) (x:Sq Int) (ax:Nat) (a:Addr) (QD:D->Prop) (cap:Nat) (g:Nat->Nat->Go.V.I)
theorem aQ1 (h:L (af 119 1) ⟨[(0,((j7 x),[]))],[],[]⟩):ep XC 119 sc L QE [fM 1 bn x] []:=km h
def GD (g:Nat->Int)  : VS:=⟨[(0,(.c (.im (.sl 1 n.succ (λi=>bn (g i))))),[])],[],[]⟩
theorem TP (n:Nat) (g:Nat->Int) (h:L (af 119 3) ⟨[(0,((.c (.im (.sl 1 n.succ (λi=>bn (g i))))),[])),mK],[],[]⟩):b5 XC 119 sc L QE 1 (GD n g ):=km h
abbrev wY (aj:Nat):VS:=⟨[(0,(.c (.im (.v (.slice .none 0 aj)))),[])],[],[]⟩
def H5  : VS:=(wY cap)
theorem RC (h:QE (.c (.im (.v (.slice .none 0 0)))) []):b5 XC 119 sc L QE 1 (H5 cap ):=km h
abbrev wy:VS:=⟨[(0,(.c (.im (.v (.slice (.some aj) 0 ax)))),[])],[],[]⟩
def GR  : VS:=(wy a cap)
abbrev wa:VS:=⟨[(0,((.c (.im (.v (.slice (.some aj) 0 ax)))),[])),mK],[],[]⟩
theorem Q8 (h:L (af 119 3) (wa a cap)):b5 XC 119 sc L QE 1 (GR a cap ):=km h
def uG  : VS:=⟨[(0,.c (.im (.sl 1 n g)),[])],[],[]⟩
theorem Uq (n:Nat) (g:Nat->Nat->Go.V.I) (h:nd (cw (0+n) 8) (QE (.c (.sa 1 (0+n))) [.dead,(.arr 3 1 (0+n) (fZ 0 jA g))])):b5 XC 119 sc L QE 3 (uG n g ):=km h
theorem vb {x y:Go.V.I} (h:cD x y):aX (.c (.im x)) (.c (.im y)):=λE av w v q=>h av w v q
theorem ae.yF {f:FuncId} {n0:Nat} {Q:D->List ah->Prop} {todo:List Item} {s:VS} {t:Tmp} {sz:Nat} {get:Nat->Nat->Go.V.I} (ht:eT s.sl t=some (.c (.im (.sl sz 0 get)))) (g:∀ (ad:Option Addr) (cap:Nat),ae f n0 Q todo ⟨(t,.c (.im (.v (.slice ad 0 cap))),[])::s.sl,s.rs,s.df⟩):ae f n0 Q todo s:=
 λb cs hb=>Goal.yF ht λad cap=>g ad cap b cs hb
theorem nX {f:FuncId} (hf:Fn f) {ds:List D} {rs:List ah} {d:D} {aV:List ah} (hl:ds.length<=(yK f).ntmps) (h:ae f rs.length (Go.V.oy rs d aV) [.code (pM f)] ⟨dF 0 ds,rs,[]⟩):LC f ds rs d aV:=by
 obtain ⟨h1,h2⟩:=CF f _ hf.nF
 exact VA si h1 h2 hf.body hl h
theorem ME (g:Nat->Int) (hx:n<=1000):ae 119 0 (oy [] (.c (.sa 0 (n))) [.arr 3 1 (n) (λi=>bn (g i))]) (af 119 3) (uG n λi=>bn (g i)):=by
 refine aG (X:=XC) (stop:=sc) (Uq _ _ n _ ?_)
 refine ai (bO (by omega) (by omega)) ?_
 refine .inl ?_
 rw [Nat.zero_add]
 exact ⟨[1],.c (.sa 0 n),_,_,rfl,(.cons (aY.arr λi _ j _=>cD.refl _) .nil),⟨1,aQ rfl,aQ rfl,rfl,rfl,aX.refl _,⟨rfl,trivial⟩⟩⟩
theorem aa7 (g:Nat->Int) (hx:n<=1000):ae 119 0 (oy [] (.c (.sa 0 (n))) [.arr 3 1 (n) (λi=>bn (g i))]) (af 119 1) ⟨[(0,fM 1 bn ⟨n,g⟩,[])],[],[]⟩:=by
 cases n with
 | zero=>
   refine ae.yF (t:=0) rfl λad cap=>?_
   cases ad with
   | none=>
     refine ae.lr (H5 cap) ((aG (X:=XC) (stop:=sc) (RC _ _ cap ?_)))
     exact .inr ⟨rfl,rfl,rfl,_,_,_,rfl⟩
   | some a=>
     refine ae.lr (GR a cap) (aG (X:=XC) (stop:=sc) (Q8 _ _ a cap ?_))
     exact ae.le (uG 0 λi=>bn (g i)) ⟨⟨rfl,_,rfl,vb ia⟩,trivial⟩ .nil rfl (ME 0 g (by omega))
 | succ n=>
   refine ae.lr (GD n g) (aG (X:=XC) (stop:=sc) (TP _ _ n g ?_))
   exact ae.lr (uG (n+1) λi=>bn (g i)) (ME (n+1) g hx)
theorem zG (hx:x.n<=1000):LC 119 [fM 1 bn x] [] (.c (.sa 0 x.n)) [.arr 3 1 x.n (λi=>bn (x.get i))]:=
 nX aO7 (aQ (by kernel_rfl)) (cY (X:=XC) (stop:=sc) (aQ1 _ _ x (aa7 x.n x.get hx)))
def sr:Nat->Bool:=λi=>Nat.beq i 1||Nat.beq i 3
theorem bh9:Fn 120:={}
theorem bj2 (x:Sq ByteArray) (h:L (af 120 1) ⟨[(j9 x)],[],[]⟩):ep XC 120 sr L (bf QD) [fM 1 cA x] []:=km h
def G3 (g:Nat->ByteArray)  : VS:=⟨[(0,(.c (.im (.sl 1 n.succ (λi=>cA (g i))))),[])],[],[]⟩
theorem Sj (n:Nat) (g:Nat->ByteArray) (h:L (af 120 3) ⟨[(0,((.c (.im (.sl 1 n.succ (λi=>cA (g i))))),[])),mK],[],[]⟩):b5 XC 120 sr L (bf QD) 1 (G3 n g ):=km h
def HN  : VS:=(wY cap)
theorem RK (h:QD (.c bS)):b5 XC 120 sr L (bf QD) 1 (HN cap ):=km h
def H7  : VS:=(wy a cap)
theorem Wo (a:Addr) (cap:Nat) (h:L (af 120 3) (wa a cap)):b5 XC 120 sr L (bf QD) 1 (H7 a cap ):=km h
def tV  : VS:=⟨[(0,.c (.im (.sl 1 n g)),[])],[],[]⟩
theorem Tl (n:Nat) (g:Nat->Nat->Go.V.I) (h:nd (cw (0+n) 16) (QD (.c (.im (.sl 1 (0+n) (fZ 0 jA g)))))):b5 XC 120 sr L (bf QD) 3 (tV n g ):=km h
theorem MP (g:Nat->ByteArray) (hx:n<=1000):ae 120 0 (a7 (fM 1 cA ⟨n,g⟩)) (af 120 3) (tV n λi=>cA (g i)):=by
 refine aK (X:=XC) (stop:=sr) (Tl _ _ n _ ?_)
 refine ai (bO (by omega) (by omega)) ?_
 rw [Nat.zero_add]
 exact vb (cD.sl λi _ j _=>cD.refl _)
theorem XJ (g:Nat->ByteArray) (hx:n<=1000):ae 120 0 (a7 (fM 1 cA ⟨n,g⟩)) (af 120 1) ⟨[(0,fM 1 cA ⟨n,g⟩,[])],[],[]⟩:=by
 cases n with
 | zero=>
   refine ae.yF (t:=0) rfl λad cap=>?_
   cases ad with
   | none=>
     refine ae.lr (HN cap) ((aK (X:=XC) (stop:=sr) (RK _ _ cap ?_)))
     exact λE av w v q=>dI.nil 1 _ E av w v q
   | some a=>
     refine ae.lr (H7 a cap) (aK (X:=XC) (stop:=sr) (Wo _ _ a cap ?_))
     exact ae.le (tV 0 λi=>cA (g i)) ⟨⟨rfl,_,rfl,vb ia⟩,trivial⟩ .nil rfl (MP 0 g (by omega))
 | succ n=>
   refine ae.lr (G3 n g) (aK (X:=XC) (stop:=sr) (Sj _ _ n g ?_))
   exact ae.lr (tV (n+1) λi=>cA (g i)) (MP (n+1) g hx)
theorem Fp (x:Sq ByteArray) (hx:x.n<=1000):LC 120 [fM 1 cA x] [] (fM 1 cA x) []:=
 pv (X:=XC) (stop:=sr) bh9 (bj2 _ _ x (XJ x.n x.get hx))
def sE:Nat->Bool:=λi=>Nat.beq i 1||Nat.beq i 3
theorem aV0:Fn 117:={}
theorem aY2 (x:Sq au) (h:L (af 117 1) ⟨[(0,((Ex x),[]))],[],[]⟩):ep XC 117 sE L QE [fM 14 gw x] []:=km h
def Ij (g:Nat->au)  : VS:=⟨[(0,(.c (.im (.sl 14 n.succ (λi=>gw (g i))))),[])],[],[]⟩
theorem U9 (n:Nat) (g:Nat->au) (h:L (af 117 3) ⟨[(0,((.c (.im (.sl 14 n.succ (λi=>gw (g i))))),[])),mK],[],[]⟩):b5 XC 117 sE L QE 1 (Ij n g ):=km h
def I1  : VS:=(wY cap)
theorem UH (h:QE (.c (.im (.v (.slice .none 0 0)))) []):b5 XC 117 sE L QE 1 (I1 cap ):=km h
def GG  : VS:=(wy a cap)
theorem Uc (h:L (af 117 3) (wa a cap)):b5 XC 117 sE L QE 1 (GG a cap ):=km h
def vg  : VS:=⟨[(0,.c (.im (.sl 14 n g)),[])],[],[]⟩
theorem Sa (n:Nat) (g:Nat->Nat->Go.V.I) (h:nd (cw (0+n) 152) (QE (.c (.sa 1 (0+n))) [.dead,(.arr 52 14 (0+n) (fZ 0 jA g))])):b5 XC 117 sE L QE 3 (vg n g ):=km h
theorem Oe (g:Nat->au) (hx:n<=1000):ae 117 0 (oy [] (.c (.sa 0 (n))) [.arr 52 14 (n) (λi=>gw (g i))]) (af 117 3) (vg n λi=>gw (g i)):=by
 refine aG (X:=XC) (stop:=sE) (Sa _ _ n _ ?_)
 refine ai (bO (by omega) (by omega)) ?_
 refine .inl ?_
 rw [Nat.zero_add]
 exact ⟨[1],.c (.sa 0 n),_,_,rfl,(.cons (aY.arr λi _ j _=>cD.refl _) .nil),⟨1,aQ rfl,aQ rfl,rfl,rfl,aX.refl _,⟨rfl,trivial⟩⟩⟩
theorem Xw (g:Nat->au) (hx:n<=1000):ae 117 0 (oy [] (.c (.sa 0 (n))) [.arr 52 14 (n) (λi=>gw (g i))]) (af 117 1) ⟨[(0,fM 14 gw ⟨n,g⟩,[])],[],[]⟩:=by
 cases n with
 | zero=>
   refine ae.yF (t:=0) rfl λad cap=>?_
   cases ad with
   | none=>
     refine ae.lr (I1 cap) ((aG (X:=XC) (stop:=sE) (UH _ _ cap ?_)))
     exact .inr ⟨rfl,rfl,rfl,_,_,_,rfl⟩
   | some a=>
     refine ae.lr (GG a cap) (aG (X:=XC) (stop:=sE) (Uc _ _ a cap ?_))
     exact ae.le (vg 0 λi=>gw (g i)) ⟨⟨rfl,_,rfl,vb ia⟩,trivial⟩ .nil rfl (Oe 0 g (by omega))
 | succ n=>
   refine ae.lr (Ij n g) (aG (X:=XC) (stop:=sE) (U9 _ _ n g ?_))
   exact ae.lr (vg (n+1) λi=>gw (g i)) (Oe (n+1) g hx)
theorem Tv (x:Sq au) (hx:x.n<=1000):LC 117 [fM 14 gw x] [] (.c (.sa 0 x.n)) [.arr 52 14 x.n (λi=>gw (x.get i))]:=
 nX aV0 (aQ (by kernel_rfl)) (cY (X:=XC) (stop:=sE) (aY2 _ _ x (Xw x.n x.get hx)))
def su:Nat->Bool:=λi=>Nat.beq i 1||Nat.beq i 3
theorem bf3:Fn 118:={}
theorem aR4 (x:Sq aq) (h:L (af 118 1) ⟨[(0,((.c (.im (.sl 3 x.1 (λi=>dQ (x.2 i))))),[]))],[],[]⟩):ep XC 118 su L QE [fM 3 dQ x] []:=km h
def Hw (g:Nat->aq)  : VS:=⟨[(0,(.c (.im (.sl 3 n.succ (λi=>dQ (g i))))),[])],[],[]⟩
theorem U1 (n:Nat) (g:Nat->aq) (h:L (af 118 3) ⟨[(0,((.c (.im (.sl 3 n.succ (λi=>dQ (g i))))),[])),mK],[],[]⟩):b5 XC 118 su L QE 1 (Hw n g ):=km h
def GK  : VS:=(wY cap)
theorem Tr (h:QE (.c (.im (.v (.slice .none 0 0)))) []):b5 XC 118 su L QE 1 (GK cap ):=km h
def IY  : VS:=(wy a cap)
theorem V3 (h:L (af 118 3) (wa a cap)):b5 XC 118 su L QE 1 (IY a cap ):=km h
def uZ  : VS:=⟨[(0,.c (.im (.sl 3 n g)),[])],[],[]⟩
theorem Wn (n:Nat) (g:Nat->Nat->Go.V.I) (h:nd (cw (0+n) 56) (QE (.c (.sa 1 (0+n))) [.dead,(.arr 57 3 (0+n) (fZ 0 jA g))])):b5 XC 118 su L QE 3 (uZ n g ):=km h
theorem OB (g:Nat->aq) (hx:n<=1000):ae 118 0 (oy [] (.c (.sa 0 (n))) [.arr 57 3 (n) (λi=>dQ (g i))]) (af 118 3) (uZ n λi=>dQ (g i)):=by
 refine aG (X:=XC) (stop:=su) (Wn _ _ n _ ?_)
 refine ai (bO (by omega) (by omega)) ?_
 refine .inl ?_
 rw [Nat.zero_add]
 exact ⟨[1],.c (.sa 0 n),_,_,rfl,(.cons (aY.arr λi _ j _=>cD.refl _) .nil),⟨1,aQ rfl,aQ rfl,rfl,rfl,aX.refl _,⟨rfl,trivial⟩⟩⟩
theorem aa1 (g:Nat->aq) (hx:n<=1000):ae 118 0 (oy [] (.c (.sa 0 (n))) [.arr 57 3 (n) (λi=>dQ (g i))]) (af 118 1) ⟨[(0,fM 3 dQ ⟨n,g⟩,[])],[],[]⟩:=by
 cases n with
 | zero=>
   refine ae.yF (t:=0) rfl λad cap=>?_
   cases ad with
   | none=>
     refine ae.lr (GK cap) ((aG (X:=XC) (stop:=su) (Tr _ _ cap ?_)))
     exact .inr ⟨rfl,rfl,rfl,_,_,_,rfl⟩
   | some a=>
     refine ae.lr (IY a cap) (aG (X:=XC) (stop:=su) (V3 _ _ a cap ?_))
     exact ae.le (uZ 0 λi=>dQ (g i)) ⟨⟨rfl,_,rfl,vb ia⟩,trivial⟩ .nil rfl (OB 0 g (by omega))
 | succ n=>
   refine ae.lr (Hw n g) (aG (X:=XC) (stop:=su) (U1 _ _ n g ?_))
   exact ae.lr (uZ (n+1) λi=>dQ (g i)) (OB (n+1) g hx)
theorem Vo (x:Sq aq) (hx:x.n<=1000):LC 118 [fM 3 dQ x] [] (.c (.sa 0 x.n)) [.arr 57 3 x.n (λi=>dQ (x.get i))]:=
 nX bf3 (aQ (by kernel_rfl)) (cY (X:=XC) (stop:=su) (aR4 _ _ x (aa1 x.n x.get hx)))
def sD:Nat->Bool:=λi=>Nat.beq i 1||Nat.beq i 3
theorem aQ3:Fn 121:={}
theorem bg1 (x:Sq cK) (h:L (af 121 1) ⟨[(0,((.c (.im (.sl 3 x.1 (λi=>dD (x.2 i))))),[]))],[],[]⟩):ep XC 121 sD L QE [fM 3 dD x] []:=km h
def HZ (g:Nat->cK)  : VS:=⟨[(0,(.c (.im (.sl 3 n.succ (λi=>dD (g i))))),[])],[],[]⟩
theorem Wb (n:Nat) (g:Nat->cK) (h:L (af 121 3) ⟨[(0,((.c (.im (.sl 3 n.succ (λi=>dD (g i))))),[])),mK],[],[]⟩):b5 XC 121 sD L QE 1 (HZ n g ):=km h
def He  : VS:=(wY cap)
theorem Q4 (h:QE (.c (.im (.v (.slice .none 0 0)))) []):b5 XC 121 sD L QE 1 (He cap ):=km h
def HW  : VS:=(wy a cap)
theorem UZ (h:L (af 121 3) (wa a cap)):b5 XC 121 sD L QE 1 (HW a cap ):=km h
def vh  : VS:=⟨[(0,.c (.im (.sl 3 n g)),[])],[],[]⟩
theorem Q3 (n:Nat) (g:Nat->Nat->Go.V.I) (h:nd (cw (0+n) 40) (QE (.c (.sa 1 (0+n))) [.dead,(.arr 92 3 (0+n) (fZ 0 jA g))])):b5 XC 121 sD L QE 3 (vh n g ):=km h
theorem Nv (g:Nat->cK) (hx:n<=1000):ae 121 0 (oy [] (.c (.sa 0 (n))) [.arr 92 3 (n) (λi=>dD (g i))]) (af 121 3) (vh n λi=>dD (g i)):=by
 refine aG (X:=XC) (stop:=sD) (Q3 _ _ n _ ?_)
 refine ai (bO (by omega) (by omega)) ?_
 refine .inl ?_
 rw [Nat.zero_add]
 exact ⟨[1],.c (.sa 0 n),_,_,rfl,(.cons (aY.arr λi _ j _=>cD.refl _) .nil),⟨1,aQ rfl,aQ rfl,rfl,rfl,aX.refl _,⟨rfl,trivial⟩⟩⟩
theorem XZ (g:Nat->cK) (hx:n<=1000):ae 121 0 (oy [] (.c (.sa 0 (n))) [.arr 92 3 (n) (λi=>dD (g i))]) (af 121 1) ⟨[(0,fM 3 dD ⟨n,g⟩,[])],[],[]⟩:=by
 cases n with
 | zero=>
   refine ae.yF (t:=0) rfl λad cap=>?_
   cases ad with
   | none=>
     refine ae.lr (He cap) ((aG (X:=XC) (stop:=sD) (Q4 _ _ cap ?_)))
     exact .inr ⟨rfl,rfl,rfl,_,_,_,rfl⟩
   | some a=>
     refine ae.lr (HW a cap) (aG (X:=XC) (stop:=sD) (UZ _ _ a cap ?_))
     exact ae.le (vh 0 λi=>dD (g i)) ⟨⟨rfl,_,rfl,vb ia⟩,trivial⟩ .nil rfl (Nv 0 g (by omega))
 | succ n=>
   refine ae.lr (HZ n g) (aG (X:=XC) (stop:=sD) (Wb _ _ n g ?_))
   exact ae.lr (vh (n+1) λi=>dD (g i)) (Nv (n+1) g hx)
theorem R8 (x:Sq cK) (hx:x.n<=1000):LC 121 [fM 3 dD x] [] (.c (.sa 0 x.n)) [.arr 92 3 x.n (λi=>dD (x.get i))]:=
 nX aQ3 (aQ (by kernel_rfl)) (cY (X:=XC) (stop:=sD) (bg1 _ _ x (XZ x.n x.get hx)))
def ss:Nat->Bool:=λi=>Nat.beq i 1||Nat.beq i 3
theorem bc5:Fn 122:={}
theorem aM4 (x:Sq cZ) (h:L (af 122 1) ⟨[(0,((.c (.im (.sl 4 x.1 (λi=>ff (x.2 i))))),[]))],[],[]⟩):ep XC 122 ss L QE [fM 4 ff x] []:=km h
def IU (g:Nat->cZ)  : VS:=⟨[(0,(.c (.im (.sl 4 n.succ (λi=>ff (g i))))),[])],[],[]⟩
theorem RV (n:Nat) (g:Nat->cZ) (h:L (af 122 3) ⟨[(0,((.c (.im (.sl 4 n.succ (λi=>ff (g i))))),[])),mK],[],[]⟩):b5 XC 122 ss L QE 1 (IU n g ):=km h
def GO  : VS:=(wY cap)
theorem V0 (h:QE (.c (.im (.v (.slice .none 0 0)))) []):b5 XC 122 ss L QE 1 (GO cap ):=km h
def I6  : VS:=(wy a cap)
theorem Tb (h:L (af 122 3) (wa a cap)):b5 XC 122 ss L QE 1 (I6 a cap ):=km h
def ue  : VS:=⟨[(0,.c (.im (.sl 4 n g)),[])],[],[]⟩
theorem Vq (n:Nat) (g:Nat->Nat->Go.V.I) (h:nd (cw (0+n) 64) (QE (.c (.sa 1 (0+n))) [.dead,(.arr 59 4 (0+n) (fZ 0 jA g))])):b5 XC 122 ss L QE 3 (ue n g ):=km h
theorem MS (g:Nat->cZ) (hx:n<=1000):ae 122 0 (oy [] (.c (.sa 0 (n))) [.arr 59 4 (n) (λi=>ff (g i))]) (af 122 3) (ue n λi=>ff (g i)):=by
 refine aG (X:=XC) (stop:=ss) (Vq _ _ n _ ?_)
 refine ai (bO (by omega) (by omega)) ?_
 refine .inl ?_
 rw [Nat.zero_add]
 exact ⟨[1],.c (.sa 0 n),_,_,rfl,(.cons (aY.arr λi _ j _=>cD.refl _) .nil),⟨1,aQ rfl,aQ rfl,rfl,rfl,aX.refl _,⟨rfl,trivial⟩⟩⟩
theorem ZC (g:Nat->cZ) (hx:n<=1000):ae 122 0 (oy [] (.c (.sa 0 (n))) [.arr 59 4 (n) (λi=>ff (g i))]) (af 122 1) ⟨[(0,fM 4 ff ⟨n,g⟩,[])],[],[]⟩:=by
 cases n with
 | zero=>
   refine ae.yF (t:=0) rfl λad cap=>?_
   cases ad with
   | none=>
     refine ae.lr (GO cap) ((aG (X:=XC) (stop:=ss) (V0 _ _ cap ?_)))
     exact .inr ⟨rfl,rfl,rfl,_,_,_,rfl⟩
   | some a=>
     refine ae.lr (I6 a cap) (aG (X:=XC) (stop:=ss) (Tb _ _ a cap ?_))
     exact ae.le (ue 0 λi=>ff (g i)) ⟨⟨rfl,_,rfl,vb ia⟩,trivial⟩ .nil rfl (MS 0 g (by omega))
 | succ n=>
   refine ae.lr (IU n g) (aG (X:=XC) (stop:=ss) (RV _ _ n g ?_))
   exact ae.lr (ue (n+1) λi=>ff (g i)) (MS (n+1) g hx)
theorem Wz (x:Sq cZ) (hx:x.n<=1000):LC 122 [fM 4 ff x] [] (.c (.sa 0 x.n)) [.arr 59 4 x.n (λi=>ff (x.get i))]:=
 nX bc5 (aQ (by kernel_rfl)) (cY (X:=XC) (stop:=ss) (aM4 _ _ x (ZC x.n x.get hx)))
end
open Go Go.V
def X84:eU:={ F:=pY }
section
def Ji (x:au) (q:Nat):List C:=[(.im (iI x.op)),(.im (iI x.a)),(.im (iI x.b)),(.im (iI x.c)),(.im (iI x.n)),(.ow q 0),(.im (iI x.k.kind)),(.im (iI x.k.n)),(.im (iS x.k.s)),(.ow q 1),(.im (iI x.place.fn)),(.im (iI x.place.line)),(.im (iI x.exit)),(.im (iB x.once))]
end
def Z0:Nat->Bool:=λi=>Nat.beq i 4
section
variable {a b:mH} {m n m' n':Nat}
theorem bA5:Fn 84:={}
abbrev gn:eQ:=(2,((.c (.rt 1 0 0)),[]))
abbrev oW (aj:au):C:=.im (.v (.string aj.7.3))
end
section
variable (L:LP) (QE:D->List ah->Prop) (x:au)
theorem bB7 (h:nd (cw (0+x.6.1) 8) (nd (cw (0+x.8.1) 16) (L (af 84 4) ⟨[gn,cX],[(cG x),(.box (fO 0 0 0 0 0 0)),(.box [(ci x.1),(ci x.2),(ci x.3),(ci x.4),(ci x.5),(.sa 4 (0+x.6.1)),(ci x.7.1),(ci x.7.2),(oW x),(.sa 6 (0+x.8.1)),(ci x.9.1),(ci x.9.2),(ci x.10),(gG x)]),.dead,(.arr 3 1 (0+x.6.1) (fZ 0 jA (x.6.1,λi=>bn (x.6.2 i)).snd)),.dead,(.arr 9 1 (0+x.8.1) (fZ 0 jA (x.8.1,λi=>cA (x.8.2 i)).snd))],[]⟩))):ep X84 84 Z0 L QE [fk x] []:=km h
abbrev js:eQ:=(2,.c (.rt 1 0 0),[])
def UQ  : VS:=⟨[js,gV],[.box (lift (bW x)),.box (fO 0 0 0 0 0 0),.box (Ji x 3),.own [sU x.args,O3 x.names]],[]⟩
theorem as1 (h:QE (.a [(ci x.1),(ci x.2),(ci x.3),(ci x.4),(ci x.5),(.ow 3 0),(ci x.7.1),(ci x.7.2),(.im (.v (.string x.7.3))),(.ow 3 1),(ci x.9.1),(ci x.9.2),(ci x.10),(.im (.v (.bool x.11)))]) [(.box (lift (bW (x)))),(.box [(ci x.1),(ci x.2),(ci x.3),(ci x.4),(ci x.5),(.ow 3 0),(ci x.7.1),(ci x.7.2),(.im (.v (.string x.7.3))),(.ow 3 1),(ci x.9.1),(ci x.9.2),(ci x.10),(.im (.v (.bool x.11)))]),(.box [(ci x.1),(ci x.2),(ci x.3),(ci x.4),(ci x.5),(.ow 3 0),(ci x.7.1),(ci x.7.2),(.im (.v (.string x.7.3))),(.ow 3 1),(ci x.9.1),(ci x.9.2),(ci x.10),(.im (.v (.bool x.11)))]),(.own [(.ar 3 1 x.6.1 (λi=>bn (x.6.2 i))),(.ar 9 1 x.8.1 (λi=>cA (x.8.2 i)))])]):b5 X84 84 Z0 L QE 4 (UQ x ):=km h
set_option maxHeartbeats 4000000 in
theorem bc9 (hr:cw x.args.n 8=true) (hs:cw x.names.n 16=true):LC 84 [fk x] [] (.a (Ji x 0)) [.own [sU x.args,O3 x.names]]:=by
 refine cM bA5 (aQ (by kernel_rfl)) (cY (X:=X84) (stop:=Z0) (bB7 _ _ x ?_))
 rw [Nat.zero_add,Nat.zero_add]
 refine ai hr (ai hs ?_)
 refine ae.ak0 2 4 6 rfl rfl rfl rfl rfl rfl rfl rfl (l':=Ji x 7) (.cons (j4 _ _ _ _) (.cons (j4 _ _ _ _) (.cons (j4 _ _ _ _) (.cons (j4 _ _ _ _) (.cons (j4 _ _ _ _) (.cons (DJ 0 _ _ rfl rfl rfl) (.cons (j4 _ _ _ _) (.cons (j4 _ _ _ _) (.cons (j4 _ _ _ _) (.cons (DJ 1 _ _ rfl rfl rfl) (.cons (j4 _ _ _ _) (.cons (j4 _ _ _ _) (.cons (j4 _ _ _ _) (.cons (j4 _ _ _ _) .nil)))))))))))))) ?_
 refine ae.rename [0,1,2,7] rfl (ae.lf (UQ x) (rc (rc (rc (.cons (aY.own (.cons (nV.ar λi _ j _=>cD.refl _) (.cons (nV.ar λi _ j _=>cD.refl _) .nil))) .nil)))) ?_)
 refine aG (X:=X84) (stop:=Z0) (as1 _ _ x ?_)
 exact ⟨[3],.a (Ji x 0),_,_,rfl,(rc .nil),⟨1,aQ rfl,aQ rfl,rfl,rfl,aX.refl _,⟨rfl,trivial⟩⟩⟩
end
open Go Go.V
def Xd:eU:={ F:=pY }
section
section
variable (e:aq) (k:Nat)
def Jg (q:Nat):List C:=[.ow q 0,.ow q 1,.im (iI e.back)]
def kY:C:=.im (.v (.slice none 0 0))
def frK:ah:=.bo 92 3 k (λi=>dA (e.frames.get i)) none
def obK:ah:=.bo 59 4 k (λi=>jH (e.az.get i)) none
end
end
section
variable (L:LP) (aj:aq) (QE:D->List ah->Prop) (e:aq) (k:Nat)
def B0:Nat->Bool:=λi=>Nat.beq i 3||Nat.beq i 9||Nat.beq i 15
theorem by3:Fn 85:={}
abbrev AW:ah:=.box [bS,bS,(ci 0)]
theorem bn9 (h:L (af 85 3) ⟨[bM,gn,cX,vD],[(dm e),AW,(.box [bS,bS,(ci e.3)])],[]⟩):ep Xd 85 B0 L QE [qd e] []:=km h
abbrev iD:eQ:=(1,.c (.rt 0 0 0),[])
def FZ:VS:=⟨[iD,js,gV,(4,int k,[])],[.box (lift (bJ e)),.box [kY,kY,.im (iI 0)],.box [.sa 3 k,kY,.im (iI e.back)],frK e k],[]⟩
abbrev yV:eQ:=(6,((int 0),[]))
theorem Ss (h:br (decide ((↑k:Int)<(↑e.1.1:Int))) (nd (bQ (↑k:Int) e.1.1) (nd (cw (0+(e.1.2 k).3.1) 8) (nd (cw (k+1) 40) (nd (k.beq k) (L (af 85 3) ⟨[bM,gn,cX,(4,((int (IntKind.i64.wrap ((↑k:Int)+1))),[]))],[(dm e),AW,(.box [(.sa 8 (.succ k)),bS,(ci e.3)]),.dead,(.box [(ci ((e.1.2 k).1)),(ci ((e.1.2 k).2)),(.sa 6 (0+(e.1.2 k).3.1))]),.dead,(.arr 3 1 (0+(e.1.2 k).3.1) (fZ 0 jA ((e.1.2 k).3.1,λi=>bn ((e.1.2 k).3.2 i)).snd)),(.row 92 3 1 [(ci ((e.1.2 k).1)),(ci ((e.1.2 k).2)),(.sa 6 (0+(e.1.2 k).3.1))]),(.bo 92 3 (k+1) (λi=>dA (e.1.2 i)) (.some (k,[(.c (ci ((e.1.2 k).1))),(.c (ci ((e.1.2 k).2))),(.c (.sa 6 (0+(e.1.2 k).3.1)))])))],[]⟩))))) (L (af 85 9) ⟨[bM,gn,cX,yV],[(dm e),AW,(.box [(.sa 3 k),bS,(ci e.3)]),(.bo 92 3 k (λi=>dA (e.1.2 i)) .none)],[]⟩)):b5 Xd 85 B0 L QE 3 (FZ e k):=km h
def FV:VS:=⟨[iD,js,gV,(6,int k,[])],[.box (lift (bJ e)),.box [kY,kY,.im (iI 0)],.box [.sa 3 e.frames.n,.sa 4 k,.im (iI e.back)],tR e.frames,obK e k],[]⟩
abbrev LJ:ah:=.bo 92 3 aj.1.1 (λi=>dA (aj.1.2 i)) .none
abbrev UT (ax:Nat):List C:=[(ci ((aj.2.2 ax).1)),(ci ((aj.2.2 ax).2)),(.sa 7 (0+(aj.2.2 ax).3.1)),(.sa 9 (0+(aj.2.2 ax).4.1))]
abbrev lT (aj:Nat):eQ:=(6,((fp aj),[]))
theorem W5 (h:br (decide ((↑k:Int)<(↑e.2.1:Int))) (nd (bQ (↑k:Int) e.2.1) (nd (cw (0+(e.2.2 k).3.1) 16) (nd (cw (0+(e.2.2 k).4.1) 8) (nd (cw (k+1) 64) (nd (k.beq k) (L (af 85 9) ⟨[bM,gn,cX,(6,((int (IntKind.i64.wrap ((↑k:Int)+1))),[]))],[(dm e),AW,(.box [(.sa 3 e.1.1),(.sa 11 (.succ k)),(ci e.3)]),(LJ e),.dead,(.box (UT e k)),.dead,(.arr 9 1 (0+(e.2.2 k).3.1) (fZ 0 jA ((e.2.2 k).3.1,λi=>cA ((e.2.2 k).3.2 i)).snd)),.dead,(.arr 3 1 (0+(e.2.2 k).4.1) (fZ 0 jA ((e.2.2 k).4.1,λi=>bn ((e.2.2 k).4.2 i)).snd)),(.row 59 4 1 (UT e k)),(.bo 59 4 (k+1) (λi=>jH (e.2.2 i)) (.some (k,[(.c (ci ((e.2.2 k).1))),(.c (ci ((e.2.2 k).2))),(.c (.sa 7 (0+(e.2.2 k).3.1))),(.c (.sa 9 (0+(e.2.2 k).4.1)))])))],[]⟩)))))) (L (af 85 15) ⟨[bM,gn,cX,(lT k),(38,((bool false),[]))],[(dm e),AW,(.box [(.sa 3 e.1.1),(.sa 4 k),(ci e.3)]),(LJ e),(.bo 59 4 k (λi=>jH (e.2.2 i)) .none)],[]⟩)):b5 Xd 85 B0 L QE 9 (FV e k):=km h
def D1  : VS:=⟨[js,gV],[.box (lift (bJ e)),.box [kY,kY,.im (iI 0)],.box (Jg e 3),.own [xR e.frames,GP e.az]],[]⟩
theorem ae0 (h:QE (.a [(.ow 3 0),(.ow 3 1),(ci e.3)]) [(.box (lift (bJ (e)))),(.box [(.ow 3 0),(.ow 3 1),(ci e.3)]),(.box [(.ow 3 0),(.ow 3 1),(ci e.3)]),(.own [(.ns 92 3 e.1.1 (λi=>dA (e.1.2 i))),(.ns 59 4 e.2.1 (λi=>jH (e.2.2 i)))])]):b5 Xd 85 B0 L QE 15 (D1 e ):=km h
theorem Xs:ae 85 0 (bA [] (.a (Jg e 0)) [.own [xR e.frames,GP e.az]]) (af 85 15) (D1 e):=by
 refine aG (X:=Xd) (stop:=B0) (ae0 _ _ e ?_)
 exact ⟨[3],.a (Jg e 0),_,_,rfl,(rc .nil),⟨1,aQ rfl,aQ rfl,rfl,rfl,aX.refl _,⟨rfl,trivial⟩⟩⟩
end
section
variable (e:aq)
theorem as0 (hS:fW e):∀ k,k<=e.az.n->ae 85 0 (bA [] (.a (Jg e 0)) [.own [xR e.frames,GP e.az]]) (af 85 9) (FV e k):=by
 have hN:=hS.az
 refine aN (λk hk ih=>?_) ?_
 .refine aG (X:=Xd) (stop:=B0) (W5 _ _ e k ?_)
  refine ag (λh=>?_) (λh=>(dec_lt h hk).elim)
  rw [Nat.zero_add,Nat.zero_add]
  have h1:=hS.names k hk
  have h2:=hS.items k hk
  refine ai (aC hk) (ai (bO (by omega) (by omega)) (ai (bO (by omega) (by omega)) (ai (bO (by omega) (by omega)) (ai (dv k) ?_))))
  rw [b6 hk (by unfold maxLen; omega)]
  refine ae.close 11 2 7 rfl rfl rfl rfl rfl rfl (ae.close 11 3 9 rfl rfl rfl rfl rfl rfl ?_)
  exact ae.rename [0,1,2,3,11] rfl (ae.lf (FV e (k+1)) (rc (rc (rc (rc (.cons (aY.J9 ⟨aR.aB _,aR.aB _,aR.o (nV.ar λi _ j _=>cD.refl _),aR.o (nV.ar λi _ j _=>cD.refl _),trivial⟩) .nil))))) ih)
 .refine aG (X:=Xd) (stop:=B0) (W5 _ _ e _ ?_)
  refine ag (λh=>bq h) (λh=>?_)
  refine ae.ak0 2 3 4 rfl rfl rfl rfl rfl rfl rfl rfl (l':=Jg e 5) (.cons (DJ 0 _ _ rfl rfl rfl) (.cons (DJ 1 _ _ rfl rfl rfl) (.cons (j4 _ _ _ _) .nil))) ?_
  exact ae.rename [0,1,2,5] rfl (ae.lr (D1 e) (Xs e))
theorem aC4 (hS:fW e):∀ k,k<=e.frames.n->ae 85 0 (bA [] (.a (Jg e 0)) [.own [xR e.frames,GP e.az]]) (af 85 3) (FZ e k):=by
 have hN:=hS.frames
 refine aN (λk hk ih=>?_) ?_
 .refine aG (X:=Xd) (stop:=B0) (Ss _ _ e k ?_)
  refine ag (λh=>?_) (λh=>(dec_lt h hk).elim)
  rw [Nat.zero_add]
  have h1:=hS.vars k hk
  refine ai (aC hk) (ai (bO (by omega) (by omega)) (ai (bO (by omega) (by omega)) (ai (dv k) ?_)))
  rw [b6 hk (by unfold maxLen; omega)]
  refine ae.close 8 2 6 rfl rfl rfl rfl rfl rfl ?_
  exact ae.rename [0,1,2,8] rfl (ae.lf (FZ e (k+1)) (rc (rc (rc (.cons (aY.J9 ⟨aR.aB _,aR.aB _,aR.o (nV.ar λi _ j _=>cD.refl _),trivial⟩) .nil)))) ih)
 .refine aG (X:=Xd) (stop:=B0) (Ss _ _ e _ ?_)
  refine ag (λh=>bq h) (λh=>?_)
  exact ae.iQ 2 1 59 4 _ rfl rfl (ae.lf (FV e 0) (rc (rc (rc (rc (.cons (aY.vG λi hi=>absurd hi (Nat.not_lt_zero i)) .nil))))) (as0 e hS 0 (bk _)))
theorem aQ2 (hS:fW e):LC 85 [qd e] [] (.a (Jg e 0)) [.own [xR e.frames,GP e.az]]:=by
 refine cM by3 (aQ (by kernel_rfl)) (cY (X:=Xd) (stop:=B0) (bn9 _ _ e ?_))
 exact ae.iQ 2 0 92 3 _ rfl rfl (ae.lf (FZ e 0) (rc (rc (rc (.cons (aY.vG λi hi=>absurd hi (Nat.not_lt_zero i)) .nil)))) (aC4 e hS 0 (bk _)))
end
open Go Go.V
section
def A84 (x:au):Out:=(.a (Ji x 0),[],[.own [sU x.args,O3 x.names]])
def A85 (e:aq):Out:=(.a (Jg e 0),[],[.own [xR e.frames,GP e.az]])
def F46:FuncId->List D->List ah->Out:=ext pY [(84,λds _=>A84 (qA ds 0)),(85,λds _=>A85 (IJ ds 0))]
def X46:eU:={ F:=F46 }
section
variable (t:ak) (k:Nat)
def jO (p q:Nat):List C:=[.im (iI t.place.fn),.im (iI t.place.line),.sa p t.ins.n,.sa q t.aa.n]
def bq1:ah:=.bo 52 14 k (λi=>cn (t.ins.get i)) none
def exK:ah:=.bo 57 3 k (λi=>cL (t.aa.get i)) none
end
end
def Iq:Nat->Bool:=λi=>Nat.beq i 3||Nat.beq i 7
theorem bw0:Fn 46:={}
section
variable (L:LP) (aj:ak) (QE:D->List ah->Prop) (ax:Nat) (t:ak) (k:Nat)
theorem bw7 (h:L (af 46 3) ⟨[bM,gn,cX,vD],[(aU t),ch,(.box [(ci t.1.1),(ci t.1.2),bS,bS])],[]⟩):ep X46 46 Iq L QE [aO t] []:=km h
def Fm:VS:=⟨[iD,js,gV,(4,int k,[])],[.box (lift (aT t)),.box [.im (iI 0),.im (iI 0),kY,kY],.box [.im (iI t.place.fn),.im (iI t.place.line),.sa 3 k,kY],bq1 t k],[]⟩
abbrev qb:D:=.a (lift (bW (aj.2.2 ax)))
abbrev kI:C:=.im (.v (.string ((aj.2.2 ax).7.3)))
abbrev kM:C:=.im (.v (.bool ((aj.2.2 ax).11)))
abbrev SM:D:=.a [(ci ((aj.2.2 ax).1)),(ci ((aj.2.2 ax).2)),(ci ((aj.2.2 ax).3)),(ci ((aj.2.2 ax).4)),(ci ((aj.2.2 ax).5)),(.ow 0 0),(ci ((aj.2.2 ax).7.1)),(ci ((aj.2.2 ax).7.2)),(kI aj ax),(.ow 0 1),(ci ((aj.2.2 ax).9.1)),(ci ((aj.2.2 ax).9.2)),(ci ((aj.2.2 ax).10)),(kM aj ax)]
abbrev qh:O:=.ar 3 1 ((aj.2.2 ax).6.1) (λi=>bn ((aj.2.2 ax).6.2 i))
abbrev pG:O:=.ar 9 1 ((aj.2.2 ax).8.1) (λi=>cA ((aj.2.2 ax).8.2 i))
abbrev mJ:Fc:=.c (ci ((aj.2.2 ax).1))
abbrev mO:Fc:=.c (ci ((aj.2.2 ax).2))
abbrev na:Fc:=.c (ci ((aj.2.2 ax).3))
abbrev l9:Fc:=.c (ci ((aj.2.2 ax).4))
abbrev nc:Fc:=.c (ci ((aj.2.2 ax).5))
abbrev mP:Fc:=.c (ci ((aj.2.2 ax).7.1))
abbrev mM:Fc:=.c (ci ((aj.2.2 ax).7.2))
abbrev lQ:Fc:=.c (ci ((aj.2.2 ax).9.1))
abbrev lE:Fc:=.c (ci ((aj.2.2 ax).9.2))
abbrev nr:Fc:=.c (ci ((aj.2.2 ax).10))
theorem Td (h:br (decide ((↑k:Int)<(↑t.2.1:Int))) (nd (bQ (↑k:Int) t.2.1) ((LC 84 [(qb t k)] [] (SM t k) [(.own [(qh t k),(pG t k)])]/\nd (cw (k+1) 152) (nd (k.beq k) (nd (bQ (↑k:Int) t.2.1) ((LC 84 [(qb t k)] [] (SM t k) [(.own [(qh t k),(pG t k)])]/\nd (cw (k+1) 152) (nd (k.beq k) (L (af 46 3) ⟨[bM,gn,cX,(4,((int (IntKind.i64.wrap ((↑k:Int)+1))),[]))],[(aU t),ch,(.box [(ci t.1.1),(ci t.1.2),(.sa 6 (.succ k)),bS]),.dead,(.own [(qh t k),(pG t k)]),(.row 52 14 1 [(ci ((t.2.2 k).1)),(ci ((t.2.2 k).2)),(ci ((t.2.2 k).3)),(ci ((t.2.2 k).4)),(ci ((t.2.2 k).5)),(.ow 4 0),(ci ((t.2.2 k).7.1)),(ci ((t.2.2 k).7.2)),(kI t k),(.ow 4 1),(ci ((t.2.2 k).9.1)),(ci ((t.2.2 k).9.2)),(ci ((t.2.2 k).10)),(kM t k)]),(.bo 52 14 (k+1) (λi=>cn (t.2.2 i)) (.some (k,[(mJ t k),(mO t k),(na t k),(l9 t k),(nc t k),(.c (.ow 4 0)),(mP t k),(mM t k),(.c (kI t k)),(.c (.ow 4 1)),(lQ t k),(lE t k),(nr t k),(.c (kM t k))])))],[]⟩))))))))) (L (af 46 7) ⟨[bM,gn,cX,tr],[(aU t),ch,(.box [(ci t.1.1),(ci t.1.2),(.sa 3 k),bS]),(.bo 52 14 k (λi=>cn (t.2.2 i)) .none)],[]⟩)):b5 X46 46 Iq L QE 3 (Fm t k):=km h
def Fi:VS:=⟨[iD,js,gV,(5,int k,[])],[.box (lift (aT t)),.box [.im (iI 0),.im (iI 0),kY,kY],.box [.im (iI t.place.fn),.im (iI t.place.line),.sa 3 t.ins.n,.sa 4 k],cm t.ins,exK t k],[]⟩
abbrev oD:C:=ci ((aj.3.2 ax).3)
abbrev vL:O:=.ns 92 3 ((aj.3.2 ax).1.1) (λi=>dA ((aj.3.2 ax).1.2 i))
abbrev vX:O:=.ns 59 4 ((aj.3.2 ax).2.1) (λi=>jH ((aj.3.2 ax).2.2 i))
abbrev jt:ah:=.bo 52 14 aj.2.1 (λi=>cn (aj.2.2 i)) .none
theorem UA (h:br (decide ((↑k:Int)<(↑t.3.1:Int))) (nd (bQ (↑k:Int) t.3.1) ((LC 85 [(.a (lift (bJ (t.3.2 k))))] [] (.a [(.ow 0 0),(.ow 0 1),(oD t k)]) [(.own [(vL t k),(vX t k)])]/\nd (cw (k+1) 56) (nd (k.beq k) (nd (bQ (↑k:Int) t.3.1) ((LC 85 [(.a (lift (bJ (t.3.2 k))))] [] (.a [(.ow 0 0),(.ow 0 1),(oD t k)]) [(.own [(vL t k),(vX t k)])]/\nd (cw (k+1) 56) (nd (k.beq k) (L (af 46 7) ⟨[bM,gn,cX,(5,((int (IntKind.i64.wrap ((↑k:Int)+1))),[]))],[(aU t),ch,(.box [(ci t.1.1),(ci t.1.2),(.sa 3 t.2.1),(.sa 7 (.succ k))]),(jt t),.dead,(.own [(vL t k),(vX t k)]),(.row 57 3 1 [(.ow 5 0),(.ow 5 1),(oD t k)]),(.bo 57 3 (k+1) (λi=>cL (t.3.2 i)) (.some (k,[(.c (.ow 5 0)),(.c (.ow 5 1)),(.c (oD t k))])))],[]⟩))))))))) (QE (.a [(ci t.1.1),(ci t.1.2),(.sa 3 t.2.1),(.sa 4 k)]) [(.box (lift (aT (t)))),(.box [(ci t.1.1),(ci t.1.2),(.sa 3 t.2.1),(.sa 4 k)]),(.box [(ci t.1.1),(ci t.1.2),(.sa 3 t.2.1),(.sa 4 k)]),(.bo 52 14 t.2.1 (λi=>cn (t.2.2 i)) .none),(.bo 57 3 k (λi=>cL (t.3.2 i)) .none)])):b5 X46 46 Iq L QE 7 (Fi t k):=km h
end
set_option maxHeartbeats 4000000
section
variable (t:ak)
theorem aH3 (hS:aM t):∀ k,k<=t.aa.n->ae 46 0 (bA [] (.a (jO t 0 1)) [cm t.ins,eV t.aa]) (af 46 7) (Fi t k):=by
 have hN:=hS.aa
 refine aN (λk hk ih=>?_) ?_
 .refine aG (X:=X46) (stop:=Iq) (UA _ _ t k ?_)
  refine ag (λh=>?_) (λh=>(dec_lt h hk).elim)
  have h1:=aQ2 _ (hS.ex k hk)
  have h2:=bO (n:=k+1) (b:=56) (by omega) (by omega)
  refine ai (aC hk) ⟨h1,ai h2 (ai (dv k) (ai (aC hk) ⟨h1,ai h2 (ai (dv k) ?_)⟩))⟩
  rw [b6 hk (by unfold maxLen; omega)]
  refine ae.split 7 5 rfl rfl (List.forall_mem_cons.2 ⟨trivial,List.forall_mem_cons.2 ⟨trivial,List.forall_mem_nil _⟩⟩) ?_
  refine ae.close 7 0 8 rfl rfl rfl rfl rfl rfl (ae.close 7 1 9 rfl rfl rfl rfl rfl rfl ?_)
  exact ae.rename [0,1,2,3,7] rfl (ae.lf (Fi t (k+1)) (rc (rc (rc (rc (.cons (aY.J9 ⟨aR.refl _,aR.refl _,aR.aB _,trivial⟩) .nil))))) ih)
 .refine aG (X:=X46) (stop:=Iq) (UA _ _ t _ ?_)
  refine ag (λh=>bq h) (λh=>?_)
  exact ⟨[3,4],.a (jO t 0 1),_,_,rfl,(rc (rc .nil)),⟨2,aQ rfl,aQ rfl,rfl,rfl,aX.refl _,⟨rfl,⟨rfl,trivial⟩⟩⟩⟩
theorem aJ4 (hS:aM t):∀ k,k<=t.ins.n->ae 46 0 (bA [] (.a (jO t 0 1)) [cm t.ins,eV t.aa]) (af 46 3) (Fm t k):=by
 have hN:=hS.ins
 refine aN (λk hk ih=>?_) ?_
 .refine aG (X:=X46) (stop:=Iq) (Td _ _ t k ?_)
  refine ag (λh=>?_) (λh=>(dec_lt h hk).elim)
  have q1:=hS.args k hk
  have q2:=hS.names k hk
  have h1:=bc9 (t.ins.get k) (bO (by omega) (by omega)) (bO (by omega) (by omega))
  have h2:=bO (n:=k+1) (b:=152) (by omega) (by omega)
  refine ai (aC hk) ⟨h1,ai h2 (ai (dv k) (ai (aC hk) ⟨h1,ai h2 (ai (dv k) ?_)⟩))⟩
  rw [b6 hk (by unfold maxLen; omega)]
  refine ae.split 6 4 rfl rfl (List.forall_mem_cons.2 ⟨trivial,List.forall_mem_cons.2 ⟨trivial,List.forall_mem_nil _⟩⟩) ?_
  refine ae.close 6 5 7 rfl rfl rfl rfl rfl rfl (ae.close 6 9 8 rfl rfl rfl rfl rfl rfl ?_)
  exact ae.rename [0,1,2,6] rfl (ae.lf (Fm t (k+1)) (rc (rc (rc (.cons (aY.J9 ⟨aR.aB _,aR.aB _,aR.aB _,aR.aB _,aR.aB _,aR.refl _,aR.aB _,aR.aB _,aR.aB _,aR.refl _,aR.aB _,aR.aB _,aR.aB _,aR.aB _,trivial⟩) .nil)))) ih)
 .refine aG (X:=X46) (stop:=Iq) (Td _ _ t _ ?_)
  refine ag (λh=>bq h) (λh=>?_)
  exact ae.iQ 2 3 57 3 _ rfl rfl (ae.lf (Fi t 0) (rc (rc (rc (rc (.cons (aY.vG λi hi=>absurd hi (Nat.not_lt_zero i)) .nil))))) (aH3 t hS 0 (bk _)))
theorem ao3 (hS:aM t):LC 46 [aO t] [] (.a (jO t 0 1)) [cm t.ins,eV t.aa]:=by
 refine cM bw0 (aQ (by kernel_rfl)) (cY (X:=X46) (stop:=Iq) (bw7 _ _ t ?_))
 exact ae.iQ 2 2 52 14 _ rfl rfl (ae.lf (Fm t 0) (rc (rc (rc (.cons (aY.vG λi hi=>absurd hi (Nat.not_lt_zero i)) .nil)))) (aJ4 t hS 0 (bk _)))
end
open Go Go.V
section
section
variable (x:au) (s:Sq cZ) {α:Type} (el sz:Nat)
def QK (ds:List D):Out:=match ds with
 | [.c (.im (.sl _ n get))]=>(.c (.sa 0 n),[],[.arr el sz n get])
 | _=>vR
def F75:FuncId->List D->List ah->Out:=ext pY [(119,λds _=>QK 3 1 ds),(120,λds _=>(aD ds 0,[],[])),(117,λds _=>QK 52 14 ds),(118,λds _=>QK 57 3 ds),(121,λds _=>QK 92 3 ds),(122,λds _=>QK 59 4 ds)]
def vr:eU:={ F:=F75 }
def bc3:List O:=[.im (iI x.op),.im (iI x.a),.im (iI x.b),.im (iI x.c),.im (iI x.n),sU x.args,.im (iI x.k.kind),.im (iI x.k.n),.im (iS x.k.s),.im (xT 1 cA x.names),.im (iI x.place.fn),.im (iI x.place.line),.im (iI x.exit),.im (iB x.once)]
def bL:Nat->O:=Xj (bc3 x)
def fR (x:cZ):Nat->O:=Xj [.im (iI x.value),.im (iI x.cls),.im (xT 1 cA x.names),sU x.items]
def aR2:O:=.ns 59 4 s.n λi=>fR (s.get i)
def bD (x:aq):Nat->O:=Xj [xR x.frames,aR2 x.az,.im (iI x.back)]
def bV (s:Sq au):ah:=.bo 52 14 s.n (λi=>bL (s.get i)) none
def fb (s:Sq aq):ah:=.bo 57 3 s.n (λi=>bD (s.get i)) none
def Sh:ah:=.bo 59 4 s.n (λi=>fR (s.get i)) none
def xn (s:Sq α) (k:Nat) (f:α->Nat->O) (e:α->Nat->Go.V.I) (i:Nat):Nat->O:=bif Nat.blt i k then f (s.get i) else λj=>.im (e (s.get i) j)
def gN (f:α->Nat->O) (e:α->Nat->Go.V.I) (s:Sq α) (k:Nat):ah:=.bo el sz s.n (xn s k f e) none
def gF (f:α->Nat->O) (e:α->Nat->Go.V.I) (s:Sq α) (k:Nat):ah:=.bo el sz s.n (xn s k f e) (some (k,gu (λj=>.im (e (s.get k) j)) sz 0))
def Vd (t:ak):ah:=.box [.im (iI t.place.fn),.im (iI t.place.line),.sa 2 t.ins.n,.sa 3 t.aa.n]
end
end
def jR:Nat->Bool:=λi=>Nat.beq i 2||Nat.beq i 3||Nat.beq i 4||Nat.beq i 8||Nat.beq i 9||Nat.beq i 11||Nat.beq i 12||Nat.beq i 13||Nat.beq i 17||Nat.beq i 18||Nat.beq i 21
theorem bo1:Fn 75:={}
section
variable (aj:ak) (L:LP) (QE:D->List ah->Prop) (ax:Nat) (t:ak) (k aJ j:Nat)
abbrev KG:ah:=.arr 52 14 aj.2.1 (λi=>gw (aj.2.2 i))
abbrev tE:ah:=.arr 57 3 aj.3.1 (λi=>dQ (aj.3.2 i))
abbrev eY:ah:=.box [(ci aj.1.1),(ci aj.1.2),(.sa 2 aj.2.1),(.sa 3 aj.3.1)]
theorem bC6 (h:(LC 117 [(.c (.im (.sl 14 t.2.1 (λi=>gw (t.2.2 i)))))] [] (.c (.sa 0 t.2.1)) [(KG t)]/\nd (Nat.beq t.2.1 t.2.1) ((LC 118 [(.c (.im (.sl 3 t.3.1 (λi=>dQ (t.3.2 i)))))] [] (.c (.sa 0 t.3.1)) [(tE t)]/\nd (Nat.beq t.3.1 t.3.1) ((LC 117 [(.c (.im (.sl 14 t.2.1 (λi=>gw (t.2.2 i)))))] [] (.c (.sa 0 t.2.1)) [(KG t)]/\nd (Nat.beq t.2.1 t.2.1) ((LC 118 [(.c (.im (.sl 3 t.3.1 (λi=>dQ (t.3.2 i)))))] [] (.c (.sa 0 t.3.1)) [(tE t)]/\nd (Nat.beq t.3.1 t.3.1) (L (af 75 2) ⟨[bM,gn],[(eY t),ch,(KG t),(tE t)],[]⟩))))))))):ep vr 75 jR L QE [aO t] []:=km h
def Kj  : VS:=⟨[iD,js],[Vd t,.box [.im (iI 0),.im (iI 0),.im (.v (.slice none 0 0)),.im (.v (.slice none 0 0))],gN 52 14 bL gw t.ins 0,.arr 57 3 t.aa.n (λi=>dQ (t.aa.get i))],[]⟩
theorem aH7 (h:L (af 75 3) ⟨[bM,gn,(22,((.c (.sa 2 t.2.1)),[])),(23,((gY t),[])),(24,((int 0),[]))],[(eY t),ch,(.bo 52 14 t.2.1 (xn t.2 0 bL gw) .none),(tE t)],[]⟩):b5 vr 75 jR L QE 2 (Kj t ):=km h
def zg:VS:=⟨[iD,js,(22,.c (.sa 2 t.ins.n),[]),(23,int t.ins.n,[]),(24,int k,[])],[Vd t,.box [.im (iI 0),.im (iI 0),.im (.v (.slice none 0 0)),.im (.v (.slice none 0 0))],gN 52 14 bL gw t.ins k,.arr 57 3 t.aa.n (λi=>dQ (t.aa.get i))],[]⟩
abbrev lI:eQ:=(47,((.c (.sa 3 aj.3.1)),[]))
abbrev JY:D:=int (↑aj.3.1:Int)
abbrev me:eQ:=(48,((JY aj),[]))
theorem RL (h:br (decide ((↑k:Int)<(↑t.2.1:Int))) (L (af 75 4) ⟨[bM,gn,(22,((.c (.sa 2 t.2.1)),[])),(23,((gY t),[])),(24,((int (↑k:Int)),[])),(25,((bool true),[]))],[(eY t),ch,(.bo 52 14 t.2.1 (xn t.2 k bL gw) .none),(tE t)],[]⟩) (L (af 75 8) ⟨[bM,gn,(lI t),(me t),(49,((int 0),[]))],[(eY t),ch,(.bo 52 14 t.2.1 (xn t.2 k bL gw) .none),(tE t)],[]⟩)):b5 vr 75 jR L QE 3 (zg t k):=km h
def Mh:VS:=⟨[iD,js,(22,.c (.sa 2 t.ins.n),[]),(23,int t.ins.n,[]),(24,int k,[])],[Vd t,.box [.im (iI 0),.im (iI 0),.im (.v (.slice none 0 0)),.im (.v (.slice none 0 0))],gF 52 14 bL gw t.ins k,.arr 57 3 t.aa.n (λi=>dQ (t.aa.get i))],[]⟩
abbrev Jz:ah:=.arr 3 1 ((aj.2.2 ax).6.1) (λi=>bn ((aj.2.2 ax).6.2 i))
abbrev Bs:C:=.im (.sl 1 ((aj.2.2 ax).8.1) (λi=>cA ((aj.2.2 ax).8.2 i)))
abbrev eS:ah:=.box (lift (bW (aj.2.2 ax)))
theorem au6 (h:nd (bQ (↑k:Int) t.2.1) (nd (k.blt t.2.1) (nd (k.beq k) ((LC 119 [(.c (.im (.sl 1 ((t.2.2 k).6.1) (λi=>bn ((t.2.2 k).6.2 i)))))] [] (.c (.sa 0 ((t.2.2 k).6.1))) [(Jz t k)]/\nd (Nat.beq (t.2.2 k).6.1 (t.2.2 k).6.1) ((LC 120 [(.c (Bs t k))] [] (.c (Bs t k)) []/\nd (bQ (↑k:Int) t.2.1) (nd (k.beq k) (nd (bQ (↑k:Int) t.2.1) (nd (k.beq k) ((LC 119 [(.c (.im (.sl 1 ((t.2.2 k).6.1) (λi=>bn ((t.2.2 k).6.2 i)))))] [] (.c (.sa 0 ((t.2.2 k).6.1))) [(Jz t k)]/\nd (Nat.beq (t.2.2 k).6.1 (t.2.2 k).6.1) ((LC 120 [(.c (Bs t k))] [] (.c (Bs t k)) []/\nd (bQ (↑k:Int) t.2.1) (nd (k.beq k) (nd (bQ (↑k:Int) t.2.1) (nd (k.beq k) (L (af 75 3) ⟨[bM,gn,(22,((.c (.sa 2 t.2.1)),[])),(23,((gY t),[])),(24,((int (IntKind.i64.wrap ((↑k:Int)+1))),[]))],[(eY t),ch,(.bo 52 14 t.2.1 (xn t.2 k bL gw) (.some (k,[(mJ t k),(mO t k),(na t k),(l9 t k),(nc t k),(.c (.sa 5 ((t.2.2 k).6.1))),(mP t k),(mM t k),(.c (kI t k)),(.c (Bs t k)),(lQ t k),(lE t k),(nr t k),(.c (kM t k))]))),(tE t),(eS t k),(Jz t k),.dead],[]⟩)))))))))))))))))):b5 vr 75 jR L QE 4 (Mh t k):=km h
abbrev zz:eQ:=(47,.c (.sa 3 aj.aa.n),[])
abbrev Bx:eQ:=(48,int aj.aa.n,[])
def oG:VS:=⟨[iD,js,(zz t),(Bx t),(49,int k,[])],[Vd t,.box [.im (iI 0),.im (iI 0),.im (.v (.slice none 0 0)),.im (.v (.slice none 0 0))],bV t.ins,gN 57 3 bD dQ t.aa k],[]⟩
abbrev oY (aj:Nat):eQ:=(49,((fp aj),[]))
abbrev rq:ah:=.bo 52 14 aj.2.1 (λi=>bL (aj.2.2 i)) .none
theorem Wp (h:br (decide ((↑k:Int)<(↑t.3.1:Int))) (L (af 75 9) ⟨[bM,gn,(lI t),(me t),(oY k),(50,((bool true),[]))],[(eY t),ch,(rq t),(.bo 57 3 t.3.1 (xn t.3 k bD dQ) .none)],[]⟩) (QE (.a [(ci t.1.1),(ci t.1.2),(.sa 2 t.2.1),(.sa 3 t.3.1)]) [(.box [(ci t.1.1),(ci t.1.2),(.sa 2 t.2.1),(.sa 3 t.3.1)]),(.box [(ci t.1.1),(ci t.1.2),(.sa 2 t.2.1),(.sa 3 t.3.1)]),(.bo 52 14 t.2.1 (λi=>bL (t.2.2 i)) .none),(.bo 57 3 t.3.1 (xn t.3 k bD dQ) .none)])):b5 vr 75 jR L QE 8 (oG t k):=km h
def KJ:VS:=⟨[iD,js,(zz t),(Bx t),(49,int k,[])],[Vd t,.box [.im (iI 0),.im (iI 0),.im (.v (.slice none 0 0)),.im (.v (.slice none 0 0))],bV t.ins,gF 57 3 bD dQ t.aa k],[]⟩
abbrev LA:C:=.im (.sl 3 ((aj.3.2 ax).1.1) (λi=>dD ((aj.3.2 ax).1.2 i)))
abbrev KI:ah:=.arr 92 3 ((aj.3.2 ax).1.1) (λi=>dD ((aj.3.2 ax).1.2 i))
abbrev Kv:C:=.im (.sl 4 ((aj.3.2 ax).2.1) (λi=>ff ((aj.3.2 ax).2.2 i)))
abbrev JS:ah:=.arr 59 4 ((aj.3.2 ax).2.1) (λi=>ff ((aj.3.2 ax).2.2 i))
abbrev Cn:ah:=.bo 57 3 aj.3.1 (xn aj.3 ax bD dQ) (.some (ax,[(.c (LA aj ax)),(.c (Kv aj ax)),(.c (oD aj ax))]))
theorem aH2 (h:nd (bQ (↑k:Int) t.3.1) (nd (k.blt t.3.1) (nd (k.beq k) ((LC 121 [(.c (LA t k))] [] (.c (.sa 0 ((t.3.2 k).1.1))) [(KI t k)]/\nd (Nat.beq (t.3.2 k).1.1 (t.3.2 k).1.1) ((LC 122 [(.c (Kv t k))] [] (.c (.sa 0 ((t.3.2 k).2.1))) [(JS t k)]/\nd (Nat.beq (t.3.2 k).2.1 (t.3.2 k).2.1) ((LC 121 [(.c (LA t k))] [] (.c (.sa 0 ((t.3.2 k).1.1))) [(KI t k)]/\nd (Nat.beq (t.3.2 k).1.1 (t.3.2 k).1.1) ((LC 122 [(.c (Kv t k))] [] (.c (.sa 0 ((t.3.2 k).2.1))) [(JS t k)]/\nd (Nat.beq (t.3.2 k).2.1 (t.3.2 k).2.1) (L (af 75 11) ⟨[bM,gn,(mU k),(7,((.c (.sa 5 ((t.3.2 k).1.1))),[])),(8,((.c (.sa 6 ((t.3.2 k).2.1))),[])),(lI t),(me t),(oY k)],[(eY t),ch,(rq t),(Cn t k),(.box (lift (bJ (t.3.2 k)))),(KI t k),(JS t k)],[]⟩)))))))))))):b5 vr 75 jR L QE 9 (KJ t k):=km h
abbrev Tx:a8:=[iD,js,(zz aj),(Bx aj),(49,int ax,[]),(5,int ax,[]),(7,.c (.sa 4 (aj.aa.get ax).frames.n),[]),(8,.c (.sa 5 (aj.aa.get ax).az.n),[])]
def D8:VS:=⟨(Tx t k),[Vd t,.box [.im (iI 0),.im (iI 0),.im (.v (.slice none 0 0)),.im (.v (.slice none 0 0))],bV t.ins,gF 57 3 bD dQ t.aa k,gN 92 3 dA dD (t.aa.get k).frames 0,gN 59 4 fR ff (t.aa.get k).az 0],[]⟩
abbrev s8:eQ:=(7,((.c (.sa 4 ((aj.3.2 ax).1.1))),[]))
abbrev Bg:D:=.c (.sa 5 ((aj.3.2 ax).2.1))
abbrev sH:eQ:=(8,((Bg aj ax),[]))
abbrev LQ:ah:=.bo 59 4 ((aj.3.2 ax).2.1) (xn (aj.3.2 ax).2 0 fR ff) .none
theorem ZK (h:L (af 75 12) ⟨[bM,gn,(mU k),(s8 t k),(sH t k),(lI t),(me t),(oY k),(60,((.c (.sa 4 ((t.3.2 k).1.1))),[])),(61,((int ((↑(t.3.2 k).1.1:Int))),[])),(62,((int 0),[]))],[(eY t),ch,(rq t),(Cn t k),(.bo 92 3 ((t.3.2 k).1.1) (xn (t.3.2 k).1 0 dA dD) .none),(LQ t k)],[]⟩):b5 vr 75 jR L QE 11 (D8 t k):=km h
abbrev Sb:a8:=[iD,js,(zz aj),(Bx aj),(49,int ax,[]),(5,int ax,[]),(7,.c (.sa 4 (aj.aa.get ax).frames.n),[]),(8,.c (.sa 5 (aj.aa.get ax).az.n),[]),(60,.c (.sa 4 (aj.aa.get ax).frames.n),[]),(61,int (aj.aa.get ax).frames.n,[]),(62,int aJ,[])]
def vm:VS:=⟨(Sb t k j),[Vd t,.box [.im (iI 0),.im (iI 0),.im (.v (.slice none 0 0)),.im (.v (.slice none 0 0))],bV t.ins,gF 57 3 bD dQ t.aa k,gN 92 3 dA dD (t.aa.get k).frames j,gN 59 4 fR ff (t.aa.get k).az 0],[]⟩
abbrev UO:List ah:=[(eY aj),ch,(rq aj),(Cn aj ax),(.bo 92 3 ((aj.3.2 ax).1.1) (xn (aj.3.2 ax).1 aJ dA dD) .none),(LQ aj ax)]
abbrev Fa:eQ:=(76,((int ((↑(aj.3.2 ax).2.1:Int))),[]))
theorem OD (h:br (decide ((↑j:Int)<(↑(t.3.2 k).1.1:Int))) (L (af 75 13) ⟨[bM,gn,(mU k),(s8 t k),(sH t k),(lI t),(me t),(oY k),(60,((.c (.sa 4 ((t.3.2 k).1.1))),[])),(61,((int ((↑(t.3.2 k).1.1:Int))),[])),(62,((int (↑j:Int)),[])),(63,((bool true),[]))],(UO t k j),[]⟩) (L (af 75 17) ⟨[bM,gn,(mU k),(s8 t k),(sH t k),(lI t),(me t),(oY k),(75,((Bg t k),[])),(Fa t k),(77,((int 0),[]))],(UO t k j),[]⟩)):b5 vr 75 jR L QE 12 (vm t k j):=km h
def Eh:VS:=⟨(Sb t k j),[Vd t,.box [.im (iI 0),.im (iI 0),.im (.v (.slice none 0 0)),.im (.v (.slice none 0 0))],bV t.ins,gF 57 3 bD dQ t.aa k,gF 92 3 dA dD (t.aa.get k).frames j,gN 59 4 fR ff (t.aa.get k).az 0],[]⟩
theorem Zt (h:nd (bQ (↑j:Int) (t.3.2 k).1.1) (nd (j.blt (t.3.2 k).1.1) (nd (j.beq j) ((LC 119 [(.c (.im (.sl 1 (((t.3.2 k).1.2 j).3.1) (λi=>bn (((t.3.2 k).1.2 j).3.2 i)))))] [] (.c (.sa 0 (((t.3.2 k).1.2 j).3.1))) [(.arr 3 1 (((t.3.2 k).1.2 j).3.1) (λi=>bn (((t.3.2 k).1.2 j).3.2 i)))]/\nd (Nat.beq ((t.3.2 k).1.2 j).3.1 ((t.3.2 k).1.2 j).3.1) (nd (bQ (↑j:Int) (t.3.2 k).1.1) (nd (j.beq j) (L (af 75 12) ⟨[bM,gn,(mU k),(s8 t k),(sH t k),(lI t),(me t),(oY k),(60,((.c (.sa 4 ((t.3.2 k).1.1))),[])),(61,((int ((↑(t.3.2 k).1.1:Int))),[])),(62,((int (IntKind.i64.wrap ((↑j:Int)+1))),[]))],[(eY t),ch,(rq t),(Cn t k),(.bo 92 3 ((t.3.2 k).1.1) (xn (t.3.2 k).1 j dA dD) (.some (j,[(.c (ci (((t.3.2 k).1.2 j).1))),(.c (ci (((t.3.2 k).1.2 j).2))),(.c (.sa 7 (((t.3.2 k).1.2 j).3.1)))]))),(LQ t k),(.box (lift (mS ((t.3.2 k).1.2 j)))),(.arr 3 1 (((t.3.2 k).1.2 j).3.1) (λi=>bn (((t.3.2 k).1.2 j).3.2 i)))],[]⟩)))))))):b5 vr 75 jR L QE 13 (Eh t k j):=km h
abbrev T6:a8:=[iD,js,(zz aj),(Bx aj),(49,int ax,[]),(5,int ax,[]),(7,.c (.sa 4 (aj.aa.get ax).frames.n),[]),(8,.c (.sa 5 (aj.aa.get ax).az.n),[]),(75,.c (.sa 5 (aj.aa.get ax).az.n),[]),(76,int (aj.aa.get ax).az.n,[]),(77,int aJ,[])]
def uS:VS:=⟨(T6 t k j),[Vd t,.box [.im (iI 0),.im (iI 0),.im (.v (.slice none 0 0)),.im (.v (.slice none 0 0))],bV t.ins,gF 57 3 bD dQ t.aa k,tR (t.aa.get k).frames,gN 59 4 fR ff (t.aa.get k).az j],[]⟩
abbrev Ly:ah:=.bo 92 3 ((aj.3.2 ax).1.1) (λi=>dA ((aj.3.2 ax).1.2 i)) .none
abbrev Sx:List ah:=[(eY aj),ch,(rq aj),(Cn aj ax),(Ly aj ax),(.bo 59 4 ((aj.3.2 ax).2.1) (xn (aj.3.2 ax).2 aJ fR ff) .none)]
theorem NP (h:br (decide ((↑j:Int)<(↑(t.3.2 k).2.1:Int))) (L (af 75 18) ⟨[bM,gn,(mU k),(s8 t k),(sH t k),(lI t),(me t),(oY k),(75,((Bg t k),[])),(Fa t k),(77,((int (↑j:Int)),[])),(78,((bool true),[]))],(Sx t k j),[]⟩) (L (af 75 21) ⟨[bM,gn,(mU k),(s8 t k),(sH t k),(lI t),(me t),(oY k),(75,((Bg t k),[])),(Fa t k),(77,((int (↑j:Int)),[])),(78,((bool false),[]))],(Sx t k j),[]⟩)):b5 vr 75 jR L QE 17 (uS t k j):=km h
def Dn:VS:=⟨(T6 t k j),[Vd t,.box [.im (iI 0),.im (iI 0),.im (.v (.slice none 0 0)),.im (.v (.slice none 0 0))],bV t.ins,gF 57 3 bD dQ t.aa k,tR (t.aa.get k).frames,gF 59 4 fR ff (t.aa.get k).az j],[]⟩
abbrev zZ:C:=.im (.sl 1 (((aj.3.2 ax).2.2 aJ).3.1) (λi=>cA (((aj.3.2 ax).2.2 aJ).3.2 i)))
abbrev Mk:ah:=.arr 3 1 (((aj.3.2 ax).2.2 aJ).4.1) (λi=>bn (((aj.3.2 ax).2.2 aJ).4.2 i))
theorem ZF (h:nd (bQ (↑j:Int) (t.3.2 k).2.1) (nd (j.blt (t.3.2 k).2.1) (nd (j.beq j) ((LC 120 [(.c (zZ t k j))] [] (.c (zZ t k j)) []/\(LC 119 [(.c (.im (.sl 1 (((t.3.2 k).2.2 j).4.1) (λi=>bn (((t.3.2 k).2.2 j).4.2 i)))))] [] (.c (.sa 0 (((t.3.2 k).2.2 j).4.1))) [(Mk t k j)]/\nd (Nat.beq ((t.3.2 k).2.2 j).4.1 ((t.3.2 k).2.2 j).4.1) (nd (bQ (↑j:Int) (t.3.2 k).2.1) (nd (j.beq j) (nd (bQ (↑j:Int) (t.3.2 k).2.1) (nd (j.beq j) ((LC 120 [(.c (zZ t k j))] [] (.c (zZ t k j)) []/\(LC 119 [(.c (.im (.sl 1 (((t.3.2 k).2.2 j).4.1) (λi=>bn (((t.3.2 k).2.2 j).4.2 i)))))] [] (.c (.sa 0 (((t.3.2 k).2.2 j).4.1))) [(Mk t k j)]/\nd (Nat.beq ((t.3.2 k).2.2 j).4.1 ((t.3.2 k).2.2 j).4.1) (nd (bQ (↑j:Int) (t.3.2 k).2.1) (nd (j.beq j) (nd (bQ (↑j:Int) (t.3.2 k).2.1) (nd (j.beq j) (L (af 75 17) ⟨[bM,gn,(mU k),(s8 t k),(sH t k),(lI t),(me t),(oY k),(75,((Bg t k),[])),(Fa t k),(77,((int (IntKind.i64.wrap ((↑j:Int)+1))),[]))],[(eY t),ch,(rq t),(Cn t k),(Ly t k),(.bo 59 4 ((t.3.2 k).2.1) (xn (t.3.2 k).2 j fR ff) (.some (j,[(.c (ci (((t.3.2 k).2.2 j).1))),(.c (ci (((t.3.2 k).2.2 j).2))),(.c (zZ t k j)),(.c (.sa 8 (((t.3.2 k).2.2 j).4.1)))]))),(.box (lift (xm ((t.3.2 k).2.2 j)))),.dead,(Mk t k j)],[]⟩)))))))))))))))))):b5 vr 75 jR L QE 18 (Dn t k j):=km h
def DW:VS:=⟨(Tx t k),[Vd t,.box [.im (iI 0),.im (iI 0),.im (.v (.slice none 0 0)),.im (.v (.slice none 0 0))],bV t.ins,gF 57 3 bD dQ t.aa k,tR (t.aa.get k).frames,Sh (t.aa.get k).az],[]⟩
theorem Xy (h:nd (bQ (↑k:Int) t.3.1) (nd (k.beq k) (nd (bQ (↑k:Int) t.3.1) (nd (k.beq k) (nd (bQ (↑k:Int) t.3.1) (nd (k.beq k) (nd (bQ (↑k:Int) t.3.1) (nd (k.beq k) (L (af 75 8) ⟨[bM,gn,(lI t),(me t),(49,((int (IntKind.i64.wrap ((↑k:Int)+1))),[]))],[(eY t),ch,(rq t),(.bo 57 3 t.3.1 (xn t.3 k bD dQ) (.some (k,[(.c (.sa 4 ((t.3.2 k).1.1))),(.c (.sa 5 ((t.3.2 k).2.1))),(.c (oD t k))]))),(Ly t k),(.bo 59 4 ((t.3.2 k).2.1) (λi=>fR ((t.3.2 k).2.2 i)) .none)],[]⟩))))))))):b5 vr 75 jR L QE 21 (DW t k):=km h
end
section
variable {α:Type} {s:Sq α} {f:α->Nat->O} {e:α->Nat->Go.V.I}
section
variable {i el sz k:Nat}
theorem aH9:xn s k f e k=λj=>.im (e (s.get k) j):=by
 unfold xn
 cases hb:Nat.blt k k with
 | false=>rfl
 | true=>simp at hb
theorem VZ (h:i<k):xn s k f e i=f (s.get i):=by
 unfold xn
 rw [bX h]; rfl
theorem aw2 (h:i≠k):xn s (k+1) f e i=xn s k f e i:=by
 grind [xn,Nat.blt_eq]
theorem Ew {l:List Fc} (h:Hz (f (s.get k)) l 0):aY (.bo el sz s.n (xn s k f e) (some (k,l))) (gN el sz f e s (k+1)):=
 aY.unf (by rw [VZ (Nat.lt_succ_self k)]; exact h) λi hi qG j hj=>by rw [aw2 qG]; exact nV.refl _
theorem Ed:aY (gN el sz f e s s.n) (.bo el sz s.n (λi=>f (s.get i)) none):=aY.bo λi hi j hj=>by rw [VZ hi]; exact nV.refl _
theorem YV:aY (.arr el sz s.n (λi=>e (s.get i))) (gN el sz f e s 0):=aY.vG λi hi j hj=>rfl
theorem MQ:aY (.bo el sz s.n (xn s k f e) (some (k,gu (xn s k f e k) sz 0))) (gF el sz f e s k):=by
 unfold gF
 rw [aH9]
 exact aY.refl _
end
end
section
variable (t:ak)
theorem ax5 (hS:aM t) (k:Nat) (hk:k<t.ins.n) (ih:ae 75 0 (Go.V.bA [] (.a (jO t 0 1)) [bV t.ins,fb t.aa]) (af 75 3) (zg t (k+1))):ae 75 0 (Go.V.bA [] (.a (jO t 0 1)) [bV t.ins,fb t.aa]) (af 75 4) (Mh t k):=by
 have hN:=hS.ins
 refine aG (X:=vr) (stop:=jR) (au6 _ _ t k ?_)
 have hW:=b6 hk (by unfold maxLen; omega:_<=maxLen)
 refine ai (by grind [aC]) ?_
 refine ai (by simp_all) ?_
 refine ai (by simp_all) ?_
 refine ⟨zG (t.ins.get k).args (hS.args k hk),?_⟩
 refine ai (by simp_all) ?_
 refine ⟨Fp (t.ins.get k).names (hS.names k hk),?_⟩
 refine ai (by grind [aC]) ?_
 refine ai (by simp_all) ?_
 refine ai (by grind [aC]) ?_
 refine ai (by simp_all) ?_
 refine ⟨zG (t.ins.get k).args (hS.args k hk),?_⟩
 refine ai (by simp_all) ?_
 refine ⟨Fp (t.ins.get k).names (hS.names k hk),?_⟩
 refine ai (by grind [aC]) ?_
 refine ai (by simp_all) ?_
 refine ai (by grind [aC]) ?_
 refine ai (by simp_all) ?_
 rw [hW]
 exact ae.close 2 5 5 rfl rfl rfl rfl rfl rfl (ae.rename [0,1,2,3] rfl (ae.lf (zg t (k+1)) (rc (rc (.cons (Ew ⟨aR.aB _,aR.aB _,aR.aB _,aR.aB _,aR.aB _,aR.refl _,aR.aB _,aR.aB _,aR.aB _,aR.aB _,aR.aB _,aR.aB _,aR.aB _,aR.aB _,trivial⟩) (rc .nil)))) ih))
theorem Xt (hS:aM t) (k:Nat) (hk:k<t.aa.n) (ih:ae 75 0 (Go.V.bA [] (.a (jO t 0 1)) [bV t.ins,fb t.aa]) (af 75 8) (oG t (k+1))):ae 75 0 (Go.V.bA [] (.a (jO t 0 1)) [bV t.ins,fb t.aa]) (af 75 21) (DW t k):=by
 have hN:=hS.aa
 refine aG (X:=vr) (stop:=jR) (Xy _ _ t k ?_)
 have hW:=b6 hk (by unfold maxLen; omega:_<=maxLen)
 refine ai (by grind [aC]) ?_
 refine ai (by simp_all) ?_
 refine ai (by grind [aC]) ?_
 refine ai (by simp_all) ?_
 refine ai (by grind [aC]) ?_
 refine ai (by simp_all) ?_
 refine ai (by grind [aC]) ?_
 refine ai (by simp_all) ?_
 rw [hW]
 exact ae.close 3 0 4 rfl rfl rfl rfl rfl rfl (ae.close 3 1 5 rfl rfl rfl rfl rfl rfl (ae.rename [0,1,2,3] rfl (ae.lf (oG t (k+1)) (rc (rc (rc (.cons (Ew ⟨aR.refl _,aR.refl _,aR.aB _,trivial⟩) .nil)))) ih)))
theorem XO (hS:aM t) (k:Nat) (hk:k<t.aa.n) (j:Nat) (hj:j<(t.aa.get k).az.n) (ih:ae 75 0 (Go.V.bA [] (.a (jO t 0 1)) [bV t.ins,fb t.aa]) (af 75 17) (uS t k (j+1))):ae 75 0 (Go.V.bA [] (.a (jO t 0 1)) [bV t.ins,fb t.aa]) (af 75 18) (Dn t k j):=by
 have hN:=(hS.ex k hk).az
 refine aG (X:=vr) (stop:=jR) (ZF _ _ t k j ?_)
 have hW:=b6 hj (by unfold maxLen; omega:_<=maxLen)
 refine ai (by grind [aC]) ?_
 refine ai (by simp_all) ?_
 refine ai (by simp_all) ?_
 refine ⟨Fp ((t.aa.get k).az.get j).names ((hS.ex k hk).names j hj),?_⟩
 refine ⟨zG ((t.aa.get k).az.get j).items ((hS.ex k hk).items j hj),?_⟩
 refine ai (by simp_all) ?_
 refine ai (by grind [aC]) ?_
 refine ai (by simp_all) ?_
 refine ai (by grind [aC]) ?_
 refine ai (by simp_all) ?_
 refine ⟨Fp ((t.aa.get k).az.get j).names ((hS.ex k hk).names j hj),?_⟩
 refine ⟨zG ((t.aa.get k).az.get j).items ((hS.ex k hk).items j hj),?_⟩
 refine ai (by simp_all) ?_
 refine ai (by grind [aC]) ?_
 refine ai (by simp_all) ?_
 refine ai (by grind [aC]) ?_
 refine ai (by simp_all) ?_
 rw [hW]
 exact ae.close 5 3 8 rfl rfl rfl rfl rfl rfl (ae.rename [0,1,2,3,4,5] rfl (ae.lf (uS t k (j+1)) (rc (rc (rc (rc (rc (.cons (Ew ⟨aR.aB _,aR.aB _,aR.aB _,aR.refl _,trivial⟩) .nil)))))) ih))
theorem Zy (hS:aM t) (k:Nat) (hk:k<t.aa.n) (j:Nat) (hj:j<(t.aa.get k).frames.n) (ih:ae 75 0 (Go.V.bA [] (.a (jO t 0 1)) [bV t.ins,fb t.aa]) (af 75 12) (vm t k (j+1))):ae 75 0 (Go.V.bA [] (.a (jO t 0 1)) [bV t.ins,fb t.aa]) (af 75 13) (Eh t k j):=by
 have hN:=(hS.ex k hk).frames
 refine aG (X:=vr) (stop:=jR) (Zt _ _ t k j ?_)
 have hW:=b6 hj (by unfold maxLen; omega:_<=maxLen)
 refine ai (by grind [aC]) ?_
 refine ai (by simp_all) ?_
 refine ai (by simp_all) ?_
 refine ⟨zG ((t.aa.get k).frames.get j).vars ((hS.ex k hk).vars j hj),?_⟩
 refine ai (by simp_all) ?_
 refine ai (by grind [aC]) ?_
 refine ai (by simp_all) ?_
 rw [hW]
 exact ae.close 4 2 7 rfl rfl rfl rfl rfl rfl (ae.rename [0,1,2,3,4,5] rfl (ae.lf (vm t k (j+1)) (rc (rc (rc (rc (.cons (Ew ⟨aR.aB _,aR.aB _,aR.refl _,trivial⟩) (rc .nil)))))) ih))
theorem XU (hS:aM t) (k:Nat) (hk:k<t.aa.n) (ih:ae 75 0 (Go.V.bA [] (.a (jO t 0 1)) [bV t.ins,fb t.aa]) (af 75 8) (oG t (k+1))):∀ j,j<=(t.aa.get k).az.n->ae 75 0 (Go.V.bA [] (.a (jO t 0 1)) [bV t.ins,fb t.aa]) (af 75 17) (uS t k j):=by
 have hB:(t.aa.get k).az.n<=1000:=(hS.ex k hk).az
 refine aN (λj hj oH=>?_) ?_
 .refine aG (X:=vr) (stop:=jR) (NP _ _ t k j ?_)
  refine ag (λh0=>?_) (λh=>(dec_lt h hj).elim)
  exact ae.focus 5 j rfl hj (ae.lf (Dn t k j) (rc (rc (rc (rc (rc (.cons (MQ) .nil)))))) (XO t hS k hk j hj oH))
 .refine aG (X:=vr) (stop:=jR) (NP _ _ t k _ ?_)
  refine ag (λh=>bq h) (λh=>?_)
  exact ae.lf (DW t k) (rc (rc (rc (rc (rc (.cons (Ed) .nil)))))) (Xt t hS k hk ih)
theorem Yg (hS:aM t) (k:Nat) (hk:k<t.aa.n) (ih:ae 75 0 (Go.V.bA [] (.a (jO t 0 1)) [bV t.ins,fb t.aa]) (af 75 8) (oG t (k+1))):∀ j,j<=(t.aa.get k).frames.n->ae 75 0 (Go.V.bA [] (.a (jO t 0 1)) [bV t.ins,fb t.aa]) (af 75 12) (vm t k j):=by
 have hB:(t.aa.get k).frames.n<=1000:=(hS.ex k hk).frames
 refine aN (λj hj oH=>?_) ?_
 .refine aG (X:=vr) (stop:=jR) (OD _ _ t k j ?_)
  refine ag (λh0=>?_) (λh=>(dec_lt h hj).elim)
  exact ae.focus 4 j rfl hj (ae.lf (Eh t k j) (rc (rc (rc (rc (.cons (MQ) (rc .nil)))))) (Zy t hS k hk j hj oH))
 .refine aG (X:=vr) (stop:=jR) (OD _ _ t k _ ?_)
  refine ag (λh=>bq h) (λh=>?_)
  exact ae.lf (uS t k 0) (rc (rc (rc (rc (.cons (Ed) (rc .nil)))))) (XU t hS k hk ih 0 (bk _))
theorem ZM (hS:aM t) (k:Nat) (hk:k<t.aa.n) (ih:ae 75 0 (Go.V.bA [] (.a (jO t 0 1)) [bV t.ins,fb t.aa]) (af 75 8) (oG t (k+1))):ae 75 0 (Go.V.bA [] (.a (jO t 0 1)) [bV t.ins,fb t.aa]) (af 75 11) (D8 t k):=by
 refine aG (X:=vr) (stop:=jR) (ZK _ _ t k ?_)
 exact ae.lr (vm t k 0) (Yg t hS k hk ih 0 (bk _))
theorem at9 (hS:aM t) (k:Nat) (hk:k<t.aa.n) (ih:ae 75 0 (Go.V.bA [] (.a (jO t 0 1)) [bV t.ins,fb t.aa]) (af 75 8) (oG t (k+1))):ae 75 0 (Go.V.bA [] (.a (jO t 0 1)) [bV t.ins,fb t.aa]) (af 75 9) (KJ t k):=by
 refine aG (X:=vr) (stop:=jR) (aH2 _ _ t k ?_)
 refine ai (by grind [aC]) ?_
 refine ai (by simp_all) ?_
 refine ai (by simp_all) ?_
 refine ⟨R8 (t.aa.get k).frames (hS.ex k hk).frames,?_⟩
 refine ai (by simp_all) ?_
 refine ⟨Wz (t.aa.get k).az (hS.ex k hk).az,?_⟩
 refine ai (by simp_all) ?_
 refine ⟨R8 (t.aa.get k).frames (hS.ex k hk).frames,?_⟩
 refine ai (by simp_all) ?_
 refine ⟨Wz (t.aa.get k).az (hS.ex k hk).az,?_⟩
 refine ai (by simp_all) ?_
 exact ae.rename [0,1,2,3,5,6] rfl (ae.lf (D8 t k) (rc (rc (rc (rc (.cons (YV) (.cons (YV) .nil)))))) (ZM t hS k hk ih))
theorem aC7 (hS:aM t)   : ∀ k,k<=t.aa.n->ae 75 0 (Go.V.bA [] (.a (jO t 0 1)) [bV t.ins,fb t.aa]) (af 75 8) (oG t  k):=by
 have hB:t.aa.n<=1000:=hS.aa
 refine aN (λk hk oH=>?_) ?_
 .refine aG (X:=vr) (stop:=jR) (Wp _ _ t  k ?_)
  refine ag (λh0=>?_) (λh=>(dec_lt h hk).elim)
  exact ae.focus 3 k rfl hk (ae.lf (KJ t k) (rc (rc (rc (.cons (MQ) .nil)))) (at9 t hS k hk oH))
 .refine aG (X:=vr) (stop:=jR) (Wp _ _ t  _ ?_)
  refine ag (λh=>bq h) (λh=>?_)
  exact ⟨[2,3],.a (jO t 0 1),_,_,rfl,(rc (.cons (Ed) .nil)),⟨2,aQ rfl,aQ rfl,rfl,rfl,aX.refl _,⟨rfl,⟨rfl,trivial⟩⟩⟩⟩
theorem aI2 (hS:aM t)   : ∀ k,k<=t.ins.n->ae 75 0 (Go.V.bA [] (.a (jO t 0 1)) [bV t.ins,fb t.aa]) (af 75 3) (zg t  k):=by
 have hB:t.ins.n<=1000:=hS.ins
 refine aN (λk hk oH=>?_) ?_
 .refine aG (X:=vr) (stop:=jR) (RL _ _ t  k ?_)
  refine ag (λh0=>?_) (λh=>(dec_lt h hk).elim)
  exact ae.focus 2 k rfl hk (ae.lf (Mh t k) (rc (rc (.cons (MQ) (rc .nil)))) (ax5 t hS k hk oH))
 .refine aG (X:=vr) (stop:=jR) (RL _ _ t  _ ?_)
  refine ag (λh=>bq h) (λh=>?_)
  exact ae.lf (oG t 0) (rc (rc (.cons (Ed) (.cons (YV) .nil)))) (aC7 t hS 0 (bk _))
theorem aE9 (hS:aM t):ae 75 0 (Go.V.bA [] (.a (jO t 0 1)) [bV t.ins,fb t.aa]) (af 75 2) (Kj t):=by
 refine aG (X:=vr) (stop:=jR) (aH7 _ _ t ?_)
 exact ae.lr (zg t 0) (aI2 t hS 0 (bk _))
theorem aW0 (hS:aM t):LC 75 [aO t] [] (.a (jO t 0 1)) [bV t.ins,fb t.aa]:=by
 refine cM bo1 (aQ (by kernel_rfl)) (cY (X:=vr) (stop:=jR) (bC6 _ _ t ?_))
 refine ⟨Tv t.ins hS.ins,?_⟩
 refine ai (by exact dv _) ?_
 refine ⟨Vo t.aa hS.aa,?_⟩
 refine ai (by exact dv _) ?_
 refine ⟨Tv t.ins hS.ins,?_⟩
 refine ai (by exact dv _) ?_
 refine ⟨Vo t.aa hS.aa,?_⟩
 refine ai (by exact dv _) ?_
 exact ae.lf (Kj t) (rc (rc (.cons (YV) (rc .nil)))) (aE9 t hS)
end
open Go Go.V
section
def F17:FuncId->List D->List ah->Out:=ext F46 [(46,λds rs=>(.a (jO (dO ds 0) rs.length (rs.length+1)),[],[cm (dO ds 0).ins,eV (dO ds 0).aa])),(48,λ_ _=>(fM 1 cA BU,[],[]))]
def ln:eU:={ F:=F17,S:=qy }
def QB (q0 q1 q2:Int):ah:=.box [ci q0,ci q1,ci q2]
def ZT:ah:=.box [ci 0,ci 0,kY,kY]
section
variable (t:ak) (k:Nat) (l:List Fc)
def Zi:ah:=.bo 52 14 t.ins.n (λi=>cn (t.ins.get i)) (some (k,l))
def DY:ah:=.bo 57 3 t.aa.n (λi=>cL (t.aa.get i)) (some (k,l))
def foI (x:au):List Fc:=gu (cn x) 14 0
def Jr (x:aq):List Fc:=gu (cL x) 3 0
def mj (p q m:Nat):ah:=.box [.im (iI t.place.fn),.im (iI t.place.line),.sa p m,.sa q t.aa.n]
end
end
def e7:Nat->Bool:=λi=>Nat.beq i 2||Nat.beq i 6||Nat.beq i 8||Nat.beq i 10||Nat.beq i 12||Nat.beq i 14||Nat.beq i 16||Nat.beq i 18||Nat.beq i 20||Nat.beq i 22||Nat.beq i 24||Nat.beq i 26||Nat.beq i 29||Nat.beq i 30||Nat.beq i 32||Nat.beq i 33||Nat.beq i 35||Nat.beq i 37||Nat.beq i 38
theorem bz5:Fn 17:={}
section
variable (aj:Int) (L:LP) (ax:Int) (QD:D->Prop) (t:ak) (aJ q0:Int) (aZ:ak) (q1:Int) (bR:Nat) (q2:Int) (k m e:Nat) (x3:ah) (gE:Nat->Nat->O)
abbrev fH:ah:=.box [(ci aj),(ci ax),(ci aJ)]
abbrev fS (aj:ak):List C:=[(ci aj.1.1),(ci aj.1.2),(.sa 3 aj.2.1),(.sa 4 aj.3.1)]
abbrev iK (aj:ak):ah:=.bo 57 3 aj.3.1 (λi=>cL (aj.3.2 i)) .none
abbrev mC:eQ:=(4,((.c (.rt 2 0 0)),[]))
theorem br6 (h:(LC 46 [(ez t)] [(aU t),(fH q0 q1 q2),ch] (.a (fS t)) [(aU t),(fH q0 q1 q2),ch,(jt t),(iK t)]/\L (af 17 2) ⟨[fV,mC,nl],[(aU t),(fH q0 q1 q2),ch,(jt t),(iK t),(.box (fS t))],[]⟩)):ep ln 17 e7 L (bf QD) [aO t,.a [ci q0,ci q1,ci q2]] []:=km h
def QV  : VS:=⟨[(3,(.c (.rt 1 0 0)),[]),(4,(.c (.rt 2 0 0)),[]),(5,(.c (.rt 5 0 0)),[])],[(aU t),(fH q0 q1 q2),ch,(jt t),(iK t),(.box (fS t))],[]⟩
abbrev kU:eQ:=(7,((.c (.im (.v (.pointer .none)))),[]))
theorem aI4 (h:(LC 47 [(int q1),(gY t)] [] (int (ed q1 (Int.ofNat t.2.1))) []/\nd (bQ (ed q1 (Int.ofNat t.2.1)) t.2.1) (br (decide ((↑t.3.1:Int)>0)) ((LC 47 [(int q1),(JY t)] [] (int (ed q1 (Int.ofNat t.3.1))) []/\nd (bQ (ed q1 (Int.ofNat t.3.1)) t.3.1) (L (af 17 6) ⟨[fV,mC,nl,(6,((.c (.rt 3 ((ed q1 (Int.ofNat t.2.1)).toNat) 0)),[])),(7,((.c (.rt 4 ((ed q1 (Int.ofNat t.3.1)).toNat) 0)),[]))],[(aU t),(fH q0 q1 q2),ch,(jt t),(iK t),(.box (fS t)),.dead,.dead],[]⟩))) (L (af 17 6) ⟨[fV,mC,nl,(6,((.c (.rt 3 ((ed q1 (Int.ofNat t.2.1)).toNat) 0)),[])),kU,(22,((bool false),[]))],[(aU t),(fH q0 q1 q2),ch,(jt t),(iK t),(.box (fS t)),.dead],[]⟩)))):b5 ln 17 e7 L (bf QD) 2 (QV t q0 q1 q2 ):=km h
abbrev qn:eQ:=(3,.c (.rt 0 0 0),[])
abbrev ji:eQ:=(4,.c (.rt 1 0 0),[])
def JV:VS:=⟨[qn,ji,lU,(6,.c (.rt 2 k 0),[]),(7,.c (.rt 3 e 0),[])],[QB q0 q1 q2,ZT,Zi t k (foI (t.ins.get k)),DY t e (Jr (t.aa.get e)),mj t 2 3 t.ins.n],[]⟩
abbrev Gf:D:=int (ed aj (Int.ofNat 14))
abbrev gz (aj:Nat):eQ:=(6,((.c (.rt 2 aj 0)),[]))
abbrev jr (aj:Nat):eQ:=(7,((.c (.rt 3 aj 0)),[]))
abbrev fT:eQ:=(34,((Gf aj),[]))
abbrev av5 (aj:ak) (ax:Nat):ah:=.bo 52 14 aj.2.1 (λi=>cn (aj.2.2 i)) (.some (ax,[(mJ aj ax),(mO aj ax),(na aj ax),(l9 aj ax),(nc aj ax),(.o (qh aj ax)),(mP aj ax),(mM aj ax),(.c (kI aj ax)),(.o (pG aj ax)),(lQ aj ax),(lE aj ax),(nr aj ax),(.c (kM aj ax))]))
abbrev Kx (aj:ak) (ax:Nat):ah:=.bo 57 3 aj.3.1 (λi=>cL (aj.3.2 i)) (.some (ax,[(.o (vL aj ax)),(.o (vX aj ax)),(.c (oD aj ax))]))
abbrev tL (cW:Nat):List ah:=[(fH aj ax aJ),ch,(av5 aZ bR),(Kx aZ cW),(eY aZ)]
theorem at7 (h:(LC 47 [(int q0),(int 14)] [] (Gf q0) []/\br (ed q0 (Int.ofNat 14)==0) (L (af 17 8) ⟨[dc,bK,di,(gz k),(jr e),(fT q0),(35,((bool true),[]))],(tL q0 q1 q2 t k e),[]⟩) (br (ed q0 (Int.ofNat 14)==1) (L (af 17 10) ⟨[dc,bK,di,(gz k),(jr e),(fT q0),(43,((bool true),[]))],(tL q0 q1 q2 t k e),[]⟩) (br (ed q0 (Int.ofNat 14)==2) (L (af 17 12) ⟨[dc,bK,di,(gz k),(jr e),(fT q0),(50,((bool true),[]))],(tL q0 q1 q2 t k e),[]⟩) (br (ed q0 (Int.ofNat 14)==3) (L (af 17 14) ⟨[dc,bK,di,(gz k),(jr e),(fT q0),(57,((bool true),[]))],(tL q0 q1 q2 t k e),[]⟩) (br (ed q0 (Int.ofNat 14)==4) (L (af 17 16) ⟨[dc,bK,di,(gz k),(jr e),(fT q0),(64,((bool true),[]))],(tL q0 q1 q2 t k e),[]⟩) (br (ed q0 (Int.ofNat 14)==5) (L (af 17 18) ⟨[dc,bK,di,(gz k),(jr e),(fT q0),(77,((bool true),[]))],(tL q0 q1 q2 t k e),[]⟩) (br (ed q0 (Int.ofNat 14)==6) (L (af 17 20) ⟨[dc,bK,di,(gz k),(jr e),(fT q0),(87,((bool true),[]))],(tL q0 q1 q2 t k e),[]⟩) (br (ed q0 (Int.ofNat 14)==7) (L (af 17 22) ⟨[dc,bK,di,(gz k),(jr e),(fT q0),(100,((bool true),[]))],(tL q0 q1 q2 t k e),[]⟩) (br (ed q0 (Int.ofNat 14)==8) (L (af 17 24) ⟨[dc,bK,di,(gz k),(jr e),(fT q0),(117,((bool true),[]))],(tL q0 q1 q2 t k e),[]⟩) (br (ed q0 (Int.ofNat 14)==9) (L (af 17 26) ⟨[dc,bK,di,(jr e),(fT q0),(129,((bool true),[]))],(tL q0 q1 q2 t k e),[]⟩) (br (ed q0 (Int.ofNat 14)==10) (L (af 17 29) ⟨[dc,bK,di,(jr e),(fT q0),(138,((bool true),[]))],(tL q0 q1 q2 t k e),[]⟩) (br (ed q0 (Int.ofNat 14)==11) (L (af 17 32) ⟨[dc,bK,di,(jr e),(fT q0),(159,((bool true),[]))],(tL q0 q1 q2 t k e),[]⟩) (br (ed q0 (Int.ofNat 14)==12) (L (af 17 35) ⟨[dc,bK,di,(fT q0),(177,((bool true),[]))],(tL q0 q1 q2 t k e),[]⟩) (br (ed q0 (Int.ofNat 14)==13) (L (af 17 37) ⟨[dc,bK,di,(189,((bool true),[]))],(tL q0 q1 q2 t k e),[]⟩) (L (af 17 38) ⟨[dc,bK,di,(189,((bool false),[]))],(tL q0 q1 q2 t k e),[]⟩)))))))))))))))):b5 ln 17 e7 L (bf QD) 6 (JV t q0 q1 q2 k e):=km h
abbrev sQ:eQ:=(5,(.c (.rt 4 0 0)),[])
abbrev sV (aj:Nat):eQ:=(6,(.c (.rt 2 aj 0)),[])
abbrev tG:eQ:=(34,(Gf aj),[])
abbrev sO (cW:ah):List ah:=[(fH aj ax aJ),ch,(av5 aZ bR),cW,(eY aZ)]
def Fy:VS:=⟨[jZ,lX,sQ,(sV k),(tG q0),(35,(bool true),[])],(sO q0 q1 q2 t k x3),[]⟩
theorem aJ3 (h:(LC 47 [(int q2),(int 23)] [] (int (ed q2 (Int.ofNat 23))) []/\nd (k.beq k) (L (af 17 38) ⟨[bK,di],[(fH q0 q1 q2),ch,(.bo 52 14 t.2.1 (λi=>cn (t.2.2 i)) (.some (k,[(.c (ci (ed q2 (Int.ofNat 23)))),(mO t k),(na t k),(l9 t k),(nc t k),(.o (qh t k)),(mP t k),(mM t k),(.c (kI t k)),(.o (pG t k)),(lQ t k),(lE t k),(nr t k),(.c (kM t k))]))),x3,(eY t)],[]⟩))):b5 ln 17 e7 L (bf QD) 8 (Fy t q0 q1 q2 k x3):=km h
def yt:VS:=⟨[jZ,lX,sQ,(sV k),(tG q0),(43,(bool true),[])],(sO q0 q1 q2 t k x3),[]⟩
theorem ad7 (h:nd (k.beq k) (L (af 17 38) ⟨[bK,di],[(fH q0 q1 q2),ch,(.bo 52 14 t.2.1 (λi=>cn (t.2.2 i)) (.some (k,[(mJ t k),(.c (ci q2)),(na t k),(l9 t k),(nc t k),(.o (qh t k)),(mP t k),(mM t k),(.c (kI t k)),(.o (pG t k)),(lQ t k),(lE t k),(nr t k),(.c (kM t k))]))),x3,(eY t)],[]⟩)):b5 ln 17 e7 L (bf QD) 10 (yt t q0 q1 q2 k x3):=km h
def yH:VS:=⟨[jZ,lX,sQ,(sV k),(tG q0),(50,(bool true),[])],(sO q0 q1 q2 t k x3),[]⟩
theorem Zr (h:nd (k.beq k) (L (af 17 38) ⟨[bK,di],[(fH q0 q1 q2),ch,(.bo 52 14 t.2.1 (λi=>cn (t.2.2 i)) (.some (k,[(mJ t k),(mO t k),(.c (ci q2)),(l9 t k),(nc t k),(.o (qh t k)),(mP t k),(mM t k),(.c (kI t k)),(.o (pG t k)),(lQ t k),(lE t k),(nr t k),(.c (kM t k))]))),x3,(eY t)],[]⟩)):b5 ln 17 e7 L (bf QD) 12 (yH t q0 q1 q2 k x3):=km h
def yh:VS:=⟨[jZ,lX,sQ,(sV k),(tG q0),(57,(bool true),[])],(sO q0 q1 q2 t k x3),[]⟩
theorem ac7 (h:nd (k.beq k) (L (af 17 38) ⟨[bK,di],[(fH q0 q1 q2),ch,(.bo 52 14 t.2.1 (λi=>cn (t.2.2 i)) (.some (k,[(mJ t k),(mO t k),(na t k),(l9 t k),(.c (ci q2)),(.o (qh t k)),(mP t k),(mM t k),(.c (kI t k)),(.o (pG t k)),(lQ t k),(lE t k),(nr t k),(.c (kM t k))]))),x3,(eY t)],[]⟩)):b5 ln 17 e7 L (bf QD) 14 (yh t q0 q1 q2 k x3):=km h
def xZ:VS:=⟨[jZ,lX,sQ,(sV k),(tG q0),(64,(bool true),[])],(sO q0 q1 q2 t k x3),[]⟩
theorem XL (h:(LC 47 [(int q2),(int (IntKind.i64.wrap ((↑t.3.1:Int)+2)))] [] (int (ed q2 (aI [D.c (C.im (I.v (Value.int IntKind.i64 q2))),D.c (C.im (I.v (Value.int IntKind.i64 (IntKind.i64.wrap ((↑t.3.1:Int)+2)))))] 1))) []/\nd (k.beq k) (L (af 17 38) ⟨[bK,di],[(fH q0 q1 q2),ch,(.bo 52 14 t.2.1 (λi=>cn (t.2.2 i)) (.some (k,[(mJ t k),(mO t k),(na t k),(l9 t k),(nc t k),(.o (qh t k)),(mP t k),(mM t k),(.c (kI t k)),(.o (pG t k)),(lQ t k),(lE t k),(.c (ci (IntKind.i64.wrap (ed q2 (aI [D.c (C.im (I.v (Value.int IntKind.i64 q2))),D.c (C.im (I.v (Value.int IntKind.i64 (IntKind.i64.wrap ((↑t.3.1:Int)+2)))))] 1)-1)))),(.c (kM t k))]))),x3,(eY t)],[]⟩))):b5 ln 17 e7 L (bf QD) 16 (xZ t q0 q1 q2 k x3):=km h
def yq:VS:=⟨[jZ,lX,sQ,(sV k),(tG q0),(77,(bool true),[])],(sO q0 q1 q2 t k x3),[]⟩
theorem Yw (h:nd (k.blt t.2.1) (nd (k.beq k) (nd (k.beq k) (L (af 17 38) ⟨[bK,di],[(fH q0 q1 q2),ch,(.bo 52 14 t.2.1 (λi=>cn (t.2.2 i)) (.some (k,[(mJ t k),(mO t k),(na t k),(l9 t k),(nc t k),(.o (qh t k)),(mP t k),(mM t k),(.c (kI t k)),(.o (pG t k)),(lQ t k),(lE t k),(nr t k),(.c (.im (.v (.bool (!(t.2.2 k).11)))))]))),x3,(eY t)],[]⟩)))):b5 ln 17 e7 L (bf QD) 18 (yq t q0 q1 q2 k x3):=km h
def yu:VS:=⟨[qn,ji,lU,(6,.c (.rt 2 k 0),[])],[QB q0 q1 q2,ZT,.bo 52 14 t.ins.n (λi=>cn (t.ins.get i)) (some (k,setAt (foI (t.ins.get k)) 5 (.c (.sa 5 (t.ins.get k).args.n)))),x3,mj t 2 3 t.ins.n,hZ (t.ins.get k).args],[]⟩
theorem Z7 (h:nd (k.blt t.2.1) (nd (k.beq k) (nd (cw ((t.2.2 k).6.1+1) 8) (nd ((t.2.2 k).6.1.beq (t.2.2 k).6.1) (nd (k.beq k) (nd (k.blt t.2.1) (nd (k.beq k) (nd (cw ((t.2.2 k).6.1+1) 8) (nd ((t.2.2 k).6.1.beq (t.2.2 k).6.1) (nd (k.beq k) (L (af 17 38) ⟨[bK,di],[(fH q0 q1 q2),ch,(.bo 52 14 t.2.1 (λi=>cn (t.2.2 i)) (.some (k,[(mJ t k),(mO t k),(na t k),(l9 t k),(nc t k),(.c (.sa 7 (.succ ((t.2.2 k).6.1)))),(mP t k),(mM t k),(.c (kI t k)),(.o (pG t k)),(lQ t k),(lE t k),(nr t k),(.c (kM t k))]))),x3,(eY t),.dead,(.row 3 1 1 [(ci q2)]),(.arr 3 1 ((t.2.2 k).6.1+1) (fZ (t.2.2 k).6.1 (λi=>bn ((t.2.2 k).6.2 i)) (1,flat 1 [I.v (Value.int IntKind.i64 q2)]).snd))],[]⟩))))))))))):b5 ln 17 e7 L (bf QD) 20 (yu t q0 q1 q2 k x3):=km h
def yc:VS:=⟨[qn,ji,lU,(6,.c (.rt 2 k 0),[])],[QB q0 q1 q2,ZT,.bo 52 14 t.ins.n (λi=>cn (t.ins.get i)) (some (k,setAt (foI (t.ins.get k)) 9 (.c (.sa 5 (t.ins.get k).names.n)))),x3,mj t 2 3 t.ins.n,P0 (t.ins.get k).names],[]⟩
abbrev EL:D:=int (ed aj (Int.ofNat 3))
abbrev az3 (aj:ak) (ax:Nat) (aJ:Int) (aZ:LP) (bR cW:Int) (de:ah):Prop:=nd (cw ((aj.2.2 ax).8.1+1) 16) (nd ((aj.2.2 ax).8.1.beq (aj.2.2 ax).8.1) (nd (ax.beq ax) (nd (ax.blt aj.2.1) (nd (ax.beq ax) ((LC 47 [(int aJ),(int 3)] [] (EL aJ) []/\nd (bQ (ed aJ (Int.ofNat 3)) 3) (br ((ed aJ (Int.ofNat 3)).toNat.beq 0) (nd (cw ((aj.2.2 ax).8.1+1) 16) (nd ((aj.2.2 ax).8.1.beq (aj.2.2 ax).8.1) (nd (ax.beq ax) (aZ (af 17 38) ⟨[(4,((.c (.rt 1 0 0)),[])),(5,((.c (.rt 4 0 0)),[]))],[(.box [(ci bR),(ci cW),(ci aJ)]),ch,(.bo 52 14 aj.2.1 (λi=>cn (aj.2.2 i)) (.some (ax,[(.c (ci ((aj.2.2 ax).1))),(.c (ci ((aj.2.2 ax).2))),(.c (ci ((aj.2.2 ax).3))),(.c (ci ((aj.2.2 ax).4))),(.c (ci ((aj.2.2 ax).5))),(.o (.ar 3 1 ((aj.2.2 ax).6.1) (λi=>bn ((aj.2.2 ax).6.2 i)))),(.c (ci ((aj.2.2 ax).7.1))),(.c (ci ((aj.2.2 ax).7.2))),(.c (.im (.v (.string ((aj.2.2 ax).7.3))))),(.c (.sa 9 (.succ ((aj.2.2 ax).8.1)))),(.c (ci ((aj.2.2 ax).9.1))),(.c (ci ((aj.2.2 ax).9.2))),(.c (ci ((aj.2.2 ax).10))),(.c (.im (.v (.bool ((aj.2.2 ax).11)))))]))),de,(.box [(ci aj.1.1),(ci aj.1.2),(.sa 2 aj.2.1),(.sa 3 aj.3.1)]),.dead,(.row 9 1 3 [(.im (.v (.string ({ data := #[120] })))),(.im (.v (.string ({ data := #[122] })))),(.im (.v (.string ((ByteArray.mk #[])))))]),.dead,(.row 9 1 1 [(.im (.v (.string ({ data := #[120] }))))]),(.arr 9 1 ((aj.2.2 ax).8.1+1) (fZ (aj.2.2 ax).8.1 (λi=>cA ((aj.2.2 ax).8.2 i)) (1,flat 1 [I.v (Value.string { data := #[120] })]).snd))],[]⟩)))) (br ((ed aJ (Int.ofNat 3)).toNat.beq 1) (nd (cw ((aj.2.2 ax).8.1+1) 16) (nd ((aj.2.2 ax).8.1.beq (aj.2.2 ax).8.1) (nd (ax.beq ax) (aZ (af 17 38) ⟨[(4,((.c (.rt 1 0 0)),[])),(5,((.c (.rt 4 0 0)),[]))],[(.box [(ci bR),(ci cW),(ci aJ)]),ch,(.bo 52 14 aj.2.1 (λi=>cn (aj.2.2 i)) (.some (ax,[(.c (ci ((aj.2.2 ax).1))),(.c (ci ((aj.2.2 ax).2))),(.c (ci ((aj.2.2 ax).3))),(.c (ci ((aj.2.2 ax).4))),(.c (ci ((aj.2.2 ax).5))),(.o (.ar 3 1 ((aj.2.2 ax).6.1) (λi=>bn ((aj.2.2 ax).6.2 i)))),(.c (ci ((aj.2.2 ax).7.1))),(.c (ci ((aj.2.2 ax).7.2))),(.c (.im (.v (.string ((aj.2.2 ax).7.3))))),(.c (.sa 9 (.succ ((aj.2.2 ax).8.1)))),(.c (ci ((aj.2.2 ax).9.1))),(.c (ci ((aj.2.2 ax).9.2))),(.c (ci ((aj.2.2 ax).10))),(.c (.im (.v (.bool ((aj.2.2 ax).11)))))]))),de,(.box [(ci aj.1.1),(ci aj.1.2),(.sa 2 aj.2.1),(.sa 3 aj.3.1)]),.dead,(.row 9 1 3 [(.im (.v (.string ({ data := #[120] })))),(.im (.v (.string ({ data := #[122] })))),(.im (.v (.string ((ByteArray.mk #[])))))]),.dead,(.row 9 1 1 [(.im (.v (.string ({ data := #[122] }))))]),(.arr 9 1 ((aj.2.2 ax).8.1+1) (fZ (aj.2.2 ax).8.1 (λi=>cA ((aj.2.2 ax).8.2 i)) (1,flat 1 [I.v (Value.string { data := #[122] })]).snd))],[]⟩)))) (br ((ed aJ (Int.ofNat 3)).toNat.beq 2) (nd (cw ((aj.2.2 ax).8.1+1) 16) (nd ((aj.2.2 ax).8.1.beq (aj.2.2 ax).8.1) (nd (ax.beq ax) (aZ (af 17 38) ⟨[(4,((.c (.rt 1 0 0)),[])),(5,((.c (.rt 4 0 0)),[]))],[(.box [(ci bR),(ci cW),(ci aJ)]),ch,(.bo 52 14 aj.2.1 (λi=>cn (aj.2.2 i)) (.some (ax,[(.c (ci ((aj.2.2 ax).1))),(.c (ci ((aj.2.2 ax).2))),(.c (ci ((aj.2.2 ax).3))),(.c (ci ((aj.2.2 ax).4))),(.c (ci ((aj.2.2 ax).5))),(.o (.ar 3 1 ((aj.2.2 ax).6.1) (λi=>bn ((aj.2.2 ax).6.2 i)))),(.c (ci ((aj.2.2 ax).7.1))),(.c (ci ((aj.2.2 ax).7.2))),(.c (.im (.v (.string ((aj.2.2 ax).7.3))))),(.c (.sa 9 (.succ ((aj.2.2 ax).8.1)))),(.c (ci ((aj.2.2 ax).9.1))),(.c (ci ((aj.2.2 ax).9.2))),(.c (ci ((aj.2.2 ax).10))),(.c (.im (.v (.bool ((aj.2.2 ax).11)))))]))),de,(.box [(ci aj.1.1),(ci aj.1.2),(.sa 2 aj.2.1),(.sa 3 aj.3.1)]),.dead,(.row 9 1 3 [(.im (.v (.string ({ data := #[120] })))),(.im (.v (.string ({ data := #[122] })))),(.im (.v (.string ((ByteArray.mk #[])))))]),.dead,(.row 9 1 1 [(.im (.v (.string ((ByteArray.mk #[])))))]),(.arr 9 1 ((aj.2.2 ax).8.1+1) (fZ (aj.2.2 ax).8.1 (λi=>cA ((aj.2.2 ax).8.2 i)) (1,flat 1 [I.v (Value.string (ByteArray.mk #[]))]).snd))],[]⟩)))) (False))))))))))
theorem Zh (h:nd (k.blt t.2.1) (nd (k.beq k) ((LC 47 [(int q2),(int 3)] [] (EL q2) []/\nd (bQ (ed q2 (Int.ofNat 3)) 3) (br ((ed q2 (Int.ofNat 3)).toNat.beq 0) (az3 t k q2 L q0 q1 x3) (br ((ed q2 (Int.ofNat 3)).toNat.beq 1) (az3 t k q2 L q0 q1 x3) (br ((ed q2 (Int.ofNat 3)).toNat.beq 2) (az3 t k q2 L q0 q1 x3) (False)))))))):b5 ln 17 e7 L (bf QD) 22 (yc t q0 q1 q2 k x3):=km h
def yb:VS:=⟨[jZ,lX,sQ,(sV k),(tG q0),(117,(bool true),[])],(sO q0 q1 q2 t k x3),[]⟩
theorem XS (h:(LC 47 [(int q2),(int 8)] [] (int (ed q2 (Int.ofNat 8))) []/\(LC 47 [(int q2),(int 3)] [] (EL q2) []/\nd (k.beq k) ((LC 47 [(int q2),(int 8)] [] (int (ed q2 (Int.ofNat 8))) []/\(LC 47 [(int q2),(int 3)] [] (EL q2) []/\nd (k.beq k) (L (af 17 38) ⟨[bK,di],[(fH q0 q1 q2),ch,(.bo 52 14 t.2.1 (λi=>cn (t.2.2 i)) (.some (k,[(mJ t k),(mO t k),(na t k),(l9 t k),(nc t k),(.o (qh t k)),(.c (ci (ed q2 (Int.ofNat 8)))),(.c (ci (ed q2 (Int.ofNat 3)))),(.c dH),(.o (pG t k)),(lQ t k),(lE t k),(nr t k),(.c (kM t k))]))),x3,(eY t),.dead,.dead],[]⟩))))))):b5 ln 17 e7 L (bf QD) 24 (yb t q0 q1 q2 k x3):=km h
abbrev K2 (aj:Nat):a8:=[qn,ji,lU,(7,.c (.rt 3 aj 0),[])]
abbrev JR (aj:Nat) (ax aJ aZ:Int) (bR:ak):VS:=⟨(K2 aj),[QB ax aJ aZ,ZT,cm bR.ins,DY bR aj (Jr (bR.aa.get aj)),mj bR 2 3 bR.ins.n],[]⟩
def Ey (k e:Nat):VS:=(JR e q0 q1 q2 t)
theorem ZA (h:nd (e.beq e) (L (af 17 38) ⟨[bK,di],[(fH q0 q1 q2),ch,(jt t),(.bo 57 3 t.3.1 (λi=>cL (t.3.2 i)) (.some (e,[(.o (vL t e)),(.o (vX t e)),(.c (ci q2))]))),(eY t)],[]⟩)):b5 ln 17 e7 L (bf QD) 26 (Ey t q0 q1 q2 k e):=km h
def Dp (k e:Nat):VS:=(JR e q0 q1 q2 t)
theorem ag1 (h:L (af 17 30) ⟨[dc,bK,di,(jr e),(141,((bool true),[]))],[(fH q0 q1 q2),ch,(jt t),(Kx t e),(eY t)],[]⟩):b5 ln 17 e7 L (bf QD) 29 (Dp t q0 q1 q2 k e):=km h
def Fl:VS:=⟨(K2 e),[QB q0 q1 q2,ZT,cm t.ins,.bo 57 3 t.aa.n (λi=>cL (t.aa.get i)) (some (e,setAt (Jr (t.aa.get e)) 0 (.c (.sa 5 (t.aa.get e).frames.n)))),mj t 2 3 t.ins.n,.bo 92 3 (t.aa.get e).frames.n (λi=>dA ((t.aa.get e).frames.get i)) (some (0,setAt (gu (dA ((t.aa.get e).frames.get 0)) 3 0) 2 (.c (.sa 6 ((t.aa.get e).frames.get 0).vars.n)))),hZ ((t.aa.get e).frames.get 0).vars],[]⟩
theorem XM (h:nd (e.blt t.3.1) (nd (e.beq e) (nd (e.blt t.3.1) (nd (e.beq e) (nd (bQ 0 (t.3.2 e).1.1) (nd (Nat.blt 0 (t.3.2 e).1.1) (nd (cw (((t.3.2 e).1.2 0).3.1+1) 8) (nd (((t.3.2 e).1.2 0).3.1.beq ((t.3.2 e).1.2 0).3.1) (nd (bQ 0 (t.3.2 e).1.1) (nd (e.blt t.3.1) (nd (e.beq e) (nd (e.blt t.3.1) (nd (e.beq e) (nd (bQ 0 (t.3.2 e).1.1) (nd (Nat.blt 0 (t.3.2 e).1.1) (nd (cw (((t.3.2 e).1.2 0).3.1+1) 8) (nd (((t.3.2 e).1.2 0).3.1.beq ((t.3.2 e).1.2 0).3.1) (nd (bQ 0 (t.3.2 e).1.1) (L (af 17 38) ⟨[bK,di],[(fH q0 q1 q2),ch,(jt t),(.bo 57 3 t.3.1 (λi=>cL (t.3.2 i)) (.some (e,[(.c (.sa 5 ((t.3.2 e).1.1))),(.o (vX t e)),(.c (oD t e))]))),(eY t),(.bo 92 3 ((t.3.2 e).1.1) (λi=>dA ((t.3.2 e).1.2 i)) (.some (0,[(.c (ci (((t.3.2 e).1.2 0).1))),(.c (ci (((t.3.2 e).1.2 0).2))),(.c (.sa 8 (.succ (((t.3.2 e).1.2 0).3.1))))]))),.dead,(.row 3 1 1 [(ci q2)]),(.arr 3 1 (((t.3.2 e).1.2 0).3.1+1) (fZ ((t.3.2 e).1.2 0).3.1 (λi=>bn (((t.3.2 e).1.2 0).3.2 i)) (1,flat 1 [I.v (Value.int IntKind.i64 q2)]).snd))],[]⟩))))))))))))))))))):b5 ln 17 e7 L (bf QD) 30 (Fl t q0 q1 q2 e):=km h
def FR (k e:Nat):VS:=(JR e q0 q1 q2 t)
theorem YO (h:L (af 17 33) ⟨[dc,bK,di,(jr e),(162,((bool true),[]))],[(fH q0 q1 q2),ch,(jt t),(Kx t e),(eY t)],[]⟩):b5 ln 17 e7 L (bf QD) 32 (FR t q0 q1 q2 k e):=km h
def EZ:VS:=⟨(K2 e),[QB q0 q1 q2,ZT,cm t.ins,.bo 57 3 t.aa.n (λi=>cL (t.aa.get i)) (some (e,setAt (Jr (t.aa.get e)) 1 (.c (.sa 5 (t.aa.get e).az.n)))),mj t 2 3 t.ins.n,YS (t.aa.get e).az],[]⟩
theorem Zw (h:nd (e.blt t.3.1) (nd (e.beq e) ((LC 48 [] [] (.c ph) []/\nd (cw ((t.3.2 e).2.1+1) 64) (nd ((t.3.2 e).2.1.beq (t.3.2 e).2.1) (nd (e.beq e) (nd (e.blt t.3.1) (nd (e.beq e) ((LC 48 [] [] (.c ph) []/\nd (cw ((t.3.2 e).2.1+1) 64) (nd ((t.3.2 e).2.1.beq (t.3.2 e).2.1) (nd (e.beq e) (L (af 17 38) ⟨[bK,di],[(fH q0 q1 q2),ch,(jt t),(.bo 57 3 t.3.1 (λi=>cL (t.3.2 i)) (.some (e,[(.o (vL t e)),(.c (.sa 9 (.succ ((t.3.2 e).2.1)))),(.c (oD t e))]))),(eY t),.dead,.dead,(.row 3 1 2 [(ci (-1)),(ci 0)]),(.row 59 4 1 [(ci q2),(ci 0),ph,(.sa 7 2)]),(.bo 59 4 ((t.3.2 e).2.1+1) (λi=>jH ((t.3.2 e).2.2 i)) (.some (((t.3.2 e).2.1),[(.c (ci q2)),(.c (ci 0)),(.c ph),(.c (.sa 7 2))])))],[]⟩))))))))))))):b5 ln 17 e7 L (bf QD) 33 (EZ t q0 q1 q2 e):=km h
def ym:VS:=⟨[qn,ji,lU],[QB q0 q1 q2,ZT,cm t.ins,x3,mj t 2 3 t.ins.n],[]⟩
theorem af6 (h:(LC 47 [(int q2),(gY t)] [] (int (ed q2 (Int.ofNat t.2.1))) []/\nd (Js (ed q2 (Int.ofNat t.2.1)) t.2.1) ((LC 47 [(int q2),(gY t)] [] (int (ed q2 (Int.ofNat t.2.1))) []/\nd (Js (ed q2 (Int.ofNat t.2.1)) t.2.1) (L (af 17 38) ⟨[bK,di],[(fH q0 q1 q2),ch,(jt t),x3,(.box [(ci t.1.1),(ci t.1.2),(.sa 2 ((ed q2 (Int.ofNat t.2.1)).toNat)),(.sa 3 t.3.1)]),.dead],[]⟩))))):b5 ln 17 e7 L (bf QD) 35 (ym t q0 q1 q2 x3):=km h
def yv:VS:=⟨[qn,ji,lU],[QB q0 q1 q2,ZT,cm t.ins,x3,mj t 2 3 t.ins.n],[]⟩
theorem Xr (h:L (af 17 38) ⟨[bK,di],[(fH q0 q1 q2),ch,(jt t),x3,(.box [(ci t.1.1),(ci q2),(.sa 2 t.2.1),(.sa 3 t.3.1)])],[]⟩):b5 ln 17 e7 L (bf QD) 37 (yv t q0 q1 q2 x3):=km h
def ei:VS:=⟨[ji,lU],[QB q0 q1 q2,ZT,cm t.ins,.bo 57 3 t.aa.n gE none,mj t 2 3 m],[]⟩
theorem af7 (h:QD (.a [(ci t.1.1),(ci t.1.2),(.im (.sl 14 m (λi j=>oI (cn (t.2.2 i) j)))),(.im (.sl 3 t.3.1 (λi j=>oI (gE i j))))])):b5 ln 17 e7 L (bf QD) 38 (ei t q0 q1 q2 m gE):=km h
end
section
def nt {α:Type} (s:Sq α) (x:α):Sq α:=⟨s.n+1,λi=>bif Nat.blt i s.n then s.get i else x⟩
section
variable (t:ak) (k e:Nat) (q1 q:Int)
def fD (x:au):ak:={ t with ins:=⟨t.ins.n,λi=>bif Nat.beq i k then x else t.ins.get i⟩ }
def ua (x:aq):ak:={ t with aa:=⟨t.aa.n,λi=>bif Nat.beq i k then x else t.aa.get i⟩ }
def ZH (s:Sq cK) (k:Nat) (x:cK):Sq cK:=⟨s.n,λi=>bif Nat.beq i k then x else s.get i⟩
def xzN:ByteArray:=bif Nat.beq k 0 then ⟨⟨[120]⟩⟩ else bif Nat.beq k 1 then ⟨⟨[122]⟩⟩ else ⟨⟨[]⟩⟩
def yT:Sq Int:=⟨2,λi=>bif Nat.beq i 0 then -1 else 0⟩
def bI:Nat:=(ed q1 (Int.ofNat t.ins.n)).toNat
def bE:Nat:=(ed q1 (Int.ofNat t.aa.n)).toNat
def Xx:ak:=fD t k { t.ins.get k with op:=ed q (Int.ofNat 23) }
def XY:ak:=fD t k { t.ins.get k with a:=q }
def Zg:ak:=fD t k { t.ins.get k with b:=q }
def YT:ak:=fD t k { t.ins.get k with n:=q }
def bt4:ak:=fD t k { t.ins.get k with exit:=IntKind.i64.wrap (ed q (IntKind.i64.wrap ((t.aa.n:Int)+2))-1) }
def Yf (q:Int):ak:=fD t k { t.ins.get k with once := !(t.ins.get k).once }
def Pk:ak:=fD t k { t.ins.get k with args:=nt (t.ins.get k).args q }
def W8:ak:=fD t k { t.ins.get k with names:=nt (t.ins.get k).names (xzN (ed q (Int.ofNat 3)).toNat) }
def O2:ak:=fD t k { t.ins.get k with k:=⟨ed q (Int.ofNat 8),ed q (Int.ofNat 3),⟨⟨[]⟩⟩⟩ }
def bt9:ak:=ua t e { t.aa.get e with back:=q }
def vZ:ak:=ua t e { t.aa.get e with frames:=ZH (t.aa.get e).frames 0 { (t.aa.get e).frames.get 0 with vars:=nt ((t.aa.get e).frames.get 0).vars q } }
def Az:ak:=ua t e { t.aa.get e with az:=nt (t.aa.get e).az ⟨q,0,BU,yT⟩ }
def af2:ak:={ t with ins:=⟨(ed q (Int.ofNat t.ins.n)).toNat,t.ins.get⟩ }
def Fo:ak:={ t with place:={ t.place with line:=q } }
def Xa (u:ak):ak:=bif decide ((t.aa.n:Int)>0) then u else t
def b8 (q0 q1 q2:Int):ak:=
 bif ed q0 (Int.ofNat 14)==0 then Xx t (bI t q1) q2 else
 bif ed q0 (Int.ofNat 14)==1 then XY t (bI t q1) q2 else
 bif ed q0 (Int.ofNat 14)==2 then Zg t (bI t q1) q2 else
 bif ed q0 (Int.ofNat 14)==3 then YT t (bI t q1) q2 else
 bif ed q0 (Int.ofNat 14)==4 then bt4 t (bI t q1) q2 else
 bif ed q0 (Int.ofNat 14)==5 then Yf t (bI t q1) q2 else
 bif ed q0 (Int.ofNat 14)==6 then Pk t (bI t q1) q2 else
 bif ed q0 (Int.ofNat 14)==7 then W8 t (bI t q1) q2 else
 bif ed q0 (Int.ofNat 14)==8 then O2 t (bI t q1) q2 else
 bif ed q0 (Int.ofNat 14)==9 then Xa t (bt9 t (bE t q1) q2) else
 bif ed q0 (Int.ofNat 14)==10 then Xa t (vZ t (bE t q1) q2) else
 bif ed q0 (Int.ofNat 14)==11 then Xa t (Az t (bE t q1) q2) else
 bif ed q0 (Int.ofNat 14)==12 then af2 t q2 else
 bif ed q0 (Int.ofNat 14)==13 then Fo t q2 else t
end
end
section
variable {t:ak} {k:Nat} {l:List Fc}
theorem Dv {i:Nat} (h:i≠k):Nat.beq i k=false:=by
 grind [Nat.eq_of_beq_eq_true]
theorem AX {x:au} (h:Hz (cn x) l 0):aY (Zi t k l) (cm (fD t k x).ins):=
 aY.unf (by show Hz (cn (bif Nat.beq k k then x else _)) l 0; simp_all) (λi hi qG j hj=>by
  show nV _ (cn (bif Nat.beq i k then x else _) j)
  rw [Dv qG]
  exact nV.refl _)
theorem bb1 {x:aq} (h:Hz (cL x) l 0):aY (DY t k l) (eV (ua t k x).aa):=
 aY.unf (by show Hz (cL (bif Nat.beq k k then x else _)) l 0; simp_all) (λi hi qG j hj=>by
  show nV _ (cL (bif Nat.beq i k then x else _) j)
  rw [Dv qG]
  exact nV.refl _)
theorem Te (x:au):∀ j,j<14->cD (oI (cn x j)) (gw x j)
 | 0,_=>cD.refl _
 | 1,_=>cD.refl _
 | 2,_=>cD.refl _
 | 3,_=>cD.refl _
 | 4,_=>cD.refl _
 | 5,_=>cD.refl _
 | 6,_=>cD.refl _
 | 7,_=>cD.refl _
 | 8,_=>cD.refl _
 | 9,_=>cD.refl _
 | 10,_=>cD.refl _
 | 11,_=>cD.refl _
 | 12,_=>cD.refl _
 | 13,_=>cD.refl _
 | n+14,h=>absurd h (by omega)
theorem KF (x:cK):∀ j,j<3->cD (oI (dA x j)) (dD x j)
 | 0,_=>cD.refl _
 | 1,_=>cD.refl _
 | 2,_=>cD.refl _
 | n+3,h=>absurd h (by omega)
theorem SO (x:cZ):∀ j,j<4->cD (oI (jH x j)) (ff x j)
 | 0,_=>cD.refl _
 | 1,_=>cD.refl _
 | 2,_=>cD.refl _
 | 3,_=>cD.refl _
 | n+4,h=>absurd h (by omega)
theorem Vk (x:aq):∀ j,j<3->cD (oI (cL x j)) (dQ x j)
 | 0,_=>cD.sl λi _ j hj=>KF _ j hj
 | 1,_=>cD.sl λi _ j hj=>SO _ j hj
 | 2,_=>cD.refl _
 | n+3,h=>absurd h (by omega)
theorem dI.im {x y:I} (h:cD x y):dI (.im x) (.im y):=λE av w v q=>h av w v q
theorem kR (a:Int) (m:Nat) (h0:0<m) (hm:m<=1000000):bQ (ed a (Int.ofNat m)) m=true/\0<=ed a (Int.ofNat m)/\(ed a (Int.ofNat m)).toNat<m:=by
 have e1:a.tmod (m:Int)<m:=Int.tmod_lt_of_pos _ (by omega)
 have e2 : -(m:Int)<a.tmod m:=by
  have:=Int.tmod_nonneg (a := -a) (b:=(m:Int))
  by_cases h:0<=a
  .have:=Int.tmod_nonneg (m:Int) h; omega
  .have h1:a.tmod m = -((-a).tmod m):=by simp_all
   have:=Int.tmod_lt_of_pos (-a) (b:=(m:Int)) (by omega)
   omega
 grind [ed,iT,aC]
def gX (t:ak):Nat->Nat->O:=λi=>cL (t.aa.get i)
theorem jn (t:ak):∀ i,i<t.aa.n->∀ j,j<3->cD (oI (gX t i j)) (dQ (t.aa.get i) j):=λi _ j hj=>Vk _ j hj
theorem MX {s:Sq Int} {q:Int}:∀ i,i<s.n+1->∀ j,j<1->cD (fZ s.n (λi=>bn (s.get i)) (flat 1 [I.v (Value.int IntKind.i64 q)]) i j) (bn ((nt s q).get i) j):=by
 intro i hi j hj
 have hj:j=0:=by omega
 subst hj
 show cD (Bool.rec (flat 1 [I.v (Value.int IntKind.i64 q)] (i-s.n) 0) (bn (s.get i) 0) (Nat.blt i s.n)) (bn (bif Nat.blt i s.n then s.get i else q) 0)
 cases hb:Nat.blt i s.n with
 | true=>exact cD.refl _
 | false=>
   have:¬ i<s.n:=λh=>by grind [Nat.blt_eq]
   rw [show i-s.n=0 by omega]
   exact cD.refl _
theorem zO {s:Sq ByteArray} {q:ByteArray}:∀ i,i<s.n+1->∀ j,j<1->cD (fZ s.n (λi=>cA (s.get i)) (flat 1 [I.v (Value.string q)]) i j) (cA ((nt s q).get i) j):=by
 intro i hi j hj
 have hj:j=0:=by omega
 subst hj
 show cD (Bool.rec (flat 1 [I.v (Value.string q)] (i-s.n) 0) (cA (s.get i) 0) (Nat.blt i s.n)) (cA (bif Nat.blt i s.n then s.get i else q) 0)
 cases hb:Nat.blt i s.n with
 | true=>exact cD.refl _
 | false=>
   have:¬ i<s.n:=λh=>by grind [Nat.blt_eq]
   rw [show i-s.n=0 by omega]
   exact cD.refl _
theorem bv0 {n:Nat} (h:n<3) (h0:Nat.beq n 0=false) (h1:Nat.beq n 1=false) (h2:Nat.beq n 2=false):False:=by
 match n,h,h0,h1,h2 with
 | 0,_,h0,_,_=>cases h0
 | 1,_,_,h1,_=>cases h1
 | 2,_,_,_,h2=>cases h2
 | n+3,h,_,_,_=>omega
theorem bz7 {s:Sq cK} {x:cK} (h:Hz (dA x) l 0):aY (.bo 92 3 s.n (λi=>dA (s.get i)) (some (k,l))) (tR (ZH s k x)):=
 aY.unf (by show Hz (dA (bif Nat.beq k k then x else _)) l 0; simp_all) (λi hi qG j hj=>by
  show nV _ (dA (bif Nat.beq i k then x else _) j)
  rw [Dv qG]
  exact nV.refl _)
theorem JU {n:Int} {m:Nat} (h0:0<=n) (h:n.toNat<m):Js n m=true:=by
 obtain ⟨k,rfl⟩:=Int.eq_ofNat_of_zero_le h0
 show Nat.ble k m=true
 rw [Nat.ble_eq]
 grind
end
section
def gO (s:Sq cZ) (q:Int):Nat->Nat->O:=λi=>bif Nat.blt i s.n then jH (s.get i) else Xj [.im (iI q),.im (iI 0),.im (.sl 1 2 λi=>cA (BU.get i)),sU yT]
def Ej (t:ak) (e:Nat) (q:Int):Nat->Nat->O:=λi=>bif Nat.beq i e then Xj [xR (t.aa.get e).frames,.ns 59 4 ((t.aa.get e).az.n+1) (gO (t.aa.get e).az q),.im (iI (t.aa.get e).back)] else cL (t.aa.get i)
end
section
variable {s:Sq cZ} (aj:Int) (L:LP) (t:ak) (ax:Int) (QD:D->Prop) {q:Int} (q0 aJ q1:Int) (aZ:ak) (q2:Int) (k:Nat) (x3:ah) (e:Nat)
theorem Z8 (q:Int):∀ i,i<(Az t e q).aa.n->∀ j,j<3->cD (oI (Ej t e q i j)) (dQ ((Az t e q).aa.get i) j):=by
 intro i _ j hj
 show cD (oI (Ej t e q i j)) (dQ (bif Nat.beq i e then { t.aa.get e with az:=nt (t.aa.get e).az ⟨q,0,BU,yT⟩ } else t.aa.get i) j)
 unfold Ej
 cases Nat.beq i e with
 | false=>exact Vk _ j hj
 | true=>
   simp only [cond_true]
   match j,hj with
   | 0,_=>exact cD.sl λi _ j hj=>KF _ j hj
   | 2,_=>exact cD.refl _
   | 1,_=>
     refine cD.sl λi _ j hj=>?_
     show cD (oI (gO (t.aa.get e).az q i j)) (ff (bif Nat.blt i (t.aa.get e).az.n then (t.aa.get e).az.get i else ⟨q,0,BU,yT⟩) j)
     unfold gO
     cases Nat.blt i (t.aa.get e).az.n with
     | true=>exact SO _ j hj
     | false=>
       match j,hj with
       | 0,_=>exact cD.refl _
       | 1,_=>exact cD.refl _
       | 2,_=>exact cD.refl _
       | 3,_=>exact cD.refl _
theorem ay6:aY (.row 3 1 2 [ci (-1),ci 0]) (hZ yT):=aY.row λi hi j hj=>by
 have hj:j=0:=by omega
 subst hj
 have hi:i<2:=hi
 match i,hi with
 | 0,_=>rfl
 | 1,_=>rfl
theorem bj7:gO s q s.n=Xj [.im (iI q),.im (iI 0),.im (.sl 1 2 λi=>cA (BU.get i)),sU yT]:=by
 grind [gO,Nat.blt_eq]
theorem aH4 {l:List Fc} (hl:l.length=4:=by rfl):aY (.bo 59 4 (s.n+1) (λi=>jH (s.get i)) (some (s.n,l))) (.bo 59 4 (s.n+1) (gO s q) (some (s.n,l))):=
 ⟨λ_=>trivial,λbase E w e av h=>Dj (λx hx=>by grind) (λi hi j hj c hc=>by
  unfold gy at hc ⊢
  cases hb:Nat.beq i s.n with
  | true=>simp only [hb] at hc ⊢; exact ⟨c,hc,aR.refl _⟩
  | false=>
    simp only [hb,aw] at hc ⊢
    subst hc
    refine ⟨_,rfl,?_⟩
    have qG:i≠s.n:=λe=>by simp_all
    unfold gO
    grind [Nat.blt_eq,aR.refl]) h⟩
theorem aX8:Hz (gO s q s.n) [.c (ci q),.c (ci 0),.c (.im (.sl 1 2 λi=>cA (BU.get i))),.o (sU yT)] 0:=by
 rw [bj7]
 exact ⟨aR.aB _,aR.aB _,aR.aB _,aR.refl _,trivial⟩
theorem aP5 {t:ak} {e:Nat}:aY (DY t e [.o (xR (t.aa.get e).frames),.o (.ns 59 4 ((t.aa.get e).az.n+1) (gO (t.aa.get e).az q)),.c (ci (t.aa.get e).back)]) (.bo 57 3 t.aa.n (Ej t e q) none):=
 aY.unf (by
  unfold Ej
  rw [dv]
  exact ⟨aR.refl _,aR.refl _,aR.aB _,trivial⟩) (λi hi qG j hj=>by
  unfold Ej
  rw [Dv qG]
  exact nV.refl _)
theorem eB (m:Nat) (gE:Nat->Nat->O) (hE:∀ i,i<t.aa.n->∀ j,j<3->cD (oI (gE i j)) (dQ (t.aa.get i) j)):ae 17 0 (a7 (aO { t with ins:=⟨m,t.ins.get⟩ })) (af 17 38) (ei t q0 q1 q2 m gE):=by
 refine aK (X:=ln) (stop:=e7) (af7 _ _ t q0 q1 q2 m gE ?_)
 exact jK (.cons (dI.refl _) (.cons (dI.refl _) (.cons (dI.im (cD.sl λi _ j hj=>Te _ j hj)) (.cons (dI.im (cD.sl hE)) .nil))))
theorem ap9 (hk:k<t.ins.n) (hx:aY x3 (eV t.aa)):ae 17 0 (a7 (aO (Xx t k q2))) (af 17 8) (Fy t q0 q1 q2 k x3):=by
 refine aK (X:=ln) (stop:=e7) (aJ3 _ _ t q0 q1 q2 k x3 ?_)
 refine ⟨jB _ _ (by omega),?_⟩
 refine ai (by simp_all) ?_
 exact ae.lf (ei (Xx t k q2) q0 q1 q2 t.ins.n (gX (Xx t k q2))) (rc (rc (.cons (AX ⟨aR.aB _,aR.aB _,aR.aB _,aR.aB _,aR.aB _,aR.refl _,aR.aB _,aR.aB _,aR.aB _,aR.refl _,aR.aB _,aR.aB _,aR.aB _,aR.aB _,trivial⟩) (.cons (hx) (rc .nil))))) (eB (Xx t k q2) q0 q1 q2 t.ins.n (gX (Xx t k q2)) (jn (Xx t k q2)))
theorem SJ (hk:k<t.ins.n) (hx:aY x3 (eV t.aa)):ae 17 0 (a7 (aO (XY t k q2))) (af 17 10) (yt t q0 q1 q2 k x3):=by
 refine aK (X:=ln) (stop:=e7) (ad7 _ _ t q0 q1 q2 k x3 ?_)
 refine ai (by simp_all) ?_
 exact ae.lf (ei (XY t k q2) q0 q1 q2 t.ins.n (gX (XY t k q2))) (rc (rc (.cons (AX ⟨aR.aB _,aR.aB _,aR.aB _,aR.aB _,aR.aB _,aR.refl _,aR.aB _,aR.aB _,aR.aB _,aR.refl _,aR.aB _,aR.aB _,aR.aB _,aR.aB _,trivial⟩) (.cons (hx) (rc .nil))))) (eB (XY t k q2) q0 q1 q2 t.ins.n (gX (XY t k q2)) (jn (XY t k q2)))
theorem R0 (hk:k<t.ins.n) (hx:aY x3 (eV t.aa)):ae 17 0 (a7 (aO (Zg t k q2))) (af 17 12) (yH t q0 q1 q2 k x3):=by
 refine aK (X:=ln) (stop:=e7) (Zr _ _ t q0 q1 q2 k x3 ?_)
 refine ai (by simp_all) ?_
 exact ae.lf (ei (Zg t k q2) q0 q1 q2 t.ins.n (gX (Zg t k q2))) (rc (rc (.cons (AX ⟨aR.aB _,aR.aB _,aR.aB _,aR.aB _,aR.aB _,aR.refl _,aR.aB _,aR.aB _,aR.aB _,aR.refl _,aR.aB _,aR.aB _,aR.aB _,aR.aB _,trivial⟩) (.cons (hx) (rc .nil))))) (eB (Zg t k q2) q0 q1 q2 t.ins.n (gX (Zg t k q2)) (jn (Zg t k q2)))
theorem Rp (hk:k<t.ins.n) (hx:aY x3 (eV t.aa)):ae 17 0 (a7 (aO (YT t k q2))) (af 17 14) (yh t q0 q1 q2 k x3):=by
 refine aK (X:=ln) (stop:=e7) (ac7 _ _ t q0 q1 q2 k x3 ?_)
 refine ai (by simp_all) ?_
 exact ae.lf (ei (YT t k q2) q0 q1 q2 t.ins.n (gX (YT t k q2))) (rc (rc (.cons (AX ⟨aR.aB _,aR.aB _,aR.aB _,aR.aB _,aR.aB _,aR.refl _,aR.aB _,aR.aB _,aR.aB _,aR.refl _,aR.aB _,aR.aB _,aR.aB _,aR.aB _,trivial⟩) (.cons (hx) (rc .nil))))) (eB (YT t k q2) q0 q1 q2 t.ins.n (gX (YT t k q2)) (jn (YT t k q2)))
theorem WA (hk:k<t.ins.n) (hx:aY x3 (eV t.aa)) (hE:t.aa.n<=1000):ae 17 0 (a7 (aO (bt4 t k q2))) (af 17 16) (xZ t q0 q1 q2 k x3):=by
 refine aK (X:=ln) (stop:=e7) (XL _ _ t q0 q1 q2 k x3 ?_)
 refine ⟨jB _ _ (by rw [iT (by omega) (by omega)]; omega),?_⟩
 refine ai (by simp_all) ?_
 exact ae.lf (ei (bt4 t k q2) q0 q1 q2 t.ins.n (gX (bt4 t k q2))) (rc (rc (.cons (AX ⟨aR.aB _,aR.aB _,aR.aB _,aR.aB _,aR.aB _,aR.refl _,aR.aB _,aR.aB _,aR.aB _,aR.refl _,aR.aB _,aR.aB _,aR.aB _,aR.aB _,trivial⟩) (.cons (hx) (rc .nil))))) (eB (bt4 t k q2) q0 q1 q2 t.ins.n (gX (bt4 t k q2)) (jn (bt4 t k q2)))
theorem Wj (hk:k<t.ins.n) (hx:aY x3 (eV t.aa)):ae 17 0 (a7 (aO (Yf t k q2))) (af 17 18) (yq t q0 q1 q2 k x3):=by
 refine aK (X:=ln) (stop:=e7) (Yw _ _ t q0 q1 q2 k x3 ?_)
 refine ai (by simp_all) ?_
 refine ai (by simp_all) ?_
 refine ai (by simp_all) ?_
 exact ae.lf (ei (Yf t k q2) q0 q1 q2 t.ins.n (gX (Yf t k q2))) (rc (rc (.cons (AX ⟨aR.aB _,aR.aB _,aR.aB _,aR.aB _,aR.aB _,aR.refl _,aR.aB _,aR.aB _,aR.aB _,aR.refl _,aR.aB _,aR.aB _,aR.aB _,aR.aB _,trivial⟩) (.cons (hx) (rc .nil))))) (eB (Yf t k q2) q0 q1 q2 t.ins.n (gX (Yf t k q2)) (jn (Yf t k q2)))
theorem Wt (hk:k<t.ins.n) (hx:aY x3 (eV t.aa)) (hA:(t.ins.get k).args.n<=1000):ae 17 0 (a7 (aO (Pk t k q2))) (af 17 20) (yu t q0 q1 q2 k x3):=by
 refine aK (X:=ln) (stop:=e7) (Z7 _ _ t q0 q1 q2 k x3 ?_)
 refine ai (by simp_all) ?_
 refine ai (by simp_all) ?_
 refine ai (by grind [bO]) ?_
 refine ai (by simp_all) ?_
 refine ai (by simp_all) ?_
 refine ai (by simp_all) ?_
 refine ai (by simp_all) ?_
 refine ai (by grind [bO]) ?_
 refine ai (by simp_all) ?_
 refine ai (by simp_all) ?_
 refine ae.close 2 5 7 rfl rfl rfl rfl rfl rfl ?_
 exact ae.lf ⟨[(4,.c (.rt 1 0 0),[]),(5,.c (.rt 4 0 0),[])],[QB q0 q1 q2,ZT,cm (Pk t k q2).ins,.bo 57 3 (Pk t k q2).aa.n (gX (Pk t k q2)) none,mj (Pk t k q2) 2 3 t.ins.n,.dead,.dead,.dead],[]⟩ (rc (rc (.cons (AX ⟨aR.aB _,aR.aB _,aR.aB _,aR.aB _,aR.aB _,aR.o (nV.ar MX),aR.aB _,aR.aB _,aR.aB _,aR.refl _,aR.aB _,aR.aB _,aR.aB _,aR.aB _,trivial⟩) (.cons (hx) (rc (.cons (aY.dead _) (.cons (aY.dead _) (.cons (aY.dead _) .nil)))))))) (ae.rename (s':=ei (Pk t k q2) q0 q1 q2 t.ins.n (gX (Pk t k q2))) [0,1,2,3,4] rfl (eB (Pk t k q2) q0 q1 q2 t.ins.n (gX (Pk t k q2)) (jn (Pk t k q2))))
theorem xe {c:Bool} {p:Prop} (k:p) (h:c=true:=by first|assumption|exact dv _|(simpa [aU2] using hk)|(simpa [aU2] using he)|exact bO (by omega) (by omega)|exact (kR _ _ (by omega) (by omega)).1|exact JU (kR _ _ (by omega) (by omega)).2.1 (kR _ _ (by omega) (by omega)).2.2|exact aC (k:=0) (by omega)):nd c p:=ai h k
theorem Th (hk:k<t.ins.n) (hx:aY x3 (eV t.aa)) (hA:(t.ins.get k).names.n<=1000):ae 17 0 (a7 (aO (W8 t k q2))) (af 17 22) (yc t q0 q1 q2 k x3):=by
 refine aK (X:=ln) (stop:=e7) (Zh _ _ t q0 q1 q2 k x3 ?_)
 refine ai (by simp_all) ?_
 refine ai (by simp_all) ?_
 refine ⟨jB _ _ (by omega),?_⟩
 refine xe ?_
 refine ag (λh0=>?_) (λh0=>?_)
 .refine ai (by grind [bO]) ?_
  refine ai (by simp_all) ?_
  refine ai (by simp_all) ?_
  refine ai (by simp_all) ?_
  refine ai (by simp_all) ?_
  refine ⟨jB _ _ (by omega),?_⟩
  refine xe ?_
  refine ag (λh1=>?_) (λh1=>Bool.noConfusion (h0.symm.trans h1))
  refine ai (by grind [bO]) ?_
  refine ai (by simp_all) ?_
  refine ai (by simp_all) ?_
  rw [show W8 t k q2=fD t k { t.ins.get k with names:=nt (t.ins.get k).names ⟨⟨[120]⟩⟩ } from by unfold W8 xzN; rw [h0]; rfl]
  refine ae.close 2 9 9 rfl rfl rfl rfl rfl rfl ?_
  exact ae.lf ⟨[(4,.c (.rt 1 0 0),[]),(5,.c (.rt 4 0 0),[])],[QB q0 q1 q2,ZT,cm (fD t k { t.ins.get k with names:=nt (t.ins.get k).names ⟨⟨[120]⟩⟩ }).ins,.bo 57 3 (fD t k { t.ins.get k with names:=nt (t.ins.get k).names ⟨⟨[120]⟩⟩ }).aa.n (gX (fD t k { t.ins.get k with names:=nt (t.ins.get k).names ⟨⟨[120]⟩⟩ })) none,mj (fD t k { t.ins.get k with names:=nt (t.ins.get k).names ⟨⟨[120]⟩⟩ }) 2 3 t.ins.n,.dead,.dead,.dead,.dead,.dead],[]⟩ (rc (rc (.cons (AX ⟨aR.aB _,aR.aB _,aR.aB _,aR.aB _,aR.aB _,aR.refl _,aR.aB _,aR.aB _,aR.aB _,aR.o (nV.ar zO),aR.aB _,aR.aB _,aR.aB _,aR.aB _,trivial⟩) (.cons (hx) (rc (.cons (aY.dead _) (.cons (aY.dead _) (.cons (aY.dead _) (.cons (aY.dead _) (.cons (aY.dead _) .nil)))))))))) (ae.rename (s':=ei (fD t k { t.ins.get k with names:=nt (t.ins.get k).names ⟨⟨[120]⟩⟩ }) q0 q1 q2 t.ins.n (gX (fD t k { t.ins.get k with names:=nt (t.ins.get k).names ⟨⟨[120]⟩⟩ }))) [0,1,2,3,4] rfl (eB (fD t k { t.ins.get k with names:=nt (t.ins.get k).names ⟨⟨[120]⟩⟩ }) q0 q1 q2 t.ins.n (gX (fD t k { t.ins.get k with names:=nt (t.ins.get k).names ⟨⟨[120]⟩⟩ })) (jn (fD t k { t.ins.get k with names:=nt (t.ins.get k).names ⟨⟨[120]⟩⟩ }))))
 .refine ag (λh1=>?_) (λh1=>?_)
  .refine ai (by grind [bO]) ?_
   refine ai (by simp_all) ?_
   refine ai (by simp_all) ?_
   refine ai (by simp_all) ?_
   refine ai (by simp_all) ?_
   refine ⟨jB _ _ (by omega),?_⟩
   refine xe ?_
   refine ag (λh2=>Bool.noConfusion (h2.symm.trans h0)) (λh2=>?_)
   refine ag (λh3=>?_) (λh3=>Bool.noConfusion (h1.symm.trans h3))
   refine ai (by grind [bO]) ?_
   refine ai (by simp_all) ?_
   refine ai (by simp_all) ?_
   rw [show W8 t k q2=fD t k { t.ins.get k with names:=nt (t.ins.get k).names ⟨⟨[122]⟩⟩ } from by unfold W8 xzN; rw [h0,h1]; rfl]
   refine ae.close 2 9 9 rfl rfl rfl rfl rfl rfl ?_
   exact ae.lf ⟨[(4,.c (.rt 1 0 0),[]),(5,.c (.rt 4 0 0),[])],[QB q0 q1 q2,ZT,cm (fD t k { t.ins.get k with names:=nt (t.ins.get k).names ⟨⟨[122]⟩⟩ }).ins,.bo 57 3 (fD t k { t.ins.get k with names:=nt (t.ins.get k).names ⟨⟨[122]⟩⟩ }).aa.n (gX (fD t k { t.ins.get k with names:=nt (t.ins.get k).names ⟨⟨[122]⟩⟩ })) none,mj (fD t k { t.ins.get k with names:=nt (t.ins.get k).names ⟨⟨[122]⟩⟩ }) 2 3 t.ins.n,.dead,.dead,.dead,.dead,.dead],[]⟩ (rc (rc (.cons (AX ⟨aR.aB _,aR.aB _,aR.aB _,aR.aB _,aR.aB _,aR.refl _,aR.aB _,aR.aB _,aR.aB _,aR.o (nV.ar zO),aR.aB _,aR.aB _,aR.aB _,aR.aB _,trivial⟩) (.cons (hx) (rc (.cons (aY.dead _) (.cons (aY.dead _) (.cons (aY.dead _) (.cons (aY.dead _) (.cons (aY.dead _) .nil)))))))))) (ae.rename (s':=ei (fD t k { t.ins.get k with names:=nt (t.ins.get k).names ⟨⟨[122]⟩⟩ }) q0 q1 q2 t.ins.n (gX (fD t k { t.ins.get k with names:=nt (t.ins.get k).names ⟨⟨[122]⟩⟩ }))) [0,1,2,3,4] rfl (eB (fD t k { t.ins.get k with names:=nt (t.ins.get k).names ⟨⟨[122]⟩⟩ }) q0 q1 q2 t.ins.n (gX (fD t k { t.ins.get k with names:=nt (t.ins.get k).names ⟨⟨[122]⟩⟩ })) (jn (fD t k { t.ins.get k with names:=nt (t.ins.get k).names ⟨⟨[122]⟩⟩ }))))
  .refine ag (λh2=>?_) (λh2=>?_)
   .refine ai (by grind [bO]) ?_
    refine ai (by simp_all) ?_
    refine ai (by simp_all) ?_
    refine ai (by simp_all) ?_
    refine ai (by simp_all) ?_
    refine ⟨jB _ _ (by omega),?_⟩
    refine xe ?_
    refine ag (λh3=>Bool.noConfusion (h3.symm.trans h0)) (λh3=>?_)
    refine ag (λh4=>Bool.noConfusion (h4.symm.trans h1)) (λh4=>?_)
    refine ag (λh5=>?_) (λh5=>Bool.noConfusion (h2.symm.trans h5))
    refine ai (by grind [bO]) ?_
    refine ai (by simp_all) ?_
    refine ai (by simp_all) ?_
    rw [show W8 t k q2=fD t k { t.ins.get k with names:=nt (t.ins.get k).names ⟨⟨[]⟩⟩ } from by unfold W8 xzN; rw [h0,h1]; rfl]
    refine ae.close 2 9 9 rfl rfl rfl rfl rfl rfl ?_
    exact ae.lf ⟨[(4,.c (.rt 1 0 0),[]),(5,.c (.rt 4 0 0),[])],[QB q0 q1 q2,ZT,cm (fD t k { t.ins.get k with names:=nt (t.ins.get k).names ⟨⟨[]⟩⟩ }).ins,.bo 57 3 (fD t k { t.ins.get k with names:=nt (t.ins.get k).names ⟨⟨[]⟩⟩ }).aa.n (gX (fD t k { t.ins.get k with names:=nt (t.ins.get k).names ⟨⟨[]⟩⟩ })) none,mj (fD t k { t.ins.get k with names:=nt (t.ins.get k).names ⟨⟨[]⟩⟩ }) 2 3 t.ins.n,.dead,.dead,.dead,.dead,.dead],[]⟩ (rc (rc (.cons (AX ⟨aR.aB _,aR.aB _,aR.aB _,aR.aB _,aR.aB _,aR.refl _,aR.aB _,aR.aB _,aR.aB _,aR.o (nV.ar zO),aR.aB _,aR.aB _,aR.aB _,aR.aB _,trivial⟩) (.cons (hx) (rc (.cons (aY.dead _) (.cons (aY.dead _) (.cons (aY.dead _) (.cons (aY.dead _) (.cons (aY.dead _) .nil)))))))))) (ae.rename (s':=ei (fD t k { t.ins.get k with names:=nt (t.ins.get k).names ⟨⟨[]⟩⟩ }) q0 q1 q2 t.ins.n (gX (fD t k { t.ins.get k with names:=nt (t.ins.get k).names ⟨⟨[]⟩⟩ }))) [0,1,2,3,4] rfl (eB (fD t k { t.ins.get k with names:=nt (t.ins.get k).names ⟨⟨[]⟩⟩ }) q0 q1 q2 t.ins.n (gX (fD t k { t.ins.get k with names:=nt (t.ins.get k).names ⟨⟨[]⟩⟩ })) (jn (fD t k { t.ins.get k with names:=nt (t.ins.get k).names ⟨⟨[]⟩⟩ }))))
   .exact bv0 (kR q2 3 (by omega) (by omega)).2.2 (by assumption) (by assumption) (by assumption)
theorem Q0 (hk:k<t.ins.n) (hx:aY x3 (eV t.aa)):ae 17 0 (a7 (aO (O2 t k q2))) (af 17 24) (yb t q0 q1 q2 k x3):=by
 refine aK (X:=ln) (stop:=e7) (XS _ _ t q0 q1 q2 k x3 ?_)
 refine ⟨jB _ _ (by omega),?_⟩
 refine ⟨jB _ _ (by omega),?_⟩
 refine ai (by simp_all) ?_
 refine ⟨jB _ _ (by omega),?_⟩
 refine ⟨jB _ _ (by omega),?_⟩
 refine ai (by simp_all) ?_
 exact ae.lf ⟨[(4,.c (.rt 1 0 0),[]),(5,.c (.rt 4 0 0),[])],[QB q0 q1 q2,ZT,cm (O2 t k q2).ins,.bo 57 3 (O2 t k q2).aa.n (gX (O2 t k q2)) none,mj (O2 t k q2) 2 3 t.ins.n,.dead,.dead],[]⟩ (rc (rc (.cons (AX ⟨aR.aB _,aR.aB _,aR.aB _,aR.aB _,aR.aB _,aR.refl _,aR.aB _,aR.aB _,aR.aB _,aR.refl _,aR.aB _,aR.aB _,aR.aB _,aR.aB _,trivial⟩) (.cons (hx) (rc (.cons (aY.dead _) (.cons (aY.dead _) .nil))))))) (ae.rename (s':=ei (O2 t k q2) q0 q1 q2 t.ins.n (gX (O2 t k q2))) [0,1,2,3,4] rfl (eB (O2 t k q2) q0 q1 q2 t.ins.n (gX (O2 t k q2)) (jn (O2 t k q2))))
theorem aA8 (he:e<t.aa.n):ae 17 0 (a7 (aO (bt9 t e q2))) (af 17 26) (Ey t q0 q1 q2 k e):=by
 refine aK (X:=ln) (stop:=e7) (ZA _ _ t q0 q1 q2 k e ?_)
 refine ai (by simp_all) ?_
 exact ae.lf (ei (bt9 t e q2) q0 q1 q2 t.ins.n (gX (bt9 t e q2))) (rc (rc (rc (.cons (bb1 ⟨aR.refl _,aR.refl _,aR.aB _,trivial⟩) (rc .nil))))) (eB (bt9 t e q2) q0 q1 q2 t.ins.n (gX (bt9 t e q2)) (jn (bt9 t e q2)))
theorem aw3 (he:e<t.aa.n) (h0:0<(t.aa.get e).frames.n) (hv:((t.aa.get e).frames.get 0).vars.n<=1000):ae 17 0 (a7 (aO (vZ t e q2))) (af 17 30) (Fl t q0 q1 q2 e):=by
 refine aK (X:=ln) (stop:=e7) (XM _ _ t q0 q1 q2 e ?_)
 refine ai (by simp_all) ?_
 refine ai (by simp_all) ?_
 refine ai (by simp_all) ?_
 refine ai (by simp_all) ?_
 refine xe ?_
 refine ai (by simp_all) ?_
 refine ai (by grind [bO]) ?_
 refine ai (by simp_all) ?_
 refine xe ?_
 refine ai (by simp_all) ?_
 refine ai (by simp_all) ?_
 refine ai (by simp_all) ?_
 refine ai (by simp_all) ?_
 refine xe ?_
 refine ai (by simp_all) ?_
 refine ai (by grind [bO]) ?_
 refine ai (by simp_all) ?_
 refine xe ?_
 refine ae.close 5 2 8 rfl rfl rfl rfl rfl rfl ?_
 refine ae.lf ⟨[(4,.c (.rt 1 0 0),[]),(5,.c (.rt 4 0 0),[])],[QB q0 q1 q2,ZT,cm t.ins,DY t e [.c (.sa 5 (t.aa.get e).frames.n),.o (GP (t.aa.get e).az),.c (ci (t.aa.get e).back)],mj t 2 3 t.ins.n,tR (ZH (t.aa.get e).frames 0 { (t.aa.get e).frames.get 0 with vars:=nt ((t.aa.get e).frames.get 0).vars q2 }),.dead,.dead,.dead],[]⟩ (rc (rc (rc (rc (rc (.cons (bz7 ⟨aR.aB _,aR.aB _,aR.o (nV.ar MX),trivial⟩) (.cons (aY.dead _) (.cons (aY.dead _) (.cons (aY.dead _) .nil))))))))) ?_
 refine ae.close 3 0 5 rfl rfl rfl rfl rfl rfl ?_
 exact ae.lf ⟨[(4,.c (.rt 1 0 0),[]),(5,.c (.rt 4 0 0),[])],[QB q0 q1 q2,ZT,cm (vZ t e q2).ins,.bo 57 3 (vZ t e q2).aa.n (gX (vZ t e q2)) none,mj (vZ t e q2) 2 3 t.ins.n,.dead,.dead,.dead,.dead],[]⟩ (rc (rc (rc (.cons (bb1 ⟨aR.refl _,aR.refl _,aR.aB _,trivial⟩) (rc (.cons (aY.dead _) (.cons (aY.dead _) (.cons (aY.dead _) (.cons (aY.dead _) .nil))))))))) (ae.rename (s':=ei (vZ t e q2) q0 q1 q2 t.ins.n (gX (vZ t e q2))) [0,1,2,3,4] rfl (eB (vZ t e q2) q0 q1 q2 t.ins.n (gX (vZ t e q2)) (jn (vZ t e q2))))
theorem aD8 (he:e<t.aa.n) (ho:(t.aa.get e).az.n<=1000):ae 17 0 (a7 (aO (Az t e q2))) (af 17 33) (EZ t q0 q1 q2 e):=by
 refine aK (X:=ln) (stop:=e7) (Zw _ _ t q0 q1 q2 e ?_)
 refine ai (by simp_all) ?_
 refine ai (by simp_all) ?_
 refine ⟨Nt,?_⟩
 refine ai (by grind [bO]) ?_
 refine ai (by simp_all) ?_
 refine ai (by simp_all) ?_
 refine ai (by simp_all) ?_
 refine ai (by simp_all) ?_
 refine ⟨Nt,?_⟩
 refine ai (by grind [bO]) ?_
 refine ai (by simp_all) ?_
 refine ai (by simp_all) ?_
 refine ae.lf ⟨[(4,.c (.rt 1 0 0),[]),(5,.c (.rt 4 0 0),[])],[QB q0 q1 q2,ZT,cm t.ins,DY t e [.o (xR (t.aa.get e).frames),.c (.sa 9 ((t.aa.get e).az.n+1)),.c (ci (t.aa.get e).back)],mj t 2 3 t.ins.n,.dead,.dead,hZ yT,.dead,.bo 59 4 ((t.aa.get e).az.n+1) (gO (t.aa.get e).az q2) (some ((t.aa.get e).az.n,[.c (ci q2),.c (ci 0),.c (.im (.sl 1 2 λi=>cA (BU.get i))),.c (.sa 7 2)]))],[]⟩ (rc (rc (rc (rc (rc (.cons (aY.dead _) (.cons (aY.dead _) (.cons (ay6) (.cons (aY.dead _) (.cons (aH4) .nil)))))))))) ?_
 refine ae.close 9 3 7 rfl rfl rfl rfl rfl rfl ?_
 refine ae.lf ⟨[(4,.c (.rt 1 0 0),[]),(5,.c (.rt 4 0 0),[])],[QB q0 q1 q2,ZT,cm t.ins,DY t e [.o (xR (t.aa.get e).frames),.c (.sa 9 ((t.aa.get e).az.n+1)),.c (ci (t.aa.get e).back)],mj t 2 3 t.ins.n,.dead,.dead,.dead,.dead,.bo 59 4 ((t.aa.get e).az.n+1) (gO (t.aa.get e).az q2) none],[]⟩ (rc (rc (rc (rc (rc (.cons (aY.dead _) (.cons (aY.dead _) (.cons (aY.dead _) (.cons (aY.dead _) (.cons (aY.J9 aX8) .nil)))))))))) ?_
 refine ae.close 3 1 9 rfl rfl rfl rfl rfl rfl ?_
 exact ae.lf ⟨[(4,.c (.rt 1 0 0),[]),(5,.c (.rt 4 0 0),[])],[QB q0 q1 q2,ZT,cm (Az t e q2).ins,.bo 57 3 (Az t e q2).aa.n (Ej t e q2) none,mj (Az t e q2) 2 3 t.ins.n,.dead,.dead,.dead,.dead,.dead],[]⟩ (rc (rc (rc (.cons (aP5) (rc (.cons (aY.dead _) (.cons (aY.dead _) (.cons (aY.dead _) (.cons (aY.dead _) (.cons (aY.dead _) .nil)))))))))) (ae.rename (s':=ei (Az t e q2) q0 q1 q2 t.ins.n (Ej t e q2)) [0,1,2,3,4] rfl (eB (Az t e q2) q0 q1 q2 t.ins.n (Ej t e q2) (Z8 t e q2)))
theorem S9 (hn:0<t.ins.n) (hN:t.ins.n<=1000) (hx:aY x3 (eV t.aa)):ae 17 0 (a7 (aO (af2 t q2))) (af 17 35) (ym t q0 q1 q2 x3):=by
 refine aK (X:=ln) (stop:=e7) (af6 _ _ t q0 q1 q2 x3 ?_)
 refine ⟨jB _ _ (by omega),?_⟩
 refine ai (by grind [kR,JU]) ?_
 refine ⟨jB _ _ (by omega),?_⟩
 refine ai (by grind [kR,JU]) ?_
 exact ae.lf ⟨[(4,.c (.rt 1 0 0),[]),(5,.c (.rt 4 0 0),[])],[QB q0 q1 q2,ZT,cm (t).ins,.bo 57 3 (t).aa.n (gX (t)) none,mj (t) 2 3 (ed q2 (Int.ofNat t.ins.n)).toNat,.dead],[]⟩ (rc (rc (rc (.cons (hx) (rc (.cons (aY.dead _) .nil)))))) (ae.rename (s':=ei (t) q0 q1 q2 (ed q2 (Int.ofNat t.ins.n)).toNat (gX (t))) [0,1,2,3,4] rfl (eB (t) q0 q1 q2 (ed q2 (Int.ofNat t.ins.n)).toNat (gX (t)) (jn (t))))
theorem Tz (hx:aY x3 (eV t.aa)):ae 17 0 (a7 (aO (Fo t q2))) (af 17 37) (yv t q0 q1 q2 x3):=by
 refine aK (X:=ln) (stop:=e7) (Xr _ _ t q0 q1 q2 x3 ?_)
 exact ae.lf (ei (Fo t q2) q0 q1 q2 t.ins.n (gX (Fo t q2))) (rc (rc (rc (.cons (hx) (rc .nil))))) (eB (Fo t q2) q0 q1 q2 t.ins.n (gX (Fo t q2)) (jn (Fo t q2)))
def DZ:VS:=⟨[qn,ji,lU,(6,.c (.rt 2 k 0),[]),(7,.c (.im (.v (.pointer none))),[])],[QB q0 q1 q2,ZT,Zi t k (foI (t.ins.get k)),eV t.aa,mj t 2 3 t.ins.n],[]⟩
abbrev lN (bR:Nat):List ah:=[(fH aj ax aJ),ch,(av5 aZ bR),(iK aZ),(eY aZ)]
theorem ac5 (t:ak) (q0 q1 q2:Int) (k:Nat) (h:(LC 47 [(int q0),(int 14)] [] (Gf q0) []/\br (ed q0 (Int.ofNat 14)==0) (L (af 17 8) ⟨[dc,bK,di,(gz k),kU,(fT q0),(35,((bool true),[]))],(lN q0 q1 q2 t k),[]⟩) (br (ed q0 (Int.ofNat 14)==1) (L (af 17 10) ⟨[dc,bK,di,(gz k),kU,(fT q0),(43,((bool true),[]))],(lN q0 q1 q2 t k),[]⟩) (br (ed q0 (Int.ofNat 14)==2) (L (af 17 12) ⟨[dc,bK,di,(gz k),kU,(fT q0),(50,((bool true),[]))],(lN q0 q1 q2 t k),[]⟩) (br (ed q0 (Int.ofNat 14)==3) (L (af 17 14) ⟨[dc,bK,di,(gz k),kU,(fT q0),(57,((bool true),[]))],(lN q0 q1 q2 t k),[]⟩) (br (ed q0 (Int.ofNat 14)==4) (L (af 17 16) ⟨[dc,bK,di,(gz k),kU,(fT q0),(64,((bool true),[]))],(lN q0 q1 q2 t k),[]⟩) (br (ed q0 (Int.ofNat 14)==5) (L (af 17 18) ⟨[dc,bK,di,(gz k),kU,(fT q0),(77,((bool true),[]))],(lN q0 q1 q2 t k),[]⟩) (br (ed q0 (Int.ofNat 14)==6) (L (af 17 20) ⟨[dc,bK,di,(gz k),kU,(fT q0),(87,((bool true),[]))],(lN q0 q1 q2 t k),[]⟩) (br (ed q0 (Int.ofNat 14)==7) (L (af 17 22) ⟨[dc,bK,di,(gz k),kU,(fT q0),(100,((bool true),[]))],(lN q0 q1 q2 t k),[]⟩) (br (ed q0 (Int.ofNat 14)==8) (L (af 17 24) ⟨[dc,bK,di,(gz k),kU,(fT q0),(117,((bool true),[]))],(lN q0 q1 q2 t k),[]⟩) (br (ed q0 (Int.ofNat 14)==9) (L (af 17 26) ⟨[dc,bK,di,kU,(fT q0),(129,((bool true),[]))],(lN q0 q1 q2 t k),[]⟩) (br (ed q0 (Int.ofNat 14)==10) (L (af 17 29) ⟨[dc,bK,di,kU,(fT q0),(138,((bool true),[]))],(lN q0 q1 q2 t k),[]⟩) (br (ed q0 (Int.ofNat 14)==11) (L (af 17 32) ⟨[dc,bK,di,kU,(fT q0),(159,((bool true),[]))],(lN q0 q1 q2 t k),[]⟩) (br (ed q0 (Int.ofNat 14)==12) (L (af 17 35) ⟨[dc,bK,di,(fT q0),(177,((bool true),[]))],(lN q0 q1 q2 t k),[]⟩) (br (ed q0 (Int.ofNat 14)==13) (L (af 17 37) ⟨[dc,bK,di,(189,((bool true),[]))],(lN q0 q1 q2 t k),[]⟩) (L (af 17 38) ⟨[dc,bK,di,(189,((bool false),[]))],(lN q0 q1 q2 t k),[]⟩)))))))))))))))):b5 ln 17 e7 L (bf QD) 6 (DZ t q0 q1 q2 k):=km h
abbrev K8:VS:=⟨[qn,ji,lU,(7,.c (.im (.v (.pointer none))),[])],[QB aj ax aJ,ZT,cm aZ.ins,eV aZ.aa,mj aZ 2 3 aZ.ins.n],[]⟩
def Bv  : VS:=(K8 q0 q1 q2 t)
theorem VQ (t:ak) (q0 q1 q2:Int) (h:L (af 17 38) ⟨[dc,bK,di,kU,(132,((bool false),[]))],[(fH q0 q1 q2),ch,(jt t),(iK t),(eY t)],[]⟩):b5 ln 17 e7 L (bf QD) 26 (Bv t q0 q1 q2 ):=km h
def Bq  : VS:=(K8 q0 q1 q2 t)
theorem SN (t:ak) (q0 q1 q2:Int) (h:L (af 17 38) ⟨[dc,bK,di,kU,(141,((bool false),[]))],[(fH q0 q1 q2),ch,(jt t),(iK t),(eY t)],[]⟩):b5 ln 17 e7 L (bf QD) 29 (Bq t q0 q1 q2 ):=km h
def zQ  : VS:=(K8 q0 q1 q2 t)
theorem Wv (t:ak) (q0 q1 q2:Int) (h:L (af 17 38) ⟨[dc,bK,di,kU,(162,((bool false),[]))],[(fH q0 q1 q2),ch,(jt t),(iK t),(eY t)],[]⟩):b5 ln 17 e7 L (bf QD) 32 (zQ t q0 q1 q2 ):=km h
theorem aI7 (he:e<t.aa.n) (h0:0<(t.aa.get e).frames.n) (hv:((t.aa.get e).frames.get 0).vars.n<=1000):ae 17 0 (a7 (aO (vZ t e q2))) (af 17 29) (Dp t q0 q1 q2 k e):=by
 refine aK (X:=ln) (stop:=e7) (ag1 _ _ t q0 q1 q2 k e ?_)
 refine ae.open 3 0 rfl rfl trivial (ae.focus 5 0 rfl h0 (ae.open 5 2 rfl rfl trivial ?_))
 exact ae.lr (Fl t q0 q1 q2 e) (aw3 t q0 q1 q2 e he h0 hv)
theorem aI3 (he:e<t.aa.n) (ho:(t.aa.get e).az.n<=1000):ae 17 0 (a7 (aO (Az t e q2))) (af 17 32) (FR t q0 q1 q2 k e):=by
 refine aK (X:=ln) (stop:=e7) (YO _ _ t q0 q1 q2 k e ?_)
 refine ae.open 3 1 rfl rfl trivial ?_
 exact ae.lr (EZ t q0 q1 q2 e) (aD8 t q0 q1 q2 e he ho)
theorem ad8:ae 17 0 (a7 (aO t)) (af 17 26) (Bv t q0 q1 q2):=by
 refine aK (X:=ln) (stop:=e7) (VQ _ _ t q0 q1 q2 ?_)
 exact ae.lr (ei (t) q0 q1 q2 t.ins.n (gX (t))) (eB (t) q0 q1 q2 t.ins.n (gX (t)) (jn (t)))
theorem YU:ae 17 0 (a7 (aO t)) (af 17 29) (Bq t q0 q1 q2):=by
 refine aK (X:=ln) (stop:=e7) (SN _ _ t q0 q1 q2 ?_)
 exact ae.lr (ei (t) q0 q1 q2 t.ins.n (gX (t))) (eB (t) q0 q1 q2 t.ins.n (gX (t)) (jn (t)))
theorem Y0:ae 17 0 (a7 (aO t)) (af 17 32) (zQ t q0 q1 q2):=by
 refine aK (X:=ln) (stop:=e7) (Wv _ _ t q0 q1 q2 ?_)
 exact ae.lr (ei (t) q0 q1 q2 t.ins.n (gX (t))) (eB (t) q0 q1 q2 t.ins.n (gX (t)) (jn (t)))
theorem pL {t:ak} {e:Nat}:aY (DY t e (Jr (t.aa.get e))) (eV t.aa):=aY.J9 ⟨aR.refl _,aR.refl _,aR.aB _,trivial⟩
theorem pS {t:ak} {k:Nat}:aY (Zi t k (foI (t.ins.get k))) (cm t.ins):=aY.J9 ⟨aR.aB _,aR.aB _,aR.aB _,aR.aB _,aR.aB _,aR.refl _,aR.aB _,aR.aB _,aR.aB _,aR.refl _,aR.aB _,aR.aB _,aR.aB _,aR.aB _,trivial⟩
theorem bb9 (hS:aM t) (hn:0<t.ins.n) (hF:∀ e,e<t.aa.n->0<(t.aa.get e).frames.n) (k:Nat) (hk:k<t.ins.n) (hkq:k=bI t q1) (e:Nat) (he:e<t.aa.n) (heq:e=bE t q1) (hE:decide ((t.aa.n:Int)>0)=true):ae 17 0 (a7 (aO (b8 t q0 q1 q2))) (af 17 6) (JV t q0 q1 q2 k e):=by
 refine aK (X:=ln) (stop:=e7) (at7 _ _ t q0 q1 q2 k e ?_)
 refine ⟨jB _ _ (by omega),?_⟩
 refine ag (λh0=>?_) (λh0=>?_)
 .have q:b8 t q0 q1 q2=Xx t k q2:=by grind [b8]
  rw [q]
  exact ae.lr (Fy t q0 q1 q2 k (DY t e (Jr (t.aa.get e)))) (ap9 t q0 q1 q2 k _ hk pL)
 .refine ag (λh1=>?_) (λh1=>?_)
  .have q:b8 t q0 q1 q2=XY t k q2:=by grind [b8]
   rw [q]
   exact ae.lr (yt t q0 q1 q2 k (DY t e (Jr (t.aa.get e)))) (SJ t q0 q1 q2 k _ hk pL)
  .refine ag (λh2=>?_) (λh2=>?_)
   .have q:b8 t q0 q1 q2=Zg t k q2:=by grind [b8]
    rw [q]
    exact ae.lr (yH t q0 q1 q2 k (DY t e (Jr (t.aa.get e)))) (R0 t q0 q1 q2 k _ hk pL)
   .refine ag (λh3=>?_) (λh3=>?_)
    .have q:b8 t q0 q1 q2=YT t k q2:=by grind [b8]
     rw [q]
     exact ae.lr (yh t q0 q1 q2 k (DY t e (Jr (t.aa.get e)))) (Rp t q0 q1 q2 k _ hk pL)
    .refine ag (λh4=>?_) (λh4=>?_)
     .have q:b8 t q0 q1 q2=bt4 t k q2:=by grind [b8]
      rw [q]
      exact ae.lr (xZ t q0 q1 q2 k (DY t e (Jr (t.aa.get e)))) (WA t q0 q1 q2 k _ hk pL hS.aa)
     .refine ag (λh5=>?_) (λh5=>?_)
      .have q:b8 t q0 q1 q2=Yf t k q2:=by grind [b8]
       rw [q]
       exact ae.lr (yq t q0 q1 q2 k (DY t e (Jr (t.aa.get e)))) (Wj t q0 q1 q2 k _ hk pL)
      .refine ag (λh6=>?_) (λh6=>?_)
       .have q:b8 t q0 q1 q2=Pk t k q2:=by grind [b8]
        rw [q]
        refine ae.open 2 5 rfl rfl trivial ?_
        exact ae.lr (yu t q0 q1 q2 k (DY t e (Jr (t.aa.get e)))) (Wt t q0 q1 q2 k _ hk pL (hS.args k hk))
       .refine ag (λh7=>?_) (λh7=>?_)
        .have q:b8 t q0 q1 q2=W8 t k q2:=by grind [b8]
         rw [q]
         refine ae.open 2 9 rfl rfl trivial ?_
         exact ae.lr (yc t q0 q1 q2 k (DY t e (Jr (t.aa.get e)))) (Th t q0 q1 q2 k _ hk pL (hS.names k hk))
        .refine ag (λh8=>?_) (λh8=>?_)
         .have q:b8 t q0 q1 q2=O2 t k q2:=by grind [b8]
          rw [q]
          exact ae.lr (yb t q0 q1 q2 k (DY t e (Jr (t.aa.get e)))) (Q0 t q0 q1 q2 k _ hk pL)
         .refine ag (λh9=>?_) (λh9=>?_)
          .have q:b8 t q0 q1 q2=bt9 t e q2:=by grind [b8,Xa]
           rw [q]
           exact ae.lf (Ey t q0 q1 q2 k e) (rc (rc (.cons (pS) (rc (rc .nil))))) (aA8 t q0 q1 q2 k e he)
          .refine ag (λBH=>?_) (λBH=>?_)
           .have q:b8 t q0 q1 q2=vZ t e q2:=by grind [b8,Xa]
            rw [q]
            exact ae.lf (Dp t q0 q1 q2 k e) (rc (rc (.cons (pS) (rc (rc .nil))))) (aI7 t q0 q1 q2 k e he (hF _ he) ((hS.ex e he).vars 0 (hF _ he)))
           .refine ag (λUL=>?_) (λUL=>?_)
            .have q:b8 t q0 q1 q2=Az t e q2:=by grind [b8,Xa]
             rw [q]
             exact ae.lf (FR t q0 q1 q2 k e) (rc (rc (.cons (pS) (rc (rc .nil))))) (aI3 t q0 q1 q2 k e he (hS.ex e he).az)
            .refine ag (λW9=>?_) (λW9=>?_)
             .have q:b8 t q0 q1 q2=af2 t q2:=by grind [b8]
              rw [q]
              exact ae.lf (ym t q0 q1 q2 (DY t e (Jr (t.aa.get e)))) (rc (rc (.cons (pS) (rc (rc .nil))))) (S9 t q0 q1 q2 _ hn hS.ins pL)
             .refine ag (λh13=>?_) (λh13=>?_)
              .have q:b8 t q0 q1 q2=Fo t q2:=by grind [b8]
               rw [q]
               exact ae.lf (yv t q0 q1 q2 (DY t e (Jr (t.aa.get e)))) (rc (rc (.cons (pS) (rc (rc .nil))))) (Tz t q0 q1 q2 _ pL)
              .have q:b8 t q0 q1 q2=t:=by grind [b8]
               rw [q]
               exact ae.lf (ei (t) q0 q1 q2 t.ins.n (gX (t))) (rc (rc (.cons (pS) (.cons (pL) (rc .nil))))) (eB (t) q0 q1 q2 t.ins.n (gX (t)) (jn (t)))
theorem aH8 (hS:aM t) (hn:0<t.ins.n) (hF:∀ e,e<t.aa.n->0<(t.aa.get e).frames.n) (k:Nat) (hk:k<t.ins.n) (hkq:k=bI t q1) (hE:decide ((t.aa.n:Int)>0)=false):ae 17 0 (a7 (aO (b8 t q0 q1 q2))) (af 17 6) (DZ t q0 q1 q2 k):=by
 refine aK (X:=ln) (stop:=e7) (ac5 _ _ t q0 q1 q2 k ?_)
 refine ⟨jB _ _ (by omega),?_⟩
 refine ag (λh0=>?_) (λh0=>?_)
 .have q:b8 t q0 q1 q2=Xx t k q2:=by grind [b8]
  rw [q]
  exact ae.lr (Fy t q0 q1 q2 k (eV t.aa)) (ap9 t q0 q1 q2 k _ hk (aY.refl _))
 .refine ag (λh1=>?_) (λh1=>?_)
  .have q:b8 t q0 q1 q2=XY t k q2:=by grind [b8]
   rw [q]
   exact ae.lr (yt t q0 q1 q2 k (eV t.aa)) (SJ t q0 q1 q2 k _ hk (aY.refl _))
  .refine ag (λh2=>?_) (λh2=>?_)
   .have q:b8 t q0 q1 q2=Zg t k q2:=by grind [b8]
    rw [q]
    exact ae.lr (yH t q0 q1 q2 k (eV t.aa)) (R0 t q0 q1 q2 k _ hk (aY.refl _))
   .refine ag (λh3=>?_) (λh3=>?_)
    .have q:b8 t q0 q1 q2=YT t k q2:=by grind [b8]
     rw [q]
     exact ae.lr (yh t q0 q1 q2 k (eV t.aa)) (Rp t q0 q1 q2 k _ hk (aY.refl _))
    .refine ag (λh4=>?_) (λh4=>?_)
     .have q:b8 t q0 q1 q2=bt4 t k q2:=by grind [b8]
      rw [q]
      exact ae.lr (xZ t q0 q1 q2 k (eV t.aa)) (WA t q0 q1 q2 k _ hk (aY.refl _) hS.aa)
     .refine ag (λh5=>?_) (λh5=>?_)
      .have q:b8 t q0 q1 q2=Yf t k q2:=by grind [b8]
       rw [q]
       exact ae.lr (yq t q0 q1 q2 k (eV t.aa)) (Wj t q0 q1 q2 k _ hk (aY.refl _))
      .refine ag (λh6=>?_) (λh6=>?_)
       .have q:b8 t q0 q1 q2=Pk t k q2:=by grind [b8]
        rw [q]
        refine ae.open 2 5 rfl rfl trivial ?_
        exact ae.lr (yu t q0 q1 q2 k (eV t.aa)) (Wt t q0 q1 q2 k _ hk (aY.refl _) (hS.args k hk))
       .refine ag (λh7=>?_) (λh7=>?_)
        .have q:b8 t q0 q1 q2=W8 t k q2:=by grind [b8]
         rw [q]
         refine ae.open 2 9 rfl rfl trivial ?_
         exact ae.lr (yc t q0 q1 q2 k (eV t.aa)) (Th t q0 q1 q2 k _ hk (aY.refl _) (hS.names k hk))
        .refine ag (λh8=>?_) (λh8=>?_)
         .have q:b8 t q0 q1 q2=O2 t k q2:=by grind [b8]
          rw [q]
          exact ae.lr (yb t q0 q1 q2 k (eV t.aa)) (Q0 t q0 q1 q2 k _ hk (aY.refl _))
         .refine ag (λh9=>?_) (λh9=>?_)
          .have q:b8 t q0 q1 q2=t:=by grind [b8,Xa]
           rw [q]
           exact ae.lf (Bv t q0 q1 q2) (rc (rc (.cons (pS) (rc (rc .nil))))) (ad8 t q0 q1 q2)
          .refine ag (λBH=>?_) (λBH=>?_)
           .have q:b8 t q0 q1 q2=t:=by grind [b8,Xa]
            rw [q]
            exact ae.lf (Bq t q0 q1 q2) (rc (rc (.cons (pS) (rc (rc .nil))))) (YU t q0 q1 q2)
           .refine ag (λUL=>?_) (λUL=>?_)
            .have q:b8 t q0 q1 q2=t:=by grind [b8,Xa]
             rw [q]
             exact ae.lf (zQ t q0 q1 q2) (rc (rc (.cons (pS) (rc (rc .nil))))) (Y0 t q0 q1 q2)
            .refine ag (λW9=>?_) (λW9=>?_)
             .have q:b8 t q0 q1 q2=af2 t q2:=by grind [b8]
              rw [q]
              exact ae.lf (ym t q0 q1 q2 (eV t.aa)) (rc (rc (.cons (pS) (rc (rc .nil))))) (S9 t q0 q1 q2 _ hn hS.ins (aY.refl _))
             .refine ag (λh13=>?_) (λh13=>?_)
              .have q:b8 t q0 q1 q2=Fo t q2:=by grind [b8]
               rw [q]
               exact ae.lf (yv t q0 q1 q2 (eV t.aa)) (rc (rc (.cons (pS) (rc (rc .nil))))) (Tz t q0 q1 q2 _ (aY.refl _))
              .have q:b8 t q0 q1 q2=t:=by grind [b8]
               rw [q]
               exact ae.lf (ei (t) q0 q1 q2 t.ins.n (gX (t))) (rc (rc (.cons (pS) (rc (rc .nil))))) (eB (t) q0 q1 q2 t.ins.n (gX (t)) (jn (t)))
theorem aU6 (hS:aM t) (hn:0<t.ins.n) (hF:∀ e,e<t.aa.n->0<(t.aa.get e).frames.n):ae 17 0 (a7 (aO (b8 t q0 q1 q2))) (af 17 2) (QV t q0 q1 q2):=by
 have hN:=hS.ins
 have hM:=hS.aa
 have hk:bI t q1<t.ins.n:=(kR q1 t.ins.n hn (by omega)).2.2
 refine aK (X:=ln) (stop:=e7) (aI4 _ _ t q0 q1 q2 ?_)
 refine ⟨jB _ _ (by omega),ai (kR q1 t.ins.n hn (by omega)).1 (ag (λh=>?_) (λh=>?_))⟩
 .have hp:0<t.aa.n:=by grind
  have he:bE t q1<t.aa.n:=(kR q1 t.aa.n hp (by omega)).2.2
  refine ⟨jB _ _ (by omega),ai (kR q1 t.aa.n hp (by omega)).1 ?_⟩
  refine ae.focus 3 (bI t q1) rfl hk (ae.focus 4 (bE t q1) rfl he ?_)
  exact ae.rename [1,2,3,4,5] rfl (ae.lr (JV t q0 q1 q2 (bI t q1) (bE t q1)) (bb9 t q0 q1 q2 hS hn hF _ hk rfl _ he rfl h))
 .refine ae.focus 3 (bI t q1) rfl hk ?_
  exact ae.rename [1,2,3,4,5] rfl (ae.lr (DZ t q0 q1 q2 (bI t q1)) (aH8 t q0 q1 q2 hS hn hF _ hk rfl h))
theorem aY0 (hS:aM t) (hn:0<t.ins.n) (hF:∀ e,e<t.aa.n->0<(t.aa.get e).frames.n):LC 17 [aO t,.a [ci q0,ci q1,ci q2]] [] (aO (b8 t q0 q1 q2)) []:=
 pv (X:=ln) (stop:=e7) bz5 (br6 _ _ t q0 q1 q2 ⟨bt.gQ (ao3 t hS) [] _ rfl rfl,aU6 t q0 q1 q2 hS hn hF⟩)
end
open Go Go.V
section
def XR:eU:={ F:=pY }
section
variable (n:Nat) (a b v:Int) (k:Nat) (g:Nat->Nat->O)
def sw:Int:=bif v==a then b else v
def qO (m:Nat) (a b:Int) (x:au):au:={ x with a:=bif Nat.ble 1 m then sw a b x.a else x.a,b:=bif Nat.ble 2 m then sw a b x.b else x.b,c:=bif Nat.ble 3 m then sw a b x.c else x.c }
def K7 (s:Sq Int) (j:Nat) (v:Int):Sq Int:=⟨s.n,λi=>bif Nat.beq i j then v else s.get i⟩
def jN (s:Sq Int) (k:Nat):Sq Int:=⟨s.n,λi=>bif Nat.blt i k then sw a b (s.get i) else s.get i⟩
def W0 (s1:Sq Int):eU:={ F:=ext pY [(139,λ_ _=>(.t [],[(0,hZ s1)],[]))],S:=qy }
def bx:ah:=.box [.im (iI v)]
def yd (x:au):ah:=.bo 52 14 n g (some (k,gu (bL x) 14 0))
def foV (x:cZ):ah:=.bo 59 4 n g (some (k,gu (fR x) 4 0))
end
end
def pR:Nat->Bool:=bH
theorem Ca:Fn 139:={}
section
variable (L:LP) (aj QE:D->List ah->Prop) (n ax:Nat) (s:Sq Int) (j:Nat) (v aJ:Int) (s1:Sq Int) (k:Nat) (g:Nat->Nat->O) (aZ a:Int) (x:au) (bR:Nat) (b:Int) (cW:Nat->Nat->O) (de:au)
theorem ac6 (a b:Int) (h:QE (.t []) [(.row 151 1 3 [(.rt 3 k 1),(.rt 3 k 2),(.rt 3 k 3)]),(.box [(ci a)]),(.box [(ci b)]),(.bo 52 14 n (g) (.some (k,[(.c (ci x.1)),(.c (ci x.2)),(.c (ci x.3)),(.c (ci x.4)),(.c (ci x.5)),(.o (.ar 3 1 x.6.1 (λi=>bn (x.6.2 i)))),(.c (ci x.7.1)),(.c (ci x.7.2)),(.c (.im (.v (.string x.7.3)))),(.c (.im (.sl 1 x.8.1 (λi=>cA (x.8.2 i))))),(.c (ci x.9.1)),(.c (ci x.9.2)),(.c (ci x.10)),(.c (.im (.v (.bool x.11))))])))]):ep XR 139 pR L QE [.c (.sa 0 0),.c (.rt 1 0 0),.c (.rt 2 0 0)] [.row 151 1 3 [.rt 3 k 1,.rt 3 k 2,.rt 3 k 3],bx a,bx b,yd n k g x]:=km h
theorem KS {i k:Nat} (h:i≠k):Nat.beq i k=false:=by
 grind [Nat.eq_of_beq_eq_true]
theorem On:∀ i,i<s.n->∀ c,c<1->cD (B2 (λi=>bn (s.get i)) j 0 [iI v] i c) (bn ((K7 s j v).get i) c):=by
 intro i _ c hc
 have hc:c=0:=by omega
 subst hc
 show cD (Bool.rec (bn (s.get i) 0) (iI v) (Nat.beq i j&&_)) (bn (bif Nat.beq i j then v else s.get i) 0)
 cases Nat.beq i j with
 | true=>exact cD.refl _
 | false=>exact cD.refl _
theorem HB (h:v=s.get j):∀ i,i<s.n->∀ c,c<1->cD (bn (s.get i) c) (bn ((K7 s j v).get i) c):=by
 intro i _ c hc
 show cD (bn (s.get i) c) (bn (bif Nat.beq i j then v else s.get i) c)
 grind [Nat.eq_of_beq_eq_true,cD.refl]
theorem pV {a b v:Int} (h:(v==a)=true):sw a b v=b:=by unfold sw; rw [h]; rfl
theorem pW {a b v:Int} (h:(v==a)=false):sw a b v=v:=by unfold sw; rw [h]; rfl
theorem Wy (a b:Int) (hk:k<n):LC 139 [.c (.sa 0 0),.c (.rt 1 0 0),.c (.rt 2 0 0)] [.row 151 1 3 [.rt 3 k 1,.rt 3 k 2,.rt 3 k 3],bx a,bx b,yd n k g x] (.t []) [.row 151 1 3 [.rt 3 k 1,.rt 3 k 2,.rt 3 k 3],bx a,bx b,yd n k g (qO 0 a b x)]:=by
 refine cM Ca (aQ (by kernel_rfl)) (cY (X:=XR) (stop:=pR) (ac6 _ _ n k g x a b ?_))
 have e:qO 0 a b x=⟨x.op,x.a,x.b,x.c,x.n,x.args,x.k,x.names,x.place,x.exit,x.once⟩:=by rfl
 exact ⟨[0,1,2,3],.t [],_,_,rfl,(rc (rc (rc (.cons (by rw [e]; exact aY.refl _) .nil)))),⟨4,aQ rfl,aQ rfl,rfl,rfl,aX.refl _,⟨.inl (.inl rfl),⟨.inl (.inl rfl),⟨.inl (.inl rfl),⟨.inr rfl,trivial⟩⟩⟩⟩⟩⟩
abbrev SU:Prop:=aj (.t []) [(.row 151 1 3 [(.rt 3 ax 1),(.rt 3 ax 2),(.rt 3 ax 3)]),(.box [(ci aJ)]),(.box [(ci aZ)]),(.bo 52 14 bR (cW) (.some (ax,[(.c (ci de.1)),(.c (ci aZ)),(.c (ci de.3)),(.c (ci de.4)),(.c (ci de.5)),(.o (.ar 3 1 de.6.1 (λi=>bn (de.6.2 i)))),(.c (ci de.7.1)),(.c (ci de.7.2)),(.c (.im (.v (.string de.7.3)))),(.c (.im (.sl 1 de.8.1 (λi=>cA (de.8.2 i))))),(.c (ci de.9.1)),(.c (ci de.9.2)),(.c (ci de.10)),(.c (.im (.v (.bool de.11))))])))]
abbrev RP:Prop:=aj (.t []) [(.row 151 1 3 [(.rt 3 ax 1),(.rt 3 ax 2),(.rt 3 ax 3)]),(.box [(ci aJ)]),(.box [(ci aZ)]),(.bo 52 14 bR (cW) (.some (ax,[(.c (ci de.1)),(.c (ci de.2)),(.c (ci de.3)),(.c (ci de.4)),(.c (ci de.5)),(.o (.ar 3 1 de.6.1 (λi=>bn (de.6.2 i)))),(.c (ci de.7.1)),(.c (ci de.7.2)),(.c (.im (.v (.string de.7.3)))),(.c (.im (.sl 1 de.8.1 (λi=>cA (de.8.2 i))))),(.c (ci de.9.1)),(.c (ci de.9.2)),(.c (ci de.10)),(.c (.im (.v (.bool de.11))))])))]
theorem YJ (a b:Int) (h:nd (k.blt n) (nd (k.beq k) (br (x.2==a) (nd (k.beq k) (SU QE k a b n g x)) (RP QE k a b n g x)))):ep XR 139 pR L QE [.c (.sa 0 1),.c (.rt 1 0 0),.c (.rt 2 0 0)] [.row 151 1 3 [.rt 3 k 1,.rt 3 k 2,.rt 3 k 3],bx a,bx b,yd n k g x]:=km h
theorem Uv (a b:Int) (hk:k<n):LC 139 [.c (.sa 0 1),.c (.rt 1 0 0),.c (.rt 2 0 0)] [.row 151 1 3 [.rt 3 k 1,.rt 3 k 2,.rt 3 k 3],bx a,bx b,yd n k g x] (.t []) [.row 151 1 3 [.rt 3 k 1,.rt 3 k 2,.rt 3 k 3],bx a,bx b,yd n k g (qO 1 a b x)]:=by
 refine cM Ca (aQ (by kernel_rfl)) (cY (X:=XR) (stop:=pR) (YJ _ _ n k g x a b ?_))
 refine ai (by simp_all) ?_
 refine ai (by simp_all) ?_
 refine ag (λh0=>?_) (λh0=>?_)
 .refine ai (by simp_all) ?_
  have e:qO 1 a b x=⟨x.op,b,x.b,x.c,x.n,x.args,x.k,x.names,x.place,x.exit,x.once⟩:=by show (⟨x.op,sw a b x.a,x.b,x.c,x.n,x.args,x.k,x.names,x.place,x.exit,x.once⟩:au)=_; rw [pV (show (x.a==a)=true from h0)]; try rfl
  exact ⟨[0,1,2,3],.t [],_,_,rfl,(rc (rc (rc (.cons (by rw [e]; exact aY.refl _) .nil)))),⟨4,aQ rfl,aQ rfl,rfl,rfl,aX.refl _,⟨.inl (.inl rfl),⟨.inl (.inl rfl),⟨.inl (.inl rfl),⟨.inr rfl,trivial⟩⟩⟩⟩⟩⟩
 .have e:qO 1 a b x=⟨x.op,x.a,x.b,x.c,x.n,x.args,x.k,x.names,x.place,x.exit,x.once⟩:=by show (⟨x.op,sw a b x.a,x.b,x.c,x.n,x.args,x.k,x.names,x.place,x.exit,x.once⟩:au)=_; rw [pW (show (x.a==a)=false from h0)]; try rfl
  exact ⟨[0,1,2,3],.t [],_,_,rfl,(rc (rc (rc (.cons (by rw [e]; exact aY.refl _) .nil)))),⟨4,aQ rfl,aQ rfl,rfl,rfl,aX.refl _,⟨.inl (.inl rfl),⟨.inl (.inl rfl),⟨.inl (.inl rfl),⟨.inr rfl,trivial⟩⟩⟩⟩⟩⟩
abbrev RU:Prop:=aj (.t []) [(.row 151 1 3 [(.rt 3 ax 1),(.rt 3 ax 2),(.rt 3 ax 3)]),(.box [(ci aJ)]),(.box [(ci aZ)]),(.bo 52 14 bR (cW) (.some (ax,[(.c (ci de.1)),(.c (ci aZ)),(.c (ci aZ)),(.c (ci de.4)),(.c (ci de.5)),(.o (.ar 3 1 de.6.1 (λi=>bn (de.6.2 i)))),(.c (ci de.7.1)),(.c (ci de.7.2)),(.c (.im (.v (.string de.7.3)))),(.c (.im (.sl 1 de.8.1 (λi=>cA (de.8.2 i))))),(.c (ci de.9.1)),(.c (ci de.9.2)),(.c (ci de.10)),(.c (.im (.v (.bool de.11))))])))]
abbrev TC:Prop:=aj (.t []) [(.row 151 1 3 [(.rt 3 ax 1),(.rt 3 ax 2),(.rt 3 ax 3)]),(.box [(ci aJ)]),(.box [(ci aZ)]),(.bo 52 14 bR (cW) (.some (ax,[(.c (ci de.1)),(.c (ci de.2)),(.c (ci aZ)),(.c (ci de.4)),(.c (ci de.5)),(.o (.ar 3 1 de.6.1 (λi=>bn (de.6.2 i)))),(.c (ci de.7.1)),(.c (ci de.7.2)),(.c (.im (.v (.string de.7.3)))),(.c (.im (.sl 1 de.8.1 (λi=>cA (de.8.2 i))))),(.c (ci de.9.1)),(.c (ci de.9.2)),(.c (ci de.10)),(.c (.im (.v (.bool de.11))))])))]
theorem Zf (a b:Int) (h:nd (k.blt n) (nd (k.beq k) (br (x.2==a) (nd (k.beq k) (nd (k.blt n) (nd (k.beq k) (br (x.3==a) (nd (k.beq k) (RU QE k a b n g x)) (SU QE k a b n g x))))) (nd (k.blt n) (nd (k.beq k) (br (x.3==a) (nd (k.beq k) (TC QE k a b n g x)) (RP QE k a b n g x))))))):ep XR 139 pR L QE [.c (.sa 0 2),.c (.rt 1 0 0),.c (.rt 2 0 0)] [.row 151 1 3 [.rt 3 k 1,.rt 3 k 2,.rt 3 k 3],bx a,bx b,yd n k g x]:=km h
theorem Rl (a b:Int) (hk:k<n):LC 139 [.c (.sa 0 2),.c (.rt 1 0 0),.c (.rt 2 0 0)] [.row 151 1 3 [.rt 3 k 1,.rt 3 k 2,.rt 3 k 3],bx a,bx b,yd n k g x] (.t []) [.row 151 1 3 [.rt 3 k 1,.rt 3 k 2,.rt 3 k 3],bx a,bx b,yd n k g (qO 2 a b x)]:=by
 refine cM Ca (aQ (by kernel_rfl)) (cY (X:=XR) (stop:=pR) (Zf _ _ n k g x a b ?_))
 refine ai (by simp_all) ?_
 refine ai (by simp_all) ?_
 refine ag (λh0=>?_) (λh0=>?_)
 .refine ai (by simp_all) ?_
  refine ai (by simp_all) ?_
  refine ai (by simp_all) ?_
  refine ag (λh1=>?_) (λh1=>?_)
  .refine ai (by simp_all) ?_
   have e:qO 2 a b x=⟨x.op,b,b,x.c,x.n,x.args,x.k,x.names,x.place,x.exit,x.once⟩:=by show (⟨x.op,sw a b x.a,sw a b x.b,x.c,x.n,x.args,x.k,x.names,x.place,x.exit,x.once⟩:au)=_; grind [pV]
   exact ⟨[0,1,2,3],.t [],_,_,rfl,(rc (rc (rc (.cons (by rw [e]; exact aY.refl _) .nil)))),⟨4,aQ rfl,aQ rfl,rfl,rfl,aX.refl _,⟨.inl (.inl rfl),⟨.inl (.inl rfl),⟨.inl (.inl rfl),⟨.inr rfl,trivial⟩⟩⟩⟩⟩⟩
  .have e:qO 2 a b x=⟨x.op,b,x.b,x.c,x.n,x.args,x.k,x.names,x.place,x.exit,x.once⟩:=by show (⟨x.op,sw a b x.a,sw a b x.b,x.c,x.n,x.args,x.k,x.names,x.place,x.exit,x.once⟩:au)=_; grind [pV,pW]
   exact ⟨[0,1,2,3],.t [],_,_,rfl,(rc (rc (rc (.cons (by rw [e]; exact aY.refl _) .nil)))),⟨4,aQ rfl,aQ rfl,rfl,rfl,aX.refl _,⟨.inl (.inl rfl),⟨.inl (.inl rfl),⟨.inl (.inl rfl),⟨.inr rfl,trivial⟩⟩⟩⟩⟩⟩
 .refine ai (by simp_all) ?_
  refine ai (by simp_all) ?_
  refine ag (λh1=>?_) (λh1=>?_)
  .refine ai (by simp_all) ?_
   have e:qO 2 a b x=⟨x.op,x.a,b,x.c,x.n,x.args,x.k,x.names,x.place,x.exit,x.once⟩:=by show (⟨x.op,sw a b x.a,sw a b x.b,x.c,x.n,x.args,x.k,x.names,x.place,x.exit,x.once⟩:au)=_; grind [pW,pV]
   exact ⟨[0,1,2,3],.t [],_,_,rfl,(rc (rc (rc (.cons (by rw [e]; exact aY.refl _) .nil)))),⟨4,aQ rfl,aQ rfl,rfl,rfl,aX.refl _,⟨.inl (.inl rfl),⟨.inl (.inl rfl),⟨.inl (.inl rfl),⟨.inr rfl,trivial⟩⟩⟩⟩⟩⟩
  .have e:qO 2 a b x=⟨x.op,x.a,x.b,x.c,x.n,x.args,x.k,x.names,x.place,x.exit,x.once⟩:=by show (⟨x.op,sw a b x.a,sw a b x.b,x.c,x.n,x.args,x.k,x.names,x.place,x.exit,x.once⟩:au)=_; grind [pW]
   exact ⟨[0,1,2,3],.t [],_,_,rfl,(rc (rc (rc (.cons (by rw [e]; exact aY.refl _) .nil)))),⟨4,aQ rfl,aQ rfl,rfl,rfl,aX.refl _,⟨.inl (.inl rfl),⟨.inl (.inl rfl),⟨.inl (.inl rfl),⟨.inr rfl,trivial⟩⟩⟩⟩⟩⟩
theorem ad6 (a b:Int) (h:nd (k.blt n) (nd (k.beq k) (br (x.2==a) (nd (k.beq k) (nd (k.blt n) (nd (k.beq k) (br (x.3==a) (nd (k.beq k) (nd (k.blt n) (nd (k.beq k) (br (x.4==a) (nd (k.beq k) (QE (.t []) [(.row 151 1 3 [(.rt 3 k 1),(.rt 3 k 2),(.rt 3 k 3)]),(.box [(ci a)]),(.box [(ci b)]),(.bo 52 14 n (g) (.some (k,[(.c (ci x.1)),(.c (ci b)),(.c (ci b)),(.c (ci b)),(.c (ci x.5)),(.o (.ar 3 1 x.6.1 (λi=>bn (x.6.2 i)))),(.c (ci x.7.1)),(.c (ci x.7.2)),(.c (.im (.v (.string x.7.3)))),(.c (.im (.sl 1 x.8.1 (λi=>cA (x.8.2 i))))),(.c (ci x.9.1)),(.c (ci x.9.2)),(.c (ci x.10)),(.c (.im (.v (.bool x.11))))])))])) (RU QE k a b n g x))))) (nd (k.blt n) (nd (k.beq k) (br (x.4==a) (nd (k.beq k) (QE (.t []) [(.row 151 1 3 [(.rt 3 k 1),(.rt 3 k 2),(.rt 3 k 3)]),(.box [(ci a)]),(.box [(ci b)]),(.bo 52 14 n (g) (.some (k,[(.c (ci x.1)),(.c (ci b)),(.c (ci x.3)),(.c (ci b)),(.c (ci x.5)),(.o (.ar 3 1 x.6.1 (λi=>bn (x.6.2 i)))),(.c (ci x.7.1)),(.c (ci x.7.2)),(.c (.im (.v (.string x.7.3)))),(.c (.im (.sl 1 x.8.1 (λi=>cA (x.8.2 i))))),(.c (ci x.9.1)),(.c (ci x.9.2)),(.c (ci x.10)),(.c (.im (.v (.bool x.11))))])))])) (SU QE k a b n g x)))))))) (nd (k.blt n) (nd (k.beq k) (br (x.3==a) (nd (k.beq k) (nd (k.blt n) (nd (k.beq k) (br (x.4==a) (nd (k.beq k) (QE (.t []) [(.row 151 1 3 [(.rt 3 k 1),(.rt 3 k 2),(.rt 3 k 3)]),(.box [(ci a)]),(.box [(ci b)]),(.bo 52 14 n (g) (.some (k,[(.c (ci x.1)),(.c (ci x.2)),(.c (ci b)),(.c (ci b)),(.c (ci x.5)),(.o (.ar 3 1 x.6.1 (λi=>bn (x.6.2 i)))),(.c (ci x.7.1)),(.c (ci x.7.2)),(.c (.im (.v (.string x.7.3)))),(.c (.im (.sl 1 x.8.1 (λi=>cA (x.8.2 i))))),(.c (ci x.9.1)),(.c (ci x.9.2)),(.c (ci x.10)),(.c (.im (.v (.bool x.11))))])))])) (TC QE k a b n g x))))) (nd (k.blt n) (nd (k.beq k) (br (x.4==a) (nd (k.beq k) (QE (.t []) [(.row 151 1 3 [(.rt 3 k 1),(.rt 3 k 2),(.rt 3 k 3)]),(.box [(ci a)]),(.box [(ci b)]),(.bo 52 14 n (g) (.some (k,[(.c (ci x.1)),(.c (ci x.2)),(.c (ci x.3)),(.c (ci b)),(.c (ci x.5)),(.o (.ar 3 1 x.6.1 (λi=>bn (x.6.2 i)))),(.c (ci x.7.1)),(.c (ci x.7.2)),(.c (.im (.v (.string x.7.3)))),(.c (.im (.sl 1 x.8.1 (λi=>cA (x.8.2 i))))),(.c (ci x.9.1)),(.c (ci x.9.2)),(.c (ci x.10)),(.c (.im (.v (.bool x.11))))])))])) (RP QE k a b n g x)))))))))):ep XR 139 pR L QE [.c (.sa 0 3),.c (.rt 1 0 0),.c (.rt 2 0 0)] [.row 151 1 3 [.rt 3 k 1,.rt 3 k 2,.rt 3 k 3],bx a,bx b,yd n k g x]:=km h
theorem Wx (a b:Int) (hk:k<n):LC 139 [.c (.sa 0 3),.c (.rt 1 0 0),.c (.rt 2 0 0)] [.row 151 1 3 [.rt 3 k 1,.rt 3 k 2,.rt 3 k 3],bx a,bx b,yd n k g x] (.t []) [.row 151 1 3 [.rt 3 k 1,.rt 3 k 2,.rt 3 k 3],bx a,bx b,yd n k g (qO 3 a b x)]:=by
 refine cM Ca (aQ (by kernel_rfl)) (cY (X:=XR) (stop:=pR) (ad6 _ _ n k g x a b ?_))
 refine ai (by simp_all) ?_
 refine ai (by simp_all) ?_
 refine ag (λh0=>?_) (λh0=>?_)
 .refine ai (by simp_all) ?_
  refine ai (by simp_all) ?_
  refine ai (by simp_all) ?_
  refine ag (λh1=>?_) (λh1=>?_)
  .refine ai (by simp_all) ?_
   refine ai (by simp_all) ?_
   refine ai (by simp_all) ?_
   refine ag (λh2=>?_) (λh2=>?_)
   .refine ai (by simp_all) ?_
    have e:qO 3 a b x=⟨x.op,b,b,b,x.n,x.args,x.k,x.names,x.place,x.exit,x.once⟩:=by show (⟨x.op,sw a b x.a,sw a b x.b,sw a b x.c,x.n,x.args,x.k,x.names,x.place,x.exit,x.once⟩:au)=_; grind [pV]
    exact ⟨[0,1,2,3],.t [],_,_,rfl,(rc (rc (rc (.cons (by rw [e]; exact aY.refl _) .nil)))),⟨4,aQ rfl,aQ rfl,rfl,rfl,aX.refl _,⟨.inl (.inl rfl),⟨.inl (.inl rfl),⟨.inl (.inl rfl),⟨.inr rfl,trivial⟩⟩⟩⟩⟩⟩
   .have e:qO 3 a b x=⟨x.op,b,b,x.c,x.n,x.args,x.k,x.names,x.place,x.exit,x.once⟩:=by show (⟨x.op,sw a b x.a,sw a b x.b,sw a b x.c,x.n,x.args,x.k,x.names,x.place,x.exit,x.once⟩:au)=_; grind [pV,pW]
    exact ⟨[0,1,2,3],.t [],_,_,rfl,(rc (rc (rc (.cons (by rw [e]; exact aY.refl _) .nil)))),⟨4,aQ rfl,aQ rfl,rfl,rfl,aX.refl _,⟨.inl (.inl rfl),⟨.inl (.inl rfl),⟨.inl (.inl rfl),⟨.inr rfl,trivial⟩⟩⟩⟩⟩⟩
  .refine ai (by simp_all) ?_
   refine ai (by simp_all) ?_
   refine ag (λh2=>?_) (λh2=>?_)
   .refine ai (by simp_all) ?_
    have e:qO 3 a b x=⟨x.op,b,x.b,b,x.n,x.args,x.k,x.names,x.place,x.exit,x.once⟩:=by show (⟨x.op,sw a b x.a,sw a b x.b,sw a b x.c,x.n,x.args,x.k,x.names,x.place,x.exit,x.once⟩:au)=_; grind [pV,pW]
    exact ⟨[0,1,2,3],.t [],_,_,rfl,(rc (rc (rc (.cons (by rw [e]; exact aY.refl _) .nil)))),⟨4,aQ rfl,aQ rfl,rfl,rfl,aX.refl _,⟨.inl (.inl rfl),⟨.inl (.inl rfl),⟨.inl (.inl rfl),⟨.inr rfl,trivial⟩⟩⟩⟩⟩⟩
   .have e:qO 3 a b x=⟨x.op,b,x.b,x.c,x.n,x.args,x.k,x.names,x.place,x.exit,x.once⟩:=by show (⟨x.op,sw a b x.a,sw a b x.b,sw a b x.c,x.n,x.args,x.k,x.names,x.place,x.exit,x.once⟩:au)=_; grind [pV,pW]
    exact ⟨[0,1,2,3],.t [],_,_,rfl,(rc (rc (rc (.cons (by rw [e]; exact aY.refl _) .nil)))),⟨4,aQ rfl,aQ rfl,rfl,rfl,aX.refl _,⟨.inl (.inl rfl),⟨.inl (.inl rfl),⟨.inl (.inl rfl),⟨.inr rfl,trivial⟩⟩⟩⟩⟩⟩
 .refine ai (by simp_all) ?_
  refine ai (by simp_all) ?_
  refine ag (λh1=>?_) (λh1=>?_)
  .refine ai (by simp_all) ?_
   refine ai (by simp_all) ?_
   refine ai (by simp_all) ?_
   refine ag (λh2=>?_) (λh2=>?_)
   .refine ai (by simp_all) ?_
    have e:qO 3 a b x=⟨x.op,x.a,b,b,x.n,x.args,x.k,x.names,x.place,x.exit,x.once⟩:=by show (⟨x.op,sw a b x.a,sw a b x.b,sw a b x.c,x.n,x.args,x.k,x.names,x.place,x.exit,x.once⟩:au)=_; grind [pW,pV]
    exact ⟨[0,1,2,3],.t [],_,_,rfl,(rc (rc (rc (.cons (by rw [e]; exact aY.refl _) .nil)))),⟨4,aQ rfl,aQ rfl,rfl,rfl,aX.refl _,⟨.inl (.inl rfl),⟨.inl (.inl rfl),⟨.inl (.inl rfl),⟨.inr rfl,trivial⟩⟩⟩⟩⟩⟩
   .have e:qO 3 a b x=⟨x.op,x.a,b,x.c,x.n,x.args,x.k,x.names,x.place,x.exit,x.once⟩:=by show (⟨x.op,sw a b x.a,sw a b x.b,sw a b x.c,x.n,x.args,x.k,x.names,x.place,x.exit,x.once⟩:au)=_; grind [pW,pV]
    exact ⟨[0,1,2,3],.t [],_,_,rfl,(rc (rc (rc (.cons (by rw [e]; exact aY.refl _) .nil)))),⟨4,aQ rfl,aQ rfl,rfl,rfl,aX.refl _,⟨.inl (.inl rfl),⟨.inl (.inl rfl),⟨.inl (.inl rfl),⟨.inr rfl,trivial⟩⟩⟩⟩⟩⟩
  .refine ai (by simp_all) ?_
   refine ai (by simp_all) ?_
   refine ag (λh2=>?_) (λh2=>?_)
   .refine ai (by simp_all) ?_
    have e:qO 3 a b x=⟨x.op,x.a,x.b,b,x.n,x.args,x.k,x.names,x.place,x.exit,x.once⟩:=by show (⟨x.op,sw a b x.a,sw a b x.b,sw a b x.c,x.n,x.args,x.k,x.names,x.place,x.exit,x.once⟩:au)=_; grind [pW,pV]
    exact ⟨[0,1,2,3],.t [],_,_,rfl,(rc (rc (rc (.cons (by rw [e]; exact aY.refl _) .nil)))),⟨4,aQ rfl,aQ rfl,rfl,rfl,aX.refl _,⟨.inl (.inl rfl),⟨.inl (.inl rfl),⟨.inl (.inl rfl),⟨.inr rfl,trivial⟩⟩⟩⟩⟩⟩
   .have e:qO 3 a b x=⟨x.op,x.a,x.b,x.c,x.n,x.args,x.k,x.names,x.place,x.exit,x.once⟩:=by show (⟨x.op,sw a b x.a,sw a b x.b,sw a b x.c,x.n,x.args,x.k,x.names,x.place,x.exit,x.once⟩:au)=_; grind [pW]
    exact ⟨[0,1,2,3],.t [],_,_,rfl,(rc (rc (rc (.cons (by rw [e]; exact aY.refl _) .nil)))),⟨4,aQ rfl,aQ rfl,rfl,rfl,aX.refl _,⟨.inl (.inl rfl),⟨.inl (.inl rfl),⟨.inl (.inl rfl),⟨.inr rfl,trivial⟩⟩⟩⟩⟩⟩
theorem ay1 (h:nd (j.blt s.1) (br (s.2 j==a) (nd (j.blt s.1) (QE (.t []) [(.row 151 1 1 [(.rt 3 j 0)]),(.box [(ci a)]),(.box [(ci b)]),(.arr 3 1 s.1 (B2 (λi=>bn (s.2 i)) j 0 [iI b]))])) (QE (.t []) [(.row 151 1 1 [(.rt 3 j 0)]),(.box [(ci a)]),(.box [(ci b)]),(.arr 3 1 s.1 (λi=>bn (s.2 i)))]))):ep XR 139 pR L QE [.c (.sa 0 1),.c (.rt 1 0 0),.c (.rt 2 0 0)] [.row 151 1 1 [.rt 3 j 0],bx a,bx b,hZ s]:=km h
theorem Y6 (hj:j<s.n):LC 139 [.c (.sa 0 1),.c (.rt 1 0 0),.c (.rt 2 0 0)] [.row 151 1 1 [.rt 3 j 0],bx a,bx b,hZ s] (.t []) [.row 151 1 1 [.rt 3 j 0],bx a,bx b,hZ (K7 s j (sw a b (s.get j)))]:=by
 refine cM Ca (aQ (by kernel_rfl)) (cY (X:=XR) (stop:=pR) (ay1 _ _ s j a b ?_))
 refine ai (by exact bX hj) ?_
 refine ag (λh0=>?_) (λh0=>?_)
 .refine ai (by exact bX hj) ?_
  exact ⟨[0,1,2,3],.t [],_,_,rfl,(rc (rc (rc (.cons (by rw [pV h0]; exact aY.arr (On s j b)) .nil)))),⟨4,aQ rfl,aQ rfl,rfl,rfl,aX.refl _,⟨.inl (.inl rfl),⟨.inl (.inl rfl),⟨.inl (.inl rfl),⟨.inr rfl,trivial⟩⟩⟩⟩⟩⟩
 .exact ⟨[0,1,2,3],.t [],_,_,rfl,(rc (rc (rc (.cons (aY.arr (HB s j _ (pW h0))) .nil)))),⟨4,aQ rfl,aQ rfl,rfl,rfl,aX.refl _,⟨.inl (.inl rfl),⟨.inl (.inl rfl),⟨.inl (.inl rfl),⟨.inr rfl,trivial⟩⟩⟩⟩⟩⟩
theorem av4 (x:cZ) (a b:Int) (h:nd (k.blt n) (nd (k.beq k) (br (x.1==a) (nd (k.beq k) (QE (.t []) [(.row 151 1 1 [(.rt 3 k 0)]),(.box [(ci a)]),(.box [(ci b)]),(.bo 59 4 n (g) (.some (k,[(.c (ci b)),(.c (ci x.2)),(.c (.im (.sl 1 x.3.1 (λi=>cA (x.3.2 i))))),(.o (.ar 3 1 x.4.1 (λi=>bn (x.4.2 i))))])))])) (QE (.t []) [(.row 151 1 1 [(.rt 3 k 0)]),(.box [(ci a)]),(.box [(ci b)]),(.bo 59 4 n (g) (.some (k,[(.c (ci x.1)),(.c (ci x.2)),(.c (.im (.sl 1 x.3.1 (λi=>cA (x.3.2 i))))),(.o (.ar 3 1 x.4.1 (λi=>bn (x.4.2 i))))])))])))):ep XR 139 pR L QE [.c (.sa 0 1),.c (.rt 1 0 0),.c (.rt 2 0 0)] [.row 151 1 1 [.rt 3 k 0],bx a,bx b,foV n k g x]:=km h
theorem ah0 (x:cZ) (a b:Int) (hk:k<n):LC 139 [.c (.sa 0 1),.c (.rt 1 0 0),.c (.rt 2 0 0)] [.row 151 1 1 [.rt 3 k 0],bx a,bx b,foV n k g x] (.t []) [.row 151 1 1 [.rt 3 k 0],bx a,bx b,foV n k g { x with value:=sw a b x.value }]:=by
 refine cM Ca (aQ (by kernel_rfl)) (cY (X:=XR) (stop:=pR) (av4 _ _ n k g x a b ?_))
 refine ai (by simp_all) ?_
 refine ai (by simp_all) ?_
 refine ag (λh0=>?_) (λh0=>?_)
 .refine ai (by simp_all) ?_
  have e:({ x with value:=sw a b x.value }:cZ)=⟨b,x.cls,x.names,x.items⟩:=by grind [pV]
  exact ⟨[0,1,2,3],.t [],_,_,rfl,(rc (rc (rc (.cons (by rw [e]; exact aY.refl _) .nil)))),⟨4,aQ rfl,aQ rfl,rfl,rfl,aX.refl _,⟨.inl (.inl rfl),⟨.inl (.inl rfl),⟨.inl (.inl rfl),⟨.inr rfl,trivial⟩⟩⟩⟩⟩⟩
 .have e:({ x with value:=sw a b x.value }:cZ)=⟨x.value,x.cls,x.names,x.items⟩:=by grind [pW]
  exact ⟨[0,1,2,3],.t [],_,_,rfl,(rc (rc (rc (.cons (by rw [e]; exact aY.refl _) .nil)))),⟨4,aQ rfl,aQ rfl,rfl,rfl,aX.refl _,⟨.inl (.inl rfl),⟨.inl (.inl rfl),⟨.inl (.inl rfl),⟨.inr rfl,trivial⟩⟩⟩⟩⟩⟩
def Je:Nat->Bool:=λi=>Nat.beq i 1
theorem aW6:Fn 140:={}
abbrev zD (aj:Sq Int):eQ:=(0,((.c (.sa 0 aj.1)),[]))
theorem bb3 (h:L (af 140 1) ⟨[(zD s),(1,((.c (.rt 1 0 0)),[])),(5,((sZ s),[])),yV],[(eJ s),(.box [(.fL 139 [2,3])]),(.box [(ci a)]),(.box [(ci b)])],[]⟩):ep (W0 s1) 140 Je L QE [.c (.sa 0 s.n),.c (.rt 1 0 0)] [hZ s,.box [.fL 139 [2,3]],bx a,bx b]:=km h
def yL (s1:Sq Int) (a b:Int) (k:Nat):VS:=⟨[(0,(.c (.sa 0 s.1)),[]),(1,(.c (.rt 1 0 0)),[]),(5,(sZ s),[]),(6,int k,[])],[(eJ s),(.box [(.fL 139 [2,3])]),(.box [(ci a)]),(.box [(ci b)])],[]⟩
abbrev A8 (aj:Sq Int) (ax aJ:Int) (aZ:Nat):List ah:=[(eJ aj),(.box [(.fL 139 [2,3])]),(.box [(ci ax)]),(.box [(ci aJ)]),(.row 151 1 1 [(.rt 0 aZ 0)]),.dead]
theorem Od (k:Nat) (h:br (decide ((↑k:Int)<(↑s.1:Int))) (nd (bQ (↑k:Int) s.1) ((LC 139 [(.c (.sa 4 1)),(.c (.rt 2 0 0)),(.c (.rt 3 0 0))] (A8 s a b k) (.t []) (A8 s1 a b k)/\nd (bQ (↑k:Int) s.1) ((LC 139 [(.c (.sa 4 1)),(.c (.rt 2 0 0)),(.c (.rt 3 0 0))] (A8 s a b k) (.t []) (A8 s1 a b k)/\L (af 140 1) ⟨[(zD s),(1,((.c (.rt 1 0 0)),[])),(5,((sZ s),[])),(6,((int (IntKind.i64.wrap ((↑k:Int)+1))),[]))],(A8 s1 a b k),[]⟩))))) (QE (.t []) [(.arr 3 1 s.1 (λi=>bn (s.2 i))),(.box [(.fL 139 [2,3])]),(.box [(ci a)]),(.box [(ci b)])])):b5 (W0 s1) 140 Je L QE 1 (yL s s1 a b k):=km h
theorem zk (s:Sq Int) (k:Nat):∀ i,i<s.n->∀ c,c<1->cD (bn ((K7 (jN a b s k) k (sw a b ((jN a b s k).get k))).get i) c) (bn ((jN a b s (k+1)).get i) c):=by
 intro i _ c _
 show cD (bn (bif Nat.beq i k then sw a b (bif Nat.blt k k then sw a b (s.get k) else s.get k) else bif Nat.blt i k then sw a b (s.get i) else s.get i) c) (bn (bif Nat.blt i (k+1) then sw a b (s.get i) else s.get i) c)
 grind [Nat.beq_refl,cD.refl,KS,Nat.blt_eq]
theorem bj3 (s:Sq Int) (hs:s.n<=1000):∀ k,k<=s.n->ae 140 4 (Go.V.bA [hZ s,.box [.fL 139 [2,3]],bx a,bx b] (.t []) [hZ (jN a b s s.n),.box [.fL 139 [2,3]],bx a,bx b]) (af 140 1) (yL (jN a b s k) (jN a b s k) a b k):=by
 refine aN (λk hk ih=>?_) ?_
 .have hc:LC 139 [.c (.sa 4 1),.c (.rt 2 0 0),.c (.rt 3 0 0)] [hZ (jN a b s k),.box [.fL 139 [2,3]],bx a,bx b,.row 151 1 1 [.rt 0 k 0],.dead] (.t []) [hZ (K7 (jN a b s k) k (sw a b ((jN a b s k).get k))),.box [.fL 139 [2,3]],bx a,bx b,.row 151 1 1 [.rt 0 k 0],.dead]:=
   bt.gQ (Y6 (jN a b s k) k a b hk) [4,2,3,0] _ rfl ⟨rfl,aQ rfl,rfl,aQ rfl,rfl,aQ rfl,rfl,aQ rfl,rfl⟩
  refine aG (X:=W0 (K7 (jN a b s k) k (sw a b ((jN a b s k).get k)))) (stop:=Je) (Od _ _ (jN a b s k) (K7 (jN a b s k) k (sw a b ((jN a b s k).get k))) a b k ?_)
  refine ag (λh=>?_) (λh=>(dec_lt h hk).elim)
  refine ai (aC hk) ⟨hc,ai (aC hk) ⟨hc,?_⟩⟩
  rw [b6 (show k<(jN a b s k).1 from hk) (by show s.n<=maxLen; unfold maxLen; omega)]
  exact ae.rename [0,1,2,3] rfl (ae.lf (yL (jN a b s (k+1)) (jN a b s (k+1)) a b (k+1)) (.cons (aY.arr (zk a b s k)) (rc (rc (rc .nil)))) ih)
 .refine aG (X:=W0 (jN a b s s.n)) (stop:=Je) (Od _ _ (jN a b s s.n) (jN a b s s.n) a b _ ?_)
  refine ag (λh=>bq h) (λh=>?_)
  exact ⟨[0,1,2,3],.t [],_,_,rfl,(rc (rc (rc (rc .nil)))),⟨4,aQ rfl,aQ rfl,rfl,rfl,aX.refl _,⟨.inr rfl,⟨.inl (.inl rfl),⟨.inl (.inl rfl),⟨.inl (.inl rfl),trivial⟩⟩⟩⟩⟩⟩
theorem Ka (s:Sq Int) (hs:s.n<=1000):LC 140 [.c (.sa 0 s.n),.c (.rt 1 0 0)] [hZ s,.box [.fL 139 [2,3]],bx a,bx b] (.t []) [hZ (jN a b s s.n),.box [.fL 139 [2,3]],bx a,bx b]:=by
 refine cM aW6 (aQ (by kernel_rfl)) (cY (X:=W0 s) (stop:=Je) (bb3 _ _ s s a b ?_))
 exact ae.lf (yL (jN a b s 0) (jN a b s 0) a b 0) (.cons (aY.arr λi _ c _=>cD.refl _) (rc (rc (rc .nil)))) (bj3 a b s hs 0 (bk _))
end
end
end Go.Proofs.YtgbbdaegmfjahaaGreat
