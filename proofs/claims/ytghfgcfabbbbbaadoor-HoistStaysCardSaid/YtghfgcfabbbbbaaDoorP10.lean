/- The set's own check of law 21 is reckoned: it answers true. -/
import Derived.Test.YtghfgcfabbbbbaaDoorP5
set_option linter.unusedSimpArgs false
set_option linter.unusedVariables false
set_option maxRecDepth 1000000
namespace Go.Proofs.YtghfgcfabbbbbaaDoor
open Go Go.V
noncomputable section
def isTrue (x:Option (D×List ah)):Bool:=match x with
 | some (.c (.im (.v (.bool true))),_)=>true
 | _=>false
def ac9:List (Nat×Nat):=[(63,3),(42,1),(64,1),(65,1),(71,1),(89,1)]
def Xc:Hint:=⟨U5,fun f=>match findF f ac9 with
 | some n=>n
 | none=>0,fun _=>true⟩
def lo0:Lo:=loN pN Xc fnF (fun _=>none) 100000 40
theorem MH:ib pN Tryd.prog lo0:=sY wh mixed DJ (fun f d h=>by simp at h) 40
theorem aj0:isTrue (lo0.call 5 [] [])=true:=by kernel_rfl
theorem Fo {x:Option (D×List ah)} (h:isTrue x=true):∃ rs,x=some (bool true,rs):=by
 unfold isTrue at h
 split at h
 ·exact ⟨_,rfl⟩
 ·simp at h
theorem K4 {f:FuncId} {d:D} (he:V.Enters Tryd.prog f) (h:Dd pN Tryd.prog f [] d):LC f [] [] d []:=by
 refine ⟨he,fun N ay w0 sp sl df a w E vs hR hv=>?_⟩
 have avlt:∀ b,AV ay [] E b→b<w.heap.size:=by
  rintro b (q|⟨r,x,sz,q1,q2,q3⟩)
  ·exact hR.jT q
  ·simp at q1
 have hE:E=[]:=List.eq_nil_of_length_eq_zero hR.len
 cases hv
 refine (h (AV ay [] E) w [] avlt hR.gM .nil).mono fun e w' ⟨v,h1,h2,h3⟩=>⟨v,E,h1,Kept.refl E,hR.grown h3,?_⟩
 subst hE
 exact h2
theorem al5:LC 5 [] [] (bool true) []:=by
 obtain ⟨rs,hr⟩:=Fo aj0
 exact K4 (MH.call _ _ _ _ _ hr).1 (MH.pure hr rfl)
end
end Go.Proofs.YtghfgcfabbbbbaaDoor
