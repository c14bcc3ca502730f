/- The set's own check of law 19 is reckoned: it answers true. -/
import Derived.Test.YtgbbdaegmfjahaaGreatP5
set_option linter.unusedSimpArgs false
set_option linter.unusedVariables false
set_option maxRecDepth 1000000
namespace Go.Proofs.YtgbbdaegmfjahaaGreat
open Go Go.V
noncomputable section
def isTrue (x:Option (D×List ah)):Bool:=match x with
 | some (.c (.im (.v (.bool true))),_)=>true
 | _=>false
def aS4:List (Nat×Nat):=[(21,2),(117,2),(118,2),(119,2),(120,2),(121,2),(122,2),(55,3),(50,1),(92,1),(93,1),(56,1),(96,1),(101,1),(132,1),(139,1),(140,1),(125,1),(76,1),(75,1)]
def aE5:Hint:=⟨al2,λf=>match findF f aS4 with
 | some n=>n
 | none=>0,λ_=>true⟩
def lo0:Lo:=loN nF aE5 fnF (λ_=>none) 100000 40
theorem U2:iv nF Tryz.prog lo0:=vV si mixed CF (λf d h=>by simp at h) 40
theorem aU0:isTrue (lo0.call 23 [] [])=true:=by kernel_rfl
theorem Ha {x:Option (D×List ah)} (h:isTrue x=true):∃ rs,x=some (bool true,rs):=by
 unfold isTrue at h
 split at h
 .exact ⟨_,rfl⟩
 .simp at h
theorem PK {f:FuncId} {d:D} (he:V.Enters Tryz.prog f) (h:Hc nF Tryz.prog f [] d):LC f [] [] d []:=by
 refine ⟨he,λN aA w0 sp sl df a w E vs hR hv=>?_⟩
 have avlt:∀ b,AV aA [] E b->b<w.heap.size:=by
  rintro b (q|⟨r,x,sz,q1,q2,q3⟩)
  .exact hR.kr q
  .simp at q1
 have hE:E=[]:=List.eq_nil_of_length_eq_zero hR.len
 cases hv
 refine (h (AV aA [] E) w [] avlt hR.gP .nil).mono λe w' ⟨v,h1,h2,h3⟩=>⟨v,E,h1,Kept.refl E,hR.grown h3,?_⟩
 subst hE
 exact h2
theorem bg8:LC 23 [] [] (bool true) []:=by
 obtain ⟨rs,hr⟩:=Ha aU0
 exact PK (U2.call _ _ _ _ _ hr).1 (U2.pure hr rfl)
end
end Go.Proofs.YtgbbdaegmfjahaaGreat
