/- The set's own check of law 19 is reckoned: it answers true. -/
import Derived.Test.YtapefhcmohbmaaaP5
set_option linter.unusedSimpArgs false
set_option linter.unusedVariables false
set_option maxRecDepth 1000000
namespace Go.Proofs.Ytapefhcmohbmaaa
open Go Go.V
noncomputable section
def isTrue (x:Option (D×List ae)):Bool:=match x with
 | some (.c (.im (.v (.bool true))),_)=>true
 | _=>false
def ac6:List (Nat×Nat):=[(59,2),(35,2),(36,2),(37,2),(38,2),(39,2),(40,2),(50,3),(27,1),(51,1),(52,1),(65,1),(76,1),(31,1),(54,1),(67,1),(68,1),(58,1),(34,1),(20,1)]
def Xz:Hint:=⟨UA,λf=>match findF f ac6 with
 | some n=>n
 | none=>0,λ_=>true⟩
def lo0:Lo:=loN lE Xz fnF (λ_=>none) 100000 40
theorem P4:gw lE Try.prog lo0:=sM pB mixed zA (λf d h=>by simp at h) 40
theorem aq3:isTrue (lo0.call 4 [] [])=true:=by kernel_rfl
theorem DR {x:Option (D×List ae)} (h:isTrue x=true):∃ rs,x=some (bool true,rs):=by
 unfold isTrue at h
 split at h
 .exact ⟨_,rfl⟩
 .simp at h
theorem Lb {f:FuncId} {d:D} (he:V.Enters Try.prog f) (h:EN lE Try.prog f [] d):LC f [] [] d []:=by
 refine ⟨he,λN ax w0 sp sl df a w E vs hR hv=>?_⟩
 have avlt:∀ b,AV ax [] E b->b<w.heap.size:=by
  rintro b (q|⟨r,x,sz,q1,q2,q3⟩)
  .exact hR.jr q
  .simp at q1
 have hE:E=[]:=List.eq_nil_of_length_eq_zero hR.len
 cases hv
 refine (h (AV ax [] E) w [] avlt hR.fS .nil).mono λe w' ⟨v,h1,h2,h3⟩=>⟨v,E,h1,Kept.refl E,hR.grown h3,?_⟩
 subst hE
 exact h2
theorem ab2:LC 4 [] [] (bool true) []:=by
 obtain ⟨rs,hr⟩:=DR aq3
 exact Lb (P4.call _ _ _ _ _ hr).1 (P4.pure hr rfl)
end
end Go.Proofs.Ytapefhcmohbmaaa
