/- The set's own check of law 19 is reckoned: it answers true. -/
import Derived.Test.YtgbbdaegmfjahaaP5
set_option linter.unusedSimpArgs false
set_option linter.unusedVariables false
set_option maxRecDepth 1000000
namespace Go.Proofs.Ytgbbdaegmfjahaa
open Go Go.V
noncomputable section
def isTrue (x:Option (D×List ag)):Bool:=match x with
 | some (.c (.im (.v (.bool true))),_)=>true
 | _=>false
def ak1:List (Nat×Nat):=[(67,2),(58,2),(59,2),(60,2),(61,2),(62,2),(63,2),(52,3),(28,1),(53,1),(54,1),(73,1),(84,1),(34,1),(56,1),(75,1),(76,1),(66,1),(38,1),(37,1)]
def ZX:Hint:=⟨W3,λf=>match findF f ak1 with
 | some n=>n
 | none=>0,λ_=>true⟩
def lo0:Lo:=loN my ZX fnF (λ_=>none) 100000 40
theorem PU:gP my Try.prog lo0:=uL qi mixed A4 (λf d h=>by simp at h) 40
theorem aF9:isTrue (lo0.call 4 [] [])=true:=by kernel_rfl
theorem GF {x:Option (D×List ag)} (h:isTrue x=true):∃ rs,x=some (bool true,rs):=by
 unfold isTrue at h
 split at h
 .exact ⟨_,rfl⟩
 .simp at h
theorem Ms {f:FuncId} {d:D} (he:V.Enters Try.prog f) (h:Ft my Try.prog f [] d):LC f [] [] d []:=by
 refine ⟨he,λN ay w0 sp sl df a w E vs hR hv=>?_⟩
 have avlt:∀ b,AV ay [] E b->b<w.heap.size:=by
  rintro b (q|⟨r,x,sz,q1,q2,q3⟩)
  .exact hR.jU q
  .simp at q1
 have hE:E=[]:=List.eq_nil_of_length_eq_zero hR.len
 cases hv
 refine (h (AV ay [] E) w [] avlt hR.gn .nil).mono λe w' ⟨v,h1,h2,h3⟩=>⟨v,E,h1,Kept.refl E,hR.grown h3,?_⟩
 subst hE
 exact h2
theorem ap5:LC 4 [] [] (bool true) []:=by
 obtain ⟨rs,hr⟩:=GF aF9
 exact Ms (PU.call _ _ _ _ _ hr).1 (PU.pure hr rfl)
end
end Go.Proofs.Ytgbbdaegmfjahaa
