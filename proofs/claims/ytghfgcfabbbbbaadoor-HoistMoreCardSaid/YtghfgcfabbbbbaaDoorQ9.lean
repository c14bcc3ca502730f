/- The set's own check of law 21 is reckoned: it answers true. -/
import Derived.Test.YtghfgcfabbbbbaaDoorQ5
set_option linter.unusedSimpArgs false
set_option linter.unusedVariables false
set_option maxRecDepth 1000000
namespace Go.Proofs.YtghfgcfabbbbbaaDoor
open Go Go.V
noncomputable section
def isTrue (x:Option (D×List ae)):Bool:=match x with
 | some (.c (.im (.v (.bool true))),_)=>true
 | _=>false
def VK:List (Nat×Nat):=[(63,3),(42,1),(64,1),(65,1),(71,1),(89,1)]
def S7:Hint:=⟨QL,fun f=>match findF f VK with
 | some n=>n
 | none=>0,fun _=>true⟩
def Y0:Lo:=Y2 mn S7 Wl (fun _=>none) 100000 40
theorem K5:gm mn Tryd.prog Y0:=rz rY mixed xp (fun f d h=>by simp at h) 40
theorem XI:isTrue (Y0.call 5 [] [])=true:=by kernel_rfl
theorem BD {x:Option (D×List ae)} (h:isTrue x=true):∃ rs,x=some (bool true,rs):=by
 unfold isTrue at h
 split at h
 ·exact ⟨_,rfl⟩
 ·simp at h
theorem Hy {f:FuncId} {d:D} (he:V.Enters Tryd.prog f) (h:Cp mn Tryd.prog f [] d):LC f [] [] d []:=by
 refine ⟨he,fun N aw w0 sp sl df a w E vs hR hv=>?_⟩
 have avlt:∀ b,AV aw [] E b→b<w.heap.size:=by
  rintro b (q|⟨r,x,sz,q1,q2,q3⟩)
  ·exact hR.iQ q
  ·simp at q1
 have hE:E=[]:=List.eq_nil_of_length_eq_zero hR.len
 cases hv
 refine (h (AV aw [] E) w [] avlt hR.fL .nil).mono fun e w' ⟨v,h1,h2,h3⟩=>⟨v,E,h1,Kept.refl E,hR.grown h3,?_⟩
 subst hE
 exact h2
theorem XQ:LC 5 [] [] (bool true) []:=by
 obtain ⟨rs,hr⟩:=BD XI
 exact Hy (K5.call _ _ _ _ _ hr).1 (K5.pure hr rfl)
end
end Go.Proofs.YtghfgcfabbbbbaaDoor
