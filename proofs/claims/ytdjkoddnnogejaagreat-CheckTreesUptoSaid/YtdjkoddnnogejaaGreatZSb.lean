/- Part of the proof of CheckTrees: plain laws and steps of its walks, for all arguments. -/
import Derived.Test.YtdjkoddnnogejaaGreatZPl
set_option linter.unusedSimpArgs false
set_option linter.unusedVariables false
set_option linter.unusedSectionVars false
namespace Go.Proofs.YtdjkoddnnogejaaGreat
section
open Go.Vv
def qg:Option (fQ×aa)->Bool
 |some (.ret (.bool true),_)=>true
 |_=>false
theorem u6 {r:Option (fQ×aa)} (h:qg r=true):∃h',r=some (.ret (.bool true),h'):=by
 unfold qg at h
 split at h
 ·exact⟨_,rfl⟩
 ·cases h
theorem Cg:qg (HB Tryz.prog (tQ 328) gd mV 2000 16 [] aa.empty)=true:=by kernel_rfl
theorem Cl {P:Program} {call:jg} (hs:kf P call) {f:FuncId} {args:List VV} {h:aa} (ht:qg (call f args h)=true):bA P f args h λr _=>r=.ret (.bool true):=by
 obtain⟨h',hr⟩:=u6 ht
 exact(hs f args h _ _ hr).mono λr h'' hh=>hh.1
set_option maxRecDepth 100000 in
theorem xR:bA Tryz.prog 16 [] aa.empty λr _=>r=.ret (.bool true):=Cl (FB 2000) Cg
end
end Go.Proofs.YtdjkoddnnogejaaGreat
