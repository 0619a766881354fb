/- The pure side of FnExactConstants: the law answers true. No condition. -/
import Derived.Test.YthoehmcijbjkdaaPFnExactConstantsx1
namespace Go.Proofs.Ythoehmcijbjkdaa.Pure
open Go.RowKit Go.Proofs.Ythoehmcijbjkdaa.PFnExactConstants Go.Proofs.YthoehmcijbjkdaaW.PrintWords Go.Proofs.YthoehmcijbjkdaaW.PrintLast

theorem FnExactConstants : laws_FnExactConstants.Pure := rfl

end Go.Proofs.Ythoehmcijbjkdaa.Pure
