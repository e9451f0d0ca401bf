/- What the reference of layer 8 reckons, told of polynomials over the field. -/

import Derived.Test.YtgieppcadnhhaaaPolyF
namespace Go.Proofs.Ytgieppcadnhhaaa.RefPolyF
open Go Go.RowKit Go.Proofs.Ytgieppcadnhhaaa.P Go.Proofs.YtgieppcadnhhaaaW.PrintWords Go.Proofs.YtgieppcadnhhaaaW.PrintLast Go.Proofs.YtgieppcadnhhaaaW.PrintMore
open Go.Ar Pl Go.Proofs.Ytgieppcadnhhaaa.PolyF
/-! ### products -/
/-! ### slopes -/
/-! ### quotients -/
end Go.Proofs.Ytgieppcadnhhaaa.RefPolyF
