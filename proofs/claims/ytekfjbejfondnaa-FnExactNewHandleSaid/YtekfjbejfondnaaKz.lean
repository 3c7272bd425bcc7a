/- The machine's answers are the program's. -/
import Derived.Test.YtekfjbejfondnaaKf
import Derived.Test.YtekfjbejfondnaaKe0
import Derived.Test.YtekfjbejfondnaaKg
/-! The machine's answers are the program's. -/
namespace Go.Proofs.Ytekfjbejfondnaa.Tom
open Go

theorem satX : Sat Try.prog sig X := fun f bs rs es h => by cases h
theorem sat : Sat Try.prog sig FF := sat_F (dr_ok (by kernel_rfl)) satX (fun f fn h => allF_get chk_all f fn h)

end Go.Proofs.Ytekfjbejfondnaa.Tom
