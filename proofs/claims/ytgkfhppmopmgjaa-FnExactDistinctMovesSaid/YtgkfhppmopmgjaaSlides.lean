/- Slides of boards, the board spelled as a list: spec.l2Slide (SAbs), impl.slide (ISlide). -/
import Derived.Test.YtgkfhppmopmgjaaSAbs
import Derived.Test.YtgkfhppmopmgjaaISlide
set_option linter.all false
